/-
  NARROWER THAN 'FOR EVERY INPUT', by the rows' own cells (each row's printed sentence says how): TrieStrong: laid · TrieParams: laid · TrieWords: laid · TrieMatches: laid · TrieKeeps: laid · TrieOwn: laid · TrieSame: laid.
  DERIVED. THE GIVEN ROWS OF THIS SEAT. 7 by the template 'for every input the law returns true; each argument reads behind the call as it read before'; 0 by the template 'total and deterministic' (their statements: YtiombjmkaejjfaaDoorTotals.lean).
  GIVEN WITH THE SEED: the statements are not yours to turn. If you find one false, say at which input.
  Laid BY PROGRAM, IN A SANDBOX (cutbox-rows.mjs): the forced cells as the released guide's own fill.sh prints them over the translation 65e26de619fac762… (all of the seat's roots in one cut). By AI agents, Wed Nov 11 2026. No macro, syntax, notation, axiom, sorry.
-/
import Derived.Test.YtiombjmkaejjfaaDoorChecked
import GoSem.Claim
import GoSem.ClaimJoined
import GoSem.ClaimMapViews
import Derived.JoinedTies
import Derived.KernelRfl
namespace Go.Proofs.YtiombjmkaejjfaaDoor
/- THE CELL 'sum', in the pinned program and in every row, IS THE sha256 OF THE DUMP (.gsa) THAT YtiombjmkaejjfaaDoorProg.lean LOADS. Nothing in Lean hashes anything: it is a label: what it is worth is what the hold of that sum in a sandbox is worth. -/
noncomputable def Tryd.pinned : Pinned := { name := "ytiombjmkaejjfaadoor", sum := "65e26de619fac76225077e4652449b9b7a5af33383b627615774471d3aa6672c", checked := Tryd.checked }
namespace Rows
def none {H : Type} : Left H := { results := [], args := [] }

/- WHAT THE LISTED PACKAGE-LEVEL VARIABLES READ AS WHEN THE CALL BEGINS. Each datum BY PROGRAM (the guide's laid-datum.mjs) off the statement by which the dump's own 'gosem.cut.vars' lays the variable. In a bare row this is a premise. The card (YtiombjmkaejjfaaDoorCards.lean) ties it to the program's text. -/
def laid_crossroad_table_Handlers {H : Type} : DataW H := .agg [.lit (.string [103, 101, 116]), .lit (.string [112, 117, 116]), .lit (.string [100, 101, 108, 101, 116, 101]), .lit (.string [108, 105, 115, 116]), .lit (.string [119, 97, 108, 107]), .lit (.string [104, 101, 97, 108, 116, 104]), .lit (.string [114, 101, 108, 111, 97, 100]), .lit (.string [115, 104, 117, 116, 100, 111, 119, 110])]

/-- 'crossroadlaw08.TrieStrong': WHATEVER THE INPUT: true; the input reads as it did. -/
def trieStrongSpec : ChangeSpec := { name := "trieStrong", fn := fun _ => fun
  | [d1, d2] => { results := [.lit (.bool true)], args := [d1, d2] }
  | _ => none }
def trieStrongRow : OpenClaim := { program := "ytiombjmkaejjfaadoor", sum := "65e26de619fac76225077e4652449b9b7a5af33383b627615774471d3aa6672c", func := "crossroad/crossroadlaw08.TrieStrong", spec := "trieStrong", unfollowed := true, recurses := true, named := ["crossroad/table.Handlers"], plainKeys := false, apart := false, laid := [("crossroad/table.Handlers", laid_crossroad_table_Handlers)] }
def TrieStrongSaid : Prop := trieStrongRow.holds Tryd.pinned (OpenSpec.ofChange trieStrongSpec)

/-- ITS FALSE NEIGHBOUR: 'it returns false'. Refute it at one input. -/
def trieStrongWrong : ChangeSpec := { name := "trieStrong", fn := fun _ => fun
  | [d1, d2] => { results := [.lit (.bool false)], args := [d1, d2] }
  | _ => none }
def TrieStrongWrongFalsely : Prop := trieStrongRow.holds Tryd.pinned (OpenSpec.ofChange trieStrongWrong)

/-- 'crossroadlaw08.TrieParams': WHATEVER THE INPUT: true; the input reads as it did. -/
def trieParamsSpec : ChangeSpec := { name := "trieParams", fn := fun _ => fun
  | [d1, d2] => { results := [.lit (.bool true)], args := [d1, d2] }
  | _ => none }
def trieParamsRow : OpenClaim := { program := "ytiombjmkaejjfaadoor", sum := "65e26de619fac76225077e4652449b9b7a5af33383b627615774471d3aa6672c", func := "crossroad/crossroadlaw08.TrieParams", spec := "trieParams", unfollowed := true, recurses := true, named := ["crossroad/table.Handlers"], plainKeys := false, apart := false, laid := [("crossroad/table.Handlers", laid_crossroad_table_Handlers)] }
def TrieParamsSaid : Prop := trieParamsRow.holds Tryd.pinned (OpenSpec.ofChange trieParamsSpec)

/-- ITS FALSE NEIGHBOUR: 'it returns false'. Refute it at one input. -/
def trieParamsWrong : ChangeSpec := { name := "trieParams", fn := fun _ => fun
  | [d1, d2] => { results := [.lit (.bool false)], args := [d1, d2] }
  | _ => none }
def TrieParamsWrongFalsely : Prop := trieParamsRow.holds Tryd.pinned (OpenSpec.ofChange trieParamsWrong)

/-- 'crossroadlaw08.TrieWords': WHATEVER THE INPUT: true; the input reads as it did. -/
def trieWordsSpec : ChangeSpec := { name := "trieWords", fn := fun _ => fun
  | [d1, d2] => { results := [.lit (.bool true)], args := [d1, d2] }
  | _ => none }
def trieWordsRow : OpenClaim := { program := "ytiombjmkaejjfaadoor", sum := "65e26de619fac76225077e4652449b9b7a5af33383b627615774471d3aa6672c", func := "crossroad/crossroadlaw08.TrieWords", spec := "trieWords", unfollowed := true, recurses := true, named := ["crossroad/table.Handlers"], plainKeys := false, apart := false, laid := [("crossroad/table.Handlers", laid_crossroad_table_Handlers)] }
def TrieWordsSaid : Prop := trieWordsRow.holds Tryd.pinned (OpenSpec.ofChange trieWordsSpec)

/-- ITS FALSE NEIGHBOUR: 'it returns false'. Refute it at one input. -/
def trieWordsWrong : ChangeSpec := { name := "trieWords", fn := fun _ => fun
  | [d1, d2] => { results := [.lit (.bool false)], args := [d1, d2] }
  | _ => none }
def TrieWordsWrongFalsely : Prop := trieWordsRow.holds Tryd.pinned (OpenSpec.ofChange trieWordsWrong)

/-- 'crossroadlaw08.TrieMatches': WHATEVER THE INPUT: true; the input reads as it did. -/
def trieMatchesSpec : ChangeSpec := { name := "trieMatches", fn := fun _ => fun
  | [d1, d2, d3] => { results := [.lit (.bool true)], args := [d1, d2, d3] }
  | _ => none }
def trieMatchesRow : OpenClaim := { program := "ytiombjmkaejjfaadoor", sum := "65e26de619fac76225077e4652449b9b7a5af33383b627615774471d3aa6672c", func := "crossroad/crossroadlaw08.TrieMatches", spec := "trieMatches", unfollowed := true, recurses := true, named := ["crossroad/table.Handlers"], plainKeys := false, apart := false, laid := [("crossroad/table.Handlers", laid_crossroad_table_Handlers)] }
def TrieMatchesSaid : Prop := trieMatchesRow.holds Tryd.pinned (OpenSpec.ofChange trieMatchesSpec)

/-- ITS FALSE NEIGHBOUR: 'it returns false'. Refute it at one input. -/
def trieMatchesWrong : ChangeSpec := { name := "trieMatches", fn := fun _ => fun
  | [d1, d2, d3] => { results := [.lit (.bool false)], args := [d1, d2, d3] }
  | _ => none }
def TrieMatchesWrongFalsely : Prop := trieMatchesRow.holds Tryd.pinned (OpenSpec.ofChange trieMatchesWrong)

/-- 'crossroadlaw08.TrieKeeps': WHATEVER THE INPUT: true; the input reads as it did. -/
def trieKeepsSpec : ChangeSpec := { name := "trieKeeps", fn := fun _ => fun
  | [d1, d2, d3] => { results := [.lit (.bool true)], args := [d1, d2, d3] }
  | _ => none }
def trieKeepsRow : OpenClaim := { program := "ytiombjmkaejjfaadoor", sum := "65e26de619fac76225077e4652449b9b7a5af33383b627615774471d3aa6672c", func := "crossroad/crossroadlaw08.TrieKeeps", spec := "trieKeeps", unfollowed := true, recurses := true, named := ["crossroad/table.Handlers"], plainKeys := false, apart := false, laid := [("crossroad/table.Handlers", laid_crossroad_table_Handlers)] }
def TrieKeepsSaid : Prop := trieKeepsRow.holds Tryd.pinned (OpenSpec.ofChange trieKeepsSpec)

/-- ITS FALSE NEIGHBOUR: 'it returns false'. Refute it at one input. -/
def trieKeepsWrong : ChangeSpec := { name := "trieKeeps", fn := fun _ => fun
  | [d1, d2, d3] => { results := [.lit (.bool false)], args := [d1, d2, d3] }
  | _ => none }
def TrieKeepsWrongFalsely : Prop := trieKeepsRow.holds Tryd.pinned (OpenSpec.ofChange trieKeepsWrong)

/-- 'crossroadlaw08.TrieOwn': WHATEVER THE INPUT: true; the input reads as it did. -/
def trieOwnSpec : ChangeSpec := { name := "trieOwn", fn := fun _ => fun
  | [d1, d2] => { results := [.lit (.bool true)], args := [d1, d2] }
  | _ => none }
def trieOwnRow : OpenClaim := { program := "ytiombjmkaejjfaadoor", sum := "65e26de619fac76225077e4652449b9b7a5af33383b627615774471d3aa6672c", func := "crossroad/crossroadlaw08.TrieOwn", spec := "trieOwn", unfollowed := true, recurses := true, named := ["crossroad/table.Handlers"], plainKeys := false, apart := false, laid := [("crossroad/table.Handlers", laid_crossroad_table_Handlers)] }
def TrieOwnSaid : Prop := trieOwnRow.holds Tryd.pinned (OpenSpec.ofChange trieOwnSpec)

/-- ITS FALSE NEIGHBOUR: 'it returns false'. Refute it at one input. -/
def trieOwnWrong : ChangeSpec := { name := "trieOwn", fn := fun _ => fun
  | [d1, d2] => { results := [.lit (.bool false)], args := [d1, d2] }
  | _ => none }
def TrieOwnWrongFalsely : Prop := trieOwnRow.holds Tryd.pinned (OpenSpec.ofChange trieOwnWrong)

/-- 'crossroadlaw08.TrieSame': WHATEVER THE INPUT: true; the input reads as it did. -/
def trieSameSpec : ChangeSpec := { name := "trieSame", fn := fun _ => fun
  | [d1, d2] => { results := [.lit (.bool true)], args := [d1, d2] }
  | _ => none }
def trieSameRow : OpenClaim := { program := "ytiombjmkaejjfaadoor", sum := "65e26de619fac76225077e4652449b9b7a5af33383b627615774471d3aa6672c", func := "crossroad/crossroadlaw08.TrieSame", spec := "trieSame", unfollowed := true, recurses := true, named := ["crossroad/table.Handlers"], plainKeys := false, apart := false, laid := [("crossroad/table.Handlers", laid_crossroad_table_Handlers)] }
def TrieSameSaid : Prop := trieSameRow.holds Tryd.pinned (OpenSpec.ofChange trieSameSpec)

/-- ITS FALSE NEIGHBOUR: 'it returns false'. Refute it at one input. -/
def trieSameWrong : ChangeSpec := { name := "trieSame", fn := fun _ => fun
  | [d1, d2] => { results := [.lit (.bool false)], args := [d1, d2] }
  | _ => none }
def TrieSameWrongFalsely : Prop := trieSameRow.holds Tryd.pinned (OpenSpec.ofChange trieSameWrong)

/- THE SECOND FORM. 'bulk': how many values and letters a reading holds, each counted each time it is reached (what is shared counts as often as it is met; a slice's spare places count too). A statement '..UptoSaid' is the law's where the arguments, and the package variables that the reading takes, are together of bulk at most 1048576: NARROWER than '..Said'. Prove '..Said' where nothing that the law and all that it calls make is longer than what came in: it says more and counts as full. Else prove '..UptoSaid'. A law counts once. -/
mutual
def uptoBulk {H : Type} : DataW H → Nat
  | .lit (.string bytes) => bytes.length + 1
  | .lit _ => 1
  | .nil => 1
  | .ptr d => uptoBulk d + 1
  | .slice elems spare => uptoBulkAll elems + uptoBulkAll spare + 1
  | .agg parts => uptoBulkAll parts + 1
  | .iface _ d => uptoBulk d + 1
  | .map entries => uptoBulkEntries entries + 1
  | .held _ => 1
def uptoBulkAll {H : Type} : List (DataW H) → Nat
  | [] => 0
  | d :: r => uptoBulk d + uptoBulkAll r
def uptoBulkEntries {H : Type} : List (Lit × DataW H) → Nat
  | [] => 0
  | x :: r => uptoBulkEntry x + uptoBulkEntries r
def uptoBulkEntry {H : Type} : Lit × DataW H → Nat
  | (.string bytes, d) => bytes.length + uptoBulk d + 1
  | (_, d) => uptoBulk d + 1
 end
def uptoSmall : (H : Type) → List (DataW H) → Bool := fun _ ds => decide (uptoBulkAll ds ≤ 1048576)
def OpenSpec.upto (s : _root_.Go.ChangeSpec) : _root_.Go.OpenSpec := { _root_.Go.OpenSpec.ofChange s with cond := some uptoSmall }

/-- 'crossroadlaw08.TrieStrong', WHERE WHAT IT READS IS OF BULK AT MOST 1048576: true; the input reads as it did. -/
def trieStrongUptoRow : OpenClaim := { program := "ytiombjmkaejjfaadoor", sum := "65e26de619fac76225077e4652449b9b7a5af33383b627615774471d3aa6672c", func := "crossroad/crossroadlaw08.TrieStrong", spec := "trieStrong", unfollowed := true, recurses := true, named := ["crossroad/table.Handlers"], plainKeys := false, apart := false, laid := [("crossroad/table.Handlers", laid_crossroad_table_Handlers)], narrowed := true }
def TrieStrongUptoSaid : Prop := trieStrongUptoRow.holds Tryd.pinned (OpenSpec.upto trieStrongSpec)

/-- 'crossroadlaw08.TrieParams', WHERE WHAT IT READS IS OF BULK AT MOST 1048576: true; the input reads as it did. -/
def trieParamsUptoRow : OpenClaim := { program := "ytiombjmkaejjfaadoor", sum := "65e26de619fac76225077e4652449b9b7a5af33383b627615774471d3aa6672c", func := "crossroad/crossroadlaw08.TrieParams", spec := "trieParams", unfollowed := true, recurses := true, named := ["crossroad/table.Handlers"], plainKeys := false, apart := false, laid := [("crossroad/table.Handlers", laid_crossroad_table_Handlers)], narrowed := true }
def TrieParamsUptoSaid : Prop := trieParamsUptoRow.holds Tryd.pinned (OpenSpec.upto trieParamsSpec)

/-- 'crossroadlaw08.TrieWords', WHERE WHAT IT READS IS OF BULK AT MOST 1048576: true; the input reads as it did. -/
def trieWordsUptoRow : OpenClaim := { program := "ytiombjmkaejjfaadoor", sum := "65e26de619fac76225077e4652449b9b7a5af33383b627615774471d3aa6672c", func := "crossroad/crossroadlaw08.TrieWords", spec := "trieWords", unfollowed := true, recurses := true, named := ["crossroad/table.Handlers"], plainKeys := false, apart := false, laid := [("crossroad/table.Handlers", laid_crossroad_table_Handlers)], narrowed := true }
def TrieWordsUptoSaid : Prop := trieWordsUptoRow.holds Tryd.pinned (OpenSpec.upto trieWordsSpec)

/-- 'crossroadlaw08.TrieMatches', WHERE WHAT IT READS IS OF BULK AT MOST 1048576: true; the input reads as it did. -/
def trieMatchesUptoRow : OpenClaim := { program := "ytiombjmkaejjfaadoor", sum := "65e26de619fac76225077e4652449b9b7a5af33383b627615774471d3aa6672c", func := "crossroad/crossroadlaw08.TrieMatches", spec := "trieMatches", unfollowed := true, recurses := true, named := ["crossroad/table.Handlers"], plainKeys := false, apart := false, laid := [("crossroad/table.Handlers", laid_crossroad_table_Handlers)], narrowed := true }
def TrieMatchesUptoSaid : Prop := trieMatchesUptoRow.holds Tryd.pinned (OpenSpec.upto trieMatchesSpec)

/-- 'crossroadlaw08.TrieKeeps', WHERE WHAT IT READS IS OF BULK AT MOST 1048576: true; the input reads as it did. -/
def trieKeepsUptoRow : OpenClaim := { program := "ytiombjmkaejjfaadoor", sum := "65e26de619fac76225077e4652449b9b7a5af33383b627615774471d3aa6672c", func := "crossroad/crossroadlaw08.TrieKeeps", spec := "trieKeeps", unfollowed := true, recurses := true, named := ["crossroad/table.Handlers"], plainKeys := false, apart := false, laid := [("crossroad/table.Handlers", laid_crossroad_table_Handlers)], narrowed := true }
def TrieKeepsUptoSaid : Prop := trieKeepsUptoRow.holds Tryd.pinned (OpenSpec.upto trieKeepsSpec)

/-- 'crossroadlaw08.TrieOwn', WHERE WHAT IT READS IS OF BULK AT MOST 1048576: true; the input reads as it did. -/
def trieOwnUptoRow : OpenClaim := { program := "ytiombjmkaejjfaadoor", sum := "65e26de619fac76225077e4652449b9b7a5af33383b627615774471d3aa6672c", func := "crossroad/crossroadlaw08.TrieOwn", spec := "trieOwn", unfollowed := true, recurses := true, named := ["crossroad/table.Handlers"], plainKeys := false, apart := false, laid := [("crossroad/table.Handlers", laid_crossroad_table_Handlers)], narrowed := true }
def TrieOwnUptoSaid : Prop := trieOwnUptoRow.holds Tryd.pinned (OpenSpec.upto trieOwnSpec)

/-- 'crossroadlaw08.TrieSame', WHERE WHAT IT READS IS OF BULK AT MOST 1048576: true; the input reads as it did. -/
def trieSameUptoRow : OpenClaim := { program := "ytiombjmkaejjfaadoor", sum := "65e26de619fac76225077e4652449b9b7a5af33383b627615774471d3aa6672c", func := "crossroad/crossroadlaw08.TrieSame", spec := "trieSame", unfollowed := true, recurses := true, named := ["crossroad/table.Handlers"], plainKeys := false, apart := false, laid := [("crossroad/table.Handlers", laid_crossroad_table_Handlers)], narrowed := true }
def TrieSameUptoSaid : Prop := trieSameUptoRow.holds Tryd.pinned (OpenSpec.upto trieSameSpec)

end Rows
end Go.Proofs.YtiombjmkaejjfaaDoor
