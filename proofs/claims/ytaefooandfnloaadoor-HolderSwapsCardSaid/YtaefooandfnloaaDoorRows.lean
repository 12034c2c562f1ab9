/-
  NARROWER THAN 'FOR EVERY INPUT', by the rows' own cells (each row's printed sentence says how): HolderVersions: laid · HolderSwaps: laid · HolderOld: laid.
  DERIVED. THE GIVEN ROWS OF THIS SEAT. 3 by the template 'for every input the law returns true; each argument reads behind the call as it read before'; 0 by the template 'total and deterministic' (their statements: YtaefooandfnloaaDoorTotals.lean).
  GIVEN WITH THE SEED: the statements are not yours to turn. If you find one false, say at which input.
  Laid BY PROGRAM, IN A SANDBOX (cutbox-rows.mjs): the forced cells as the released guide's own fill.sh prints them over the translation 7d94ddbbd549c317… (all of the seat's roots in one cut). By AI agents, Wed Nov 11 2026. No macro, syntax, notation, axiom, sorry.
-/
import Derived.Test.YtaefooandfnloaaDoorChecked
import GoSem.Claim
import GoSem.ClaimJoined
import GoSem.ClaimMapViews
import Derived.JoinedTies
import Derived.KernelRfl
namespace Go.Proofs.YtaefooandfnloaaDoor
/- THE CELL 'sum', in the pinned program and in every row, IS THE sha256 OF THE DUMP (.gsa) THAT YtaefooandfnloaaDoorProg.lean LOADS. Nothing in Lean hashes anything: it is a label: what it is worth is what the hold of that sum in a sandbox is worth. -/
noncomputable def Tryd.pinned : Pinned := { name := "ytaefooandfnloaadoor", sum := "7d94ddbbd549c3174b1a26693a04fbea57d57fd63cd928914636c85d26b8c25f", checked := Tryd.checked }
namespace Rows
def none {H : Type} : Left H := { results := [], args := [] }

/- WHAT THE LISTED PACKAGE-LEVEL VARIABLES READ AS WHEN THE CALL BEGINS. Each datum BY PROGRAM (the guide's laid-datum.mjs) off the statement by which the dump's own 'gosem.cut.vars' lays the variable. In a bare row this is a premise. The card (YtaefooandfnloaaDoorCards.lean) ties it to the program's text. -/
def laid_crossroad_table_Handlers {H : Type} : DataW H := .agg [.lit (.string [103, 101, 116]), .lit (.string [112, 117, 116]), .lit (.string [100, 101, 108, 101, 116, 101]), .lit (.string [108, 105, 115, 116]), .lit (.string [119, 97, 108, 107]), .lit (.string [104, 101, 97, 108, 116, 104]), .lit (.string [114, 101, 108, 111, 97, 100]), .lit (.string [115, 104, 117, 116, 100, 111, 119, 110])]

/-- 'crossroadlaw09.HolderVersions': WHATEVER THE INPUT: true; the input reads as it did. -/
def holderVersionsSpec : ChangeSpec := { name := "holderVersions", fn := fun _ => fun
  | [d] => { results := [.lit (.bool true)], args := [d] }
  | _ => none }
def holderVersionsRow : OpenClaim := { program := "ytaefooandfnloaadoor", sum := "7d94ddbbd549c3174b1a26693a04fbea57d57fd63cd928914636c85d26b8c25f", func := "crossroad/crossroadlaw09.HolderVersions", spec := "holderVersions", unfollowed := true, recurses := true, named := ["crossroad/table.Handlers"], plainKeys := false, apart := false, laid := [("crossroad/table.Handlers", laid_crossroad_table_Handlers)] }
def HolderVersionsSaid : Prop := holderVersionsRow.holds Tryd.pinned (OpenSpec.ofChange holderVersionsSpec)

/-- ITS FALSE NEIGHBOUR: 'it returns false'. Refute it at one input. -/
def holderVersionsWrong : ChangeSpec := { name := "holderVersions", fn := fun _ => fun
  | [d] => { results := [.lit (.bool false)], args := [d] }
  | _ => none }
def HolderVersionsWrongFalsely : Prop := holderVersionsRow.holds Tryd.pinned (OpenSpec.ofChange holderVersionsWrong)

/-- 'crossroadlaw09.HolderSwaps': WHATEVER THE INPUT: true; the input reads as it did. -/
def holderSwapsSpec : ChangeSpec := { name := "holderSwaps", fn := fun _ => fun
  | [d1, d2] => { results := [.lit (.bool true)], args := [d1, d2] }
  | _ => none }
def holderSwapsRow : OpenClaim := { program := "ytaefooandfnloaadoor", sum := "7d94ddbbd549c3174b1a26693a04fbea57d57fd63cd928914636c85d26b8c25f", func := "crossroad/crossroadlaw09.HolderSwaps", spec := "holderSwaps", unfollowed := true, recurses := true, named := ["crossroad/table.Handlers"], plainKeys := false, apart := false, laid := [("crossroad/table.Handlers", laid_crossroad_table_Handlers)] }
def HolderSwapsSaid : Prop := holderSwapsRow.holds Tryd.pinned (OpenSpec.ofChange holderSwapsSpec)

/-- ITS FALSE NEIGHBOUR: 'it returns false'. Refute it at one input. -/
def holderSwapsWrong : ChangeSpec := { name := "holderSwaps", fn := fun _ => fun
  | [d1, d2] => { results := [.lit (.bool false)], args := [d1, d2] }
  | _ => none }
def HolderSwapsWrongFalsely : Prop := holderSwapsRow.holds Tryd.pinned (OpenSpec.ofChange holderSwapsWrong)

/-- 'crossroadlaw09.HolderOld': WHATEVER THE INPUT: true; the input reads as it did. -/
def holderOldSpec : ChangeSpec := { name := "holderOld", fn := fun _ => fun
  | [d1, d2] => { results := [.lit (.bool true)], args := [d1, d2] }
  | _ => none }
def holderOldRow : OpenClaim := { program := "ytaefooandfnloaadoor", sum := "7d94ddbbd549c3174b1a26693a04fbea57d57fd63cd928914636c85d26b8c25f", func := "crossroad/crossroadlaw09.HolderOld", spec := "holderOld", unfollowed := true, recurses := true, named := ["crossroad/table.Handlers"], plainKeys := false, apart := false, laid := [("crossroad/table.Handlers", laid_crossroad_table_Handlers)] }
def HolderOldSaid : Prop := holderOldRow.holds Tryd.pinned (OpenSpec.ofChange holderOldSpec)

/-- ITS FALSE NEIGHBOUR: 'it returns false'. Refute it at one input. -/
def holderOldWrong : ChangeSpec := { name := "holderOld", fn := fun _ => fun
  | [d1, d2] => { results := [.lit (.bool false)], args := [d1, d2] }
  | _ => none }
def HolderOldWrongFalsely : Prop := holderOldRow.holds Tryd.pinned (OpenSpec.ofChange holderOldWrong)

/- THE SECOND FORM. 'bulk': how many values and letters a reading holds, each counted each time it is reached (what is shared counts as often as it is met; a slice's spare places count too). A statement '..UptoSaid' is the law's where the arguments, and the package variables that the reading takes, are together of bulk at most 1048576: NARROWER than '..Said'. Prove '..Said' where nothing that the law and all that it calls make is longer than what came in: it says more and counts as full. Else prove '..UptoSaid'. A law counts once. -/
mutual
def uptoBulk {H : Type} : DataW H → Nat
  | .lit (.string bytes) => bytes.length + 1
  | .lit _ => 1
  | .nil => 1
  | .ptr d => uptoBulk d + 1
  | .slice elems spare => uptoBulkAll elems + uptoBulkAll spare + 1
  | .agg parts => uptoBulkAll parts + 1
  | .iface _ d => uptoBulk d + 1
  | .map entries => uptoBulkEntries entries + 1
  | .held _ => 1
def uptoBulkAll {H : Type} : List (DataW H) → Nat
  | [] => 0
  | d :: r => uptoBulk d + uptoBulkAll r
def uptoBulkEntries {H : Type} : List (Lit × DataW H) → Nat
  | [] => 0
  | x :: r => uptoBulkEntry x + uptoBulkEntries r
def uptoBulkEntry {H : Type} : Lit × DataW H → Nat
  | (.string bytes, d) => bytes.length + uptoBulk d + 1
  | (_, d) => uptoBulk d + 1
 end
def uptoSmall : (H : Type) → List (DataW H) → Bool := fun _ ds => decide (uptoBulkAll ds ≤ 1048576)
def OpenSpec.upto (s : _root_.Go.ChangeSpec) : _root_.Go.OpenSpec := { _root_.Go.OpenSpec.ofChange s with cond := some uptoSmall }

/-- 'crossroadlaw09.HolderVersions', WHERE WHAT IT READS IS OF BULK AT MOST 1048576: true; the input reads as it did. -/
def holderVersionsUptoRow : OpenClaim := { program := "ytaefooandfnloaadoor", sum := "7d94ddbbd549c3174b1a26693a04fbea57d57fd63cd928914636c85d26b8c25f", func := "crossroad/crossroadlaw09.HolderVersions", spec := "holderVersions", unfollowed := true, recurses := true, named := ["crossroad/table.Handlers"], plainKeys := false, apart := false, laid := [("crossroad/table.Handlers", laid_crossroad_table_Handlers)], narrowed := true }
def HolderVersionsUptoSaid : Prop := holderVersionsUptoRow.holds Tryd.pinned (OpenSpec.upto holderVersionsSpec)

/-- 'crossroadlaw09.HolderSwaps', WHERE WHAT IT READS IS OF BULK AT MOST 1048576: true; the input reads as it did. -/
def holderSwapsUptoRow : OpenClaim := { program := "ytaefooandfnloaadoor", sum := "7d94ddbbd549c3174b1a26693a04fbea57d57fd63cd928914636c85d26b8c25f", func := "crossroad/crossroadlaw09.HolderSwaps", spec := "holderSwaps", unfollowed := true, recurses := true, named := ["crossroad/table.Handlers"], plainKeys := false, apart := false, laid := [("crossroad/table.Handlers", laid_crossroad_table_Handlers)], narrowed := true }
def HolderSwapsUptoSaid : Prop := holderSwapsUptoRow.holds Tryd.pinned (OpenSpec.upto holderSwapsSpec)

/-- 'crossroadlaw09.HolderOld', WHERE WHAT IT READS IS OF BULK AT MOST 1048576: true; the input reads as it did. -/
def holderOldUptoRow : OpenClaim := { program := "ytaefooandfnloaadoor", sum := "7d94ddbbd549c3174b1a26693a04fbea57d57fd63cd928914636c85d26b8c25f", func := "crossroad/crossroadlaw09.HolderOld", spec := "holderOld", unfollowed := true, recurses := true, named := ["crossroad/table.Handlers"], plainKeys := false, apart := false, laid := [("crossroad/table.Handlers", laid_crossroad_table_Handlers)], narrowed := true }
def HolderOldUptoSaid : Prop := holderOldUptoRow.holds Tryd.pinned (OpenSpec.upto holderOldSpec)

end Rows
end Go.Proofs.YtaefooandfnloaaDoor
