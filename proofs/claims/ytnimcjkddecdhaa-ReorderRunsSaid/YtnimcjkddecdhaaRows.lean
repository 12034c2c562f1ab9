/-
  No cell of these rows narrows 'for every input' (looked for: loops, veiled, ifaces, maps, wideKeys, modest, calm, conditions, laid).
  DERIVED. THE GIVEN ROWS OF THIS SEAT. 3 by the template 'for every input the law returns true; each argument reads behind the call as it read before'; 0 by the template 'total and deterministic' (their statements: YtnimcjkddecdhaaTotals.lean).
  GIVEN WITH THE SEED: the statements are not yours to turn. If you find one false, say at which input.
  Laid BY PROGRAM, IN A SANDBOX (cutbox-rows.mjs): the forced cells as the released guide's own fill.sh prints them over the translation 620fa6516510a218… (all of the seat's roots in one cut). By AI agents, Wed Nov 11 2026. No macro, syntax, notation, axiom, sorry.
-/
import Derived.Test.YtnimcjkddecdhaaChecked
import GoSem.Claim
import GoSem.ClaimJoined
import GoSem.ClaimMapViews
import Derived.JoinedTies
import Derived.KernelRfl
namespace Go.Proofs.Ytnimcjkddecdhaa
/- THE CELL 'sum', in the pinned program and in every row, IS THE sha256 OF THE DUMP (.gsa) THAT YtnimcjkddecdhaaProg.lean LOADS. Nothing in Lean hashes anything: it is a label: what it is worth is what the hold of that sum in a sandbox is worth. -/
noncomputable def Try.pinned : Pinned := { name := "ytnimcjkddecdhaa", sum := "620fa6516510a2186f42668911c91bad2d773e37dbbc89a8c7e672885163f456", checked := Try.checked }
namespace Rows
def none {H : Type} : Left H := { results := [], args := [] }

/-- 'crossroadlaw15.ReorderRuns': WHATEVER THE INPUT: true; the input reads as it did. -/
def reorderRunsSpec : ChangeSpec := { name := "reorderRuns", fn := fun _ => fun
  | [d1, d2] => { results := [.lit (.bool true)], args := [d1, d2] }
  | _ => none }
def reorderRunsRow : OpenClaim := { program := "ytnimcjkddecdhaa", sum := "620fa6516510a2186f42668911c91bad2d773e37dbbc89a8c7e672885163f456", func := "crossroad/crossroadlaw15.ReorderRuns", spec := "reorderRuns", apart := false }
def ReorderRunsSaid : Prop := reorderRunsRow.holds Try.pinned (OpenSpec.ofChange reorderRunsSpec)

/-- ITS FALSE NEIGHBOUR: 'it returns false'. Refute it at one input. -/
def reorderRunsWrong : ChangeSpec := { name := "reorderRuns", fn := fun _ => fun
  | [d1, d2] => { results := [.lit (.bool false)], args := [d1, d2] }
  | _ => none }
def ReorderRunsWrongFalsely : Prop := reorderRunsRow.holds Try.pinned (OpenSpec.ofChange reorderRunsWrong)

/-- 'crossroadlaw15.ReorderTurns': WHATEVER THE INPUT: true; the input reads as it did. -/
def reorderTurnsSpec : ChangeSpec := { name := "reorderTurns", fn := fun _ => fun
  | [d] => { results := [.lit (.bool true)], args := [d] }
  | _ => none }
def reorderTurnsRow : OpenClaim := { program := "ytnimcjkddecdhaa", sum := "620fa6516510a2186f42668911c91bad2d773e37dbbc89a8c7e672885163f456", func := "crossroad/crossroadlaw15.ReorderTurns", spec := "reorderTurns", apart := false }
def ReorderTurnsSaid : Prop := reorderTurnsRow.holds Try.pinned (OpenSpec.ofChange reorderTurnsSpec)

/-- ITS FALSE NEIGHBOUR: 'it returns false'. Refute it at one input. -/
def reorderTurnsWrong : ChangeSpec := { name := "reorderTurns", fn := fun _ => fun
  | [d] => { results := [.lit (.bool false)], args := [d] }
  | _ => none }
def ReorderTurnsWrongFalsely : Prop := reorderTurnsRow.holds Try.pinned (OpenSpec.ofChange reorderTurnsWrong)

/-- 'crossroadlaw15.ReorderSizes': WHATEVER THE INPUT: true; the input reads as it did. -/
def reorderSizesSpec : ChangeSpec := { name := "reorderSizes", fn := fun _ => fun
  | [d1, d2] => { results := [.lit (.bool true)], args := [d1, d2] }
  | _ => none }
def reorderSizesRow : OpenClaim := { program := "ytnimcjkddecdhaa", sum := "620fa6516510a2186f42668911c91bad2d773e37dbbc89a8c7e672885163f456", func := "crossroad/crossroadlaw15.ReorderSizes", spec := "reorderSizes", apart := false }
def ReorderSizesSaid : Prop := reorderSizesRow.holds Try.pinned (OpenSpec.ofChange reorderSizesSpec)

/-- ITS FALSE NEIGHBOUR: 'it returns false'. Refute it at one input. -/
def reorderSizesWrong : ChangeSpec := { name := "reorderSizes", fn := fun _ => fun
  | [d1, d2] => { results := [.lit (.bool false)], args := [d1, d2] }
  | _ => none }
def ReorderSizesWrongFalsely : Prop := reorderSizesRow.holds Try.pinned (OpenSpec.ofChange reorderSizesWrong)

/- THE SECOND FORM. 'bulk': how many values and letters a reading holds, each counted each time it is reached (what is shared counts as often as it is met; a slice's spare places count too). A statement '..UptoSaid' is the law's where the arguments, and the package variables that the reading takes, are together of bulk at most 1048576: NARROWER than '..Said'. Prove '..Said' where nothing that the law and all that it calls make is longer than what came in: it says more and counts as full. Else prove '..UptoSaid'. A law counts once. -/
mutual
def uptoBulk {H : Type} : DataW H → Nat
  | .lit (.string bytes) => bytes.length + 1
  | .lit _ => 1
  | .nil => 1
  | .ptr d => uptoBulk d + 1
  | .slice elems spare => uptoBulkAll elems + uptoBulkAll spare + 1
  | .agg parts => uptoBulkAll parts + 1
  | .iface _ d => uptoBulk d + 1
  | .map entries => uptoBulkEntries entries + 1
  | .held _ => 1
def uptoBulkAll {H : Type} : List (DataW H) → Nat
  | [] => 0
  | d :: r => uptoBulk d + uptoBulkAll r
def uptoBulkEntries {H : Type} : List (Lit × DataW H) → Nat
  | [] => 0
  | x :: r => uptoBulkEntry x + uptoBulkEntries r
def uptoBulkEntry {H : Type} : Lit × DataW H → Nat
  | (.string bytes, d) => bytes.length + uptoBulk d + 1
  | (_, d) => uptoBulk d + 1
 end
def uptoSmall : (H : Type) → List (DataW H) → Bool := fun _ ds => decide (uptoBulkAll ds ≤ 1048576)
def OpenSpec.upto (s : _root_.Go.ChangeSpec) : _root_.Go.OpenSpec := { _root_.Go.OpenSpec.ofChange s with cond := some uptoSmall }

/-- 'crossroadlaw15.ReorderRuns', WHERE WHAT IT READS IS OF BULK AT MOST 1048576: true; the input reads as it did. -/
def reorderRunsUptoRow : OpenClaim := { program := "ytnimcjkddecdhaa", sum := "620fa6516510a2186f42668911c91bad2d773e37dbbc89a8c7e672885163f456", func := "crossroad/crossroadlaw15.ReorderRuns", spec := "reorderRuns", apart := false, narrowed := true }
def ReorderRunsUptoSaid : Prop := reorderRunsUptoRow.holds Try.pinned (OpenSpec.upto reorderRunsSpec)

/-- 'crossroadlaw15.ReorderTurns', WHERE WHAT IT READS IS OF BULK AT MOST 1048576: true; the input reads as it did. -/
def reorderTurnsUptoRow : OpenClaim := { program := "ytnimcjkddecdhaa", sum := "620fa6516510a2186f42668911c91bad2d773e37dbbc89a8c7e672885163f456", func := "crossroad/crossroadlaw15.ReorderTurns", spec := "reorderTurns", apart := false, narrowed := true }
def ReorderTurnsUptoSaid : Prop := reorderTurnsUptoRow.holds Try.pinned (OpenSpec.upto reorderTurnsSpec)

/-- 'crossroadlaw15.ReorderSizes', WHERE WHAT IT READS IS OF BULK AT MOST 1048576: true; the input reads as it did. -/
def reorderSizesUptoRow : OpenClaim := { program := "ytnimcjkddecdhaa", sum := "620fa6516510a2186f42668911c91bad2d773e37dbbc89a8c7e672885163f456", func := "crossroad/crossroadlaw15.ReorderSizes", spec := "reorderSizes", apart := false, narrowed := true }
def ReorderSizesUptoSaid : Prop := reorderSizesUptoRow.holds Try.pinned (OpenSpec.upto reorderSizesSpec)

end Rows
end Go.Proofs.Ytnimcjkddecdhaa
