/-
  No cell of these rows narrows 'for every input' (looked for: loops, veiled, ifaces, maps, wideKeys, modest, calm, conditions, laid).
  DERIVED. THE GIVEN ROWS OF THIS SEAT. 3 by the template 'for every input the law returns true; each argument reads behind the call as it read before'; 0 by the template 'total and deterministic' (their statements: YtlpfibmehlpdiaaTotals.lean).
  GIVEN WITH THE SEED: the statements are not yours to turn. If you find one false, say at which input.
  Laid BY PROGRAM, IN A SANDBOX (cutbox-rows.mjs): the forced cells as the released guide's own fill.sh prints them over the translation fb753ebb6642ea3c… (all of the seat's roots in one cut). By AI agents, Wed Nov 11 2026. No macro, syntax, notation, axiom, sorry.
-/
import Derived.Test.YtlpfibmehlpdiaaChecked
import GoSem.Claim
import GoSem.ClaimJoined
import GoSem.ClaimMapViews
import Derived.JoinedTies
import Derived.KernelRfl
namespace Go.Proofs.Ytlpfibmehlpdiaa
/- THE CELL 'sum', in the pinned program and in every row, IS THE sha256 OF THE DUMP (.gsa) THAT YtlpfibmehlpdiaaProg.lean LOADS. Nothing in Lean hashes anything: it is a label: what it is worth is what the hold of that sum in a sandbox is worth. -/
noncomputable def Try.pinned : Pinned := { name := "ytlpfibmehlpdiaa", sum := "fb753ebb6642ea3c1c2363027a840b25b424830c2cf1c8e1bb35bae3dd701c7b", checked := Try.checked }
namespace Rows
def none {H : Type} : Left H := { results := [], args := [] }

/-- 'crossroadlaw14.QueueRuns': WHATEVER THE INPUT: true; the input reads as it did. -/
def queueRunsSpec : ChangeSpec := { name := "queueRuns", fn := fun _ => fun
  | [d1, d2] => { results := [.lit (.bool true)], args := [d1, d2] }
  | _ => none }
def queueRunsRow : OpenClaim := { program := "ytlpfibmehlpdiaa", sum := "fb753ebb6642ea3c1c2363027a840b25b424830c2cf1c8e1bb35bae3dd701c7b", func := "crossroad/crossroadlaw14.QueueRuns", spec := "queueRuns", apart := false }
def QueueRunsSaid : Prop := queueRunsRow.holds Try.pinned (OpenSpec.ofChange queueRunsSpec)

/-- ITS FALSE NEIGHBOUR: 'it returns false'. Refute it at one input. -/
def queueRunsWrong : ChangeSpec := { name := "queueRuns", fn := fun _ => fun
  | [d1, d2] => { results := [.lit (.bool false)], args := [d1, d2] }
  | _ => none }
def QueueRunsWrongFalsely : Prop := queueRunsRow.holds Try.pinned (OpenSpec.ofChange queueRunsWrong)

/-- 'crossroadlaw14.QueueRings': WHATEVER THE INPUT: true; the input reads as it did. -/
def queueRingsSpec : ChangeSpec := { name := "queueRings", fn := fun _ => fun
  | [d1, d2, d3] => { results := [.lit (.bool true)], args := [d1, d2, d3] }
  | _ => none }
def queueRingsRow : OpenClaim := { program := "ytlpfibmehlpdiaa", sum := "fb753ebb6642ea3c1c2363027a840b25b424830c2cf1c8e1bb35bae3dd701c7b", func := "crossroad/crossroadlaw14.QueueRings", spec := "queueRings", apart := false }
def QueueRingsSaid : Prop := queueRingsRow.holds Try.pinned (OpenSpec.ofChange queueRingsSpec)

/-- ITS FALSE NEIGHBOUR: 'it returns false'. Refute it at one input. -/
def queueRingsWrong : ChangeSpec := { name := "queueRings", fn := fun _ => fun
  | [d1, d2, d3] => { results := [.lit (.bool false)], args := [d1, d2, d3] }
  | _ => none }
def QueueRingsWrongFalsely : Prop := queueRingsRow.holds Try.pinned (OpenSpec.ofChange queueRingsWrong)

/-- 'crossroadlaw14.QueueSizes': WHATEVER THE INPUT: true; the input reads as it did. -/
def queueSizesSpec : ChangeSpec := { name := "queueSizes", fn := fun _ => fun
  | [d] => { results := [.lit (.bool true)], args := [d] }
  | _ => none }
def queueSizesRow : OpenClaim := { program := "ytlpfibmehlpdiaa", sum := "fb753ebb6642ea3c1c2363027a840b25b424830c2cf1c8e1bb35bae3dd701c7b", func := "crossroad/crossroadlaw14.QueueSizes", spec := "queueSizes", apart := false }
def QueueSizesSaid : Prop := queueSizesRow.holds Try.pinned (OpenSpec.ofChange queueSizesSpec)

/-- ITS FALSE NEIGHBOUR: 'it returns false'. Refute it at one input. -/
def queueSizesWrong : ChangeSpec := { name := "queueSizes", fn := fun _ => fun
  | [d] => { results := [.lit (.bool false)], args := [d] }
  | _ => none }
def QueueSizesWrongFalsely : Prop := queueSizesRow.holds Try.pinned (OpenSpec.ofChange queueSizesWrong)

/- THE SECOND FORM. 'bulk': how many values and letters a reading holds, each counted each time it is reached (what is shared counts as often as it is met; a slice's spare places count too). A statement '..UptoSaid' is the law's where the arguments, and the package variables that the reading takes, are together of bulk at most 1048576: NARROWER than '..Said'. Prove '..Said' where nothing that the law and all that it calls make is longer than what came in: it says more and counts as full. Else prove '..UptoSaid'. A law counts once. -/
mutual
def uptoBulk {H : Type} : DataW H → Nat
  | .lit (.string bytes) => bytes.length + 1
  | .lit _ => 1
  | .nil => 1
  | .ptr d => uptoBulk d + 1
  | .slice elems spare => uptoBulkAll elems + uptoBulkAll spare + 1
  | .agg parts => uptoBulkAll parts + 1
  | .iface _ d => uptoBulk d + 1
  | .map entries => uptoBulkEntries entries + 1
  | .held _ => 1
def uptoBulkAll {H : Type} : List (DataW H) → Nat
  | [] => 0
  | d :: r => uptoBulk d + uptoBulkAll r
def uptoBulkEntries {H : Type} : List (Lit × DataW H) → Nat
  | [] => 0
  | x :: r => uptoBulkEntry x + uptoBulkEntries r
def uptoBulkEntry {H : Type} : Lit × DataW H → Nat
  | (.string bytes, d) => bytes.length + uptoBulk d + 1
  | (_, d) => uptoBulk d + 1
 end
def uptoSmall : (H : Type) → List (DataW H) → Bool := fun _ ds => decide (uptoBulkAll ds ≤ 1048576)
def OpenSpec.upto (s : _root_.Go.ChangeSpec) : _root_.Go.OpenSpec := { _root_.Go.OpenSpec.ofChange s with cond := some uptoSmall }

/-- 'crossroadlaw14.QueueRuns', WHERE WHAT IT READS IS OF BULK AT MOST 1048576: true; the input reads as it did. -/
def queueRunsUptoRow : OpenClaim := { program := "ytlpfibmehlpdiaa", sum := "fb753ebb6642ea3c1c2363027a840b25b424830c2cf1c8e1bb35bae3dd701c7b", func := "crossroad/crossroadlaw14.QueueRuns", spec := "queueRuns", apart := false, narrowed := true }
def QueueRunsUptoSaid : Prop := queueRunsUptoRow.holds Try.pinned (OpenSpec.upto queueRunsSpec)

/-- 'crossroadlaw14.QueueRings', WHERE WHAT IT READS IS OF BULK AT MOST 1048576: true; the input reads as it did. -/
def queueRingsUptoRow : OpenClaim := { program := "ytlpfibmehlpdiaa", sum := "fb753ebb6642ea3c1c2363027a840b25b424830c2cf1c8e1bb35bae3dd701c7b", func := "crossroad/crossroadlaw14.QueueRings", spec := "queueRings", apart := false, narrowed := true }
def QueueRingsUptoSaid : Prop := queueRingsUptoRow.holds Try.pinned (OpenSpec.upto queueRingsSpec)

/-- 'crossroadlaw14.QueueSizes', WHERE WHAT IT READS IS OF BULK AT MOST 1048576: true; the input reads as it did. -/
def queueSizesUptoRow : OpenClaim := { program := "ytlpfibmehlpdiaa", sum := "fb753ebb6642ea3c1c2363027a840b25b424830c2cf1c8e1bb35bae3dd701c7b", func := "crossroad/crossroadlaw14.QueueSizes", spec := "queueSizes", apart := false, narrowed := true }
def QueueSizesUptoSaid : Prop := queueSizesUptoRow.holds Try.pinned (OpenSpec.upto queueSizesSpec)

end Rows
end Go.Proofs.Ytlpfibmehlpdiaa
