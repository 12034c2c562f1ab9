/- Arguments that came in, as a walk is told of them. -/
import Derived.Test.YtbdiejlodedelaaMem
import Derived.OpenShut
namespace Go.Proofs.Ytbdiejlodedelaa
set_option linter.unusedSimpArgs false
set_option linter.unusedVariables false
set_option linter.unnecessarySimpa false
open Go.RowKit

/-- A slice of integers that came in: nil, or a row of cap cells, the numbers zs (the first len are its elements), each fitting its kind. -/
def IsRow (k : IntKind) (w : World) (a : Option Addr) (len cap : Nat) (zs : List Int) : Prop :=
  (a = none ∧ len = 0 ∧ cap = 0 ∧ zs = []) ∨
  ∃ x, a = some x ∧ len ≤ cap ∧ cap ≤ maxLen ∧ zs.length = cap ∧ (∀ i, i < zs.length → w.cell? (x.add i) = some (.int k (zs.getD i 0))) ∧ ∀ n ∈ zs, (Lit.int k n).wf = true

/-- One that has an element, written out. -/
theorem IsRow.open {k : IntKind} {w : World} {a : Option Addr} {len cap : Nat} {zs : List Int} (h : IsRow k w a len cap zs) (hl : 0 < len) :
    ∃ b off, a = some ⟨b, off, none⟩ ∧ b < w.heap.size ∧ len ≤ zs.length ∧ zs.length ≤ maxLen ∧ (∀ i, i < len → w.cell? ⟨b, off + i, none⟩ = some (.int k (zs.getD i 0))) ∧ ∀ i, i < len → (Lit.int k (zs.getD i 0)).wf = true := by
  rcases h with ⟨_, h, _⟩ | ⟨x, rfl, h1, h2, h3, h4, h5⟩
  · omega
  · obtain ⟨b, off, sp⟩ := x
    have h0 := h4 0 (by omega)
    have hs : sp = none := by
      cases sp with
      | none => rfl
      | some s => simp [Addr.add, World.cell?] at h0; split at h0 <;> simp_all
    subst hs
    refine ⟨b, off, rfl, ?_, by omega, by omega, fun i hi => ?_, fun i hi => ?_⟩
    · exact block_lt_of_cell (a := (⟨b, off, none⟩ : Addr).add 0) h0
    · have := h4 i (by omega)
      rwa [Addr.add_lit] at this
    · refine h5 _ ?_
      have hi2 : i < zs.length := by omega
      simp [List.getD, List.getElem?_eq_getElem hi2]
end Go.Proofs.Ytbdiejlodedelaa
