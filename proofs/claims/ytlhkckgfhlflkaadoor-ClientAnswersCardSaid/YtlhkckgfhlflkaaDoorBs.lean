/- Bytes that were appended, as a string. -/
import Derived.Test.YtlhkckgfhlflkaaDoorAp
import Derived.Laws.BytesArg
namespace Go.Proofs.YtlhkckgfhlflkaaDoor
set_option linter.unusedSimpArgs false
set_option linter.unusedVariables false
set_option linter.unnecessarySimpa false
open Go.RowKit
section
variable {P : Program}
def B8 (x : Nat) : Value := .int .u8 x
/-- string(v) of bytes. -/
theorem run_string_sl (src e : TypeId) (hs : P.underlying src = some (.slice e)) (he : P.underlying e = some (.int .u8)) {w : World} {v : Value} {n : Nat} {l : List Nat} (h : Sl w e 1 v n (l.map B8)) :
    ∀ dst, P.underlying dst = some .string → (convert src dst v).run P w = .ok (.string ⟨(l.map UInt8.ofNat).toArray⟩) w := by
  intro dst hd
  have hlen : l.length = n := by have := h.1; simpa using this
  rcases Nat.eq_zero_or_pos n with h0 | h0
  · have hl : l = [] := List.eq_nil_of_length_eq_zero (by omega)
    subst hl
    obtain ⟨a, c, rfl⟩ := h.form
    subst h0
    cases a with
    | none => rw [run_convert_bytes_nil w src e hs he 0 c dst hd]; rfl
    | some b =>
      obtain ⟨b, off, sp⟩ := b
      rw [run_convert_bytes_string w src dst e _ 0 c hs he hd]
      simp [Conv.bytesToString, loadCells, loadCellsFrom]
      rfl
  · obtain ⟨g, o, c, rfl, -, -, h3⟩ := h.some h0
    have := run_convert_bytes_arg w src e hs he g o n c (l.map fun x : Nat => (x : Int)) (by simpa using hlen) (fun i hi => by
      rw [h3 i (by omega)]
      have hi' : i < l.length := by omega
      simp [List.getD, hi', B8]) dst hd
    rw [this]
    unfold strOfNums
    simp
end
end Go.Proofs.YtlhkckgfhlflkaaDoor
