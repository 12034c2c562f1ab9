/- Strings as the walk compares them. -/
import Derived.Test.YtndlbkiogagnaaaGreatDoorMem
import Derived.Lib.Strings
namespace Go.Proofs.YtndlbkiogagnaaaGreatDoor
set_option linter.unusedSimpArgs false
set_option linter.unusedVariables false
set_option linter.unnecessarySimpa false
theorem str_beq (a b : ByteArray) : (a.toList == b.toList) = decide (a = b) := by
  rw [Bool.eq_iff_iff, decide_eq_true_iff, beq_iff_eq, ByteArray.toList_eq, ByteArray.toList_eq]
  exact ⟨fun h => ByteArray.ext (Array.toList_inj.mp h), fun h => by rw [h]⟩
theorem str_yes {a b : ByteArray} (h : a = b) : (a.toList == b.toList) = true := by rw [str_beq]; simpa using h
theorem str_no {a b : ByteArray} (h : a ≠ b) : (a.toList == b.toList) = false := by rw [str_beq]; simpa using h
theorem str_ne0 {a : ByteArray} (h : a ≠ ⟨#[]⟩) : a.toList.isEmpty = false := by
  rw [ByteArray.toList_eq]
  cases a with | mk x => cases hx : x.toList with
    | nil => exact absurd (by rw [Array.toList_eq_nil_iff] at hx; rw [hx]) h
    | cons c r => simp [hx]
theorem str_eq0 {a : ByteArray} (h : a = ⟨#[]⟩) : a.toList.isEmpty = true := by subst h; rw [ByteArray.toList_eq]; rfl
theorem lit_yes {a : ByteArray} {l : List UInt8} (h : a.data.toList = l) : (a.toList == l) = true := by rw [ByteArray.toList_eq, h]; simp
theorem lit_no {a : ByteArray} {l : List UInt8} (h : a.data.toList ≠ l) : (a.toList == l) = false := by rw [ByteArray.toList_eq]; simpa using h
theorem rb {a b : Bool} (h : a = b) : Ending.returned (.bool a) = .returned (.bool b) := by rw [h]
theorem rs_ {a b : ByteArray} (h : a = b) : Ending.returned (.string a) = .returned (.string b) := by rw [h]
theorem ri {k : IntKind} {a b : Int} (h : a = b) : Ending.returned (.int k a) = .returned (.int k b) := by rw [h]
end Go.Proofs.YtndlbkiogagnaaaGreatDoor
