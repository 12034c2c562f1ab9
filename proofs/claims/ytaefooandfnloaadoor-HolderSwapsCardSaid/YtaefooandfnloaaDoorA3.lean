/- ascii: Trim. -/
import Derived.Test.YtaefooandfnloaaDoorA2
import Derived.Deep.CutBlock
namespace Go.Proofs.YtaefooandfnloaaDoor
set_option linter.unusedSimpArgs false
set_option linter.unusedVariables false
set_option linter.unnecessarySimpa false
open Go.RowKit BigFrame

theorem ext_list (s : ByteArray) (a b : Nat) : (s.extract a b).data.toList = (s.data.toList.drop a).take (b - a) := by
  simp [ByteArray.data_extract]
theorem nonempty_size {t : ByteArray} (h : t ≠ ⟨#[]⟩) : 0 < t.size := by
  rcases Nat.eq_zero_or_pos t.size with h0 | h0
  · exact absurd (by apply ByteArray.ext; exact Array.eq_empty_of_size_eq_zero h0) h
  · exact h0
theorem split_first (t : ByteArray) (h : 0 < t.size) : t.data.toList = t[0] :: (t.extract 1 t.size).data.toList := by
  rw [ext_list]
  have hl : t.data.toList.length = t.size := by simp
  cases ht : t.data.toList with
  | nil => rw [ht] at hl; simp at hl; omega
  | cons c r =>
    have : t[0] = c := by
      have h2 : t.data.toList[0]? = some c := by rw [ht]; rfl
      have h3 : t.data.toList[0]? = some t[0] := by rw [List.getElem?_eq_getElem (by rw [hl]; exact h)]; rfl
      rw [h3] at h2
      exact Option.some.inj h2
    rw [this]
    simp only [List.drop_succ_cons, List.drop_zero]
    rw [List.take_of_length_le]
    rw [ht] at hl
    simp at hl
    omega
theorem split_last (t : ByteArray) (h : t.size - 1 < t.size) : t.data.toList = (t.extract 0 (t.size - 1)).data.toList ++ [t[t.size - 1]] := by
  rw [ext_list]
  have hl : t.data.toList.length = t.size := by simp
  simp only [List.drop_zero, Nat.sub_zero]
  have h1 : t.data.toList.take (t.size - 1 + 1) = t.data.toList.take (t.size - 1) ++ [t[t.size - 1]] := by
    rw [List.take_succ_eq_append_getElem (by simpa using h)]; rfl
  rw [← h1, List.take_of_length_le (by omega)]
theorem toList_inj {a b : ByteArray} (h : a.data.toList = b.data.toList) : a = b := by
  apply ByteArray.ext
  exact Array.toList_inj.1 h
theorem bq (n m : Nat) : ((n : Int) == (m : Int)) = decide (n = m) := by rw [Bool.eq_iff_iff, beq_iff_eq, decide_eq_true_iff]; omega
theorem toNat_32 {c : UInt8} (h : c.toNat = 32) : c = 32 := UInt8.toNat_inj.1 h
theorem toNat_9 {c : UInt8} (h : c.toNat = 9) : c = 9 := UInt8.toNat_inj.1 h
theorem blank_not {c : UInt8} (h1 : ¬ c.toNat = 32) (h2 : ¬ c.toNat = 9) : blank c = false := by
  unfold blank
  simp only [Bool.or_eq_false_iff, decide_eq_false_iff_not]
  exact ⟨fun e => h1 (by rw [e]; rfl), fun e => h2 (by rw [e]; rfl)⟩

end Go.Proofs.YtaefooandfnloaaDoor
