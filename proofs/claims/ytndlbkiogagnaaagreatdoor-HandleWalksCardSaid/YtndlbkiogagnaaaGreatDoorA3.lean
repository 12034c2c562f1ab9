/- ascii: Trim. -/
import Derived.Test.YtndlbkiogagnaaaGreatDoorA2
import Derived.Deep.CutBlock
namespace Go.Proofs.YtndlbkiogagnaaaGreatDoor
set_option linter.unusedSimpArgs false
set_option linter.unusedVariables false
set_option linter.unnecessarySimpa false
open Go.RowKit BigFrame

theorem ext_list (s : ByteArray) (a b : Nat) : (s.extract a b).data.toList = (s.data.toList.drop a).take (b - a) := by
  simp [ByteArray.data_extract]
theorem nonempty_size {t : ByteArray} (h : t ≠ ⟨#[]⟩) : 0 < t.size := by
  rcases Nat.eq_zero_or_pos t.size with h0 | h0
  · exact absurd (by apply ByteArray.ext; exact Array.eq_empty_of_size_eq_zero h0) h
  · exact h0
theorem split_first (t : ByteArray) (h : 0 < t.size) : t.data.toList = t[0] :: (t.extract 1 t.size).data.toList := by
  rw [ext_list]
  have hl : t.data.toList.length = t.size := by simp
  cases ht : t.data.toList with
  | nil => rw [ht] at hl; simp at hl; omega
  | cons c r =>
    have : t[0] = c := by
      have h2 : t.data.toList[0]? = some c := by rw [ht]; rfl
      have h3 : t.data.toList[0]? = some t[0] := by rw [List.getElem?_eq_getElem (by rw [hl]; exact h)]; rfl
      rw [h3] at h2
      exact Option.some.inj h2
    rw [this]
    simp only [List.drop_succ_cons, List.drop_zero]
    rw [List.take_of_length_le]
    rw [ht] at hl
    simp at hl
    omega
theorem split_last (t : ByteArray) (h : t.size - 1 < t.size) : t.data.toList = (t.extract 0 (t.size - 1)).data.toList ++ [t[t.size - 1]] := by
  rw [ext_list]
  have hl : t.data.toList.length = t.size := by simp
  simp only [List.drop_zero, Nat.sub_zero]
  have h1 : t.data.toList.take (t.size - 1 + 1) = t.data.toList.take (t.size - 1) ++ [t[t.size - 1]] := by
    rw [List.take_succ_eq_append_getElem (by simpa using h)]; rfl
  rw [← h1, List.take_of_length_le (by omega)]
theorem toList_inj {a b : ByteArray} (h : a.data.toList = b.data.toList) : a = b := by
  apply ByteArray.ext
  exact Array.toList_inj.1 h
theorem bq (n m : Nat) : ((n : Int) == (m : Int)) = decide (n = m) := by rw [Bool.eq_iff_iff, beq_iff_eq, decide_eq_true_iff]; omega
theorem toNat_32 {c : UInt8} (h : c.toNat = 32) : c = 32 := UInt8.toNat_inj.1 h
theorem toNat_9 {c : UInt8} (h : c.toNat = 9) : c = 9 := UInt8.toNat_inj.1 h
theorem blank_not {c : UInt8} (h1 : ¬ c.toNat = 32) (h2 : ¬ c.toNat = 9) : blank c = false := by
  unfold blank
  simp only [Bool.or_eq_false_iff, decide_eq_false_iff_not]
  exact ⟨fun e => h1 (by rw [e]; rfl), fun e => h2 (by rw [e]; rfl)⟩

set_option maxHeartbeats 2000000 in
theorem trim_ok (s : ByteArray) (w : World) (hs : s.size ≤ 4611686018427387904) :
    Calls Tryz.prog 173 #[.string s] w fun e w' => e = .returned (.string ⟨(trimL s.data.toList).toArray⟩) ∧ Upd [] w w' := by
  go_enter Tryz.func173, Tryz.ntmps173
  go_upto_block 0 with (fail)
  go_cut [0] (fun s0 W => ∃ t : ByteArray, s0 = .string t ∧ t.size ≤ s.size ∧ Hd (t.data.toList = s.data.toList.dropWhile blank ∧ Upd [] w W))
  case first =>
    go_wp2_with fail
    go_loopg [0] s.size (fun g s0 wr => ∃ t : ByteArray, s0 = .string t ∧ t.size = g ∧ g ≤ s.size ∧ Hd (t.data.toList.dropWhile blank = s.data.toList.dropWhile blank ∧ Upd [] w wr))
    case atStart => exact ⟨s, rfl, rfl, Nat.le_refl _, Hd.mk ⟨rfl, Upd.refl _ _⟩⟩
    case round =>
      obtain ⟨t, rfl, htg, htl, HS⟩ := hrel
      subst htg
      by_cases h0 : t = ⟨#[]⟩
      · have hem := str_eq0 h0
        have HE := Hd.mk h0
        clear h0
        go_wp2_with fail
        go_meet
        case rel => exact ⟨t, rfl, by omega, Hd.mk ⟨by rw [← HS.out.1, HE.out]; rfl, HS.out.2⟩⟩
      · have hem := str_ne0 h0
        have hpos := nonempty_size h0
        have HF := Hd.mk (split_first t hpos)
        have hsz : (t.extract 1 t.size).size = t.size - 1 := by simp
        have HZ := Hd.mk hsz
        clear h0 hsz
        have B1 : ((t[0].toNat : Int) == 32) = decide (t[0].toNat = 32) := bq _ 32
        have B2 : ((t[0].toNat : Int) == 9) = decide (t[0].toNat = 9) := bq _ 9
        by_cases c1 : t[0].toNat = 32
        · rw [decide_eq_true c1] at B1
          have HC := Hd.mk (toNat_32 c1)
          go_wp2_with fail
          go_roundg (t.size - 1)
          case measure => omega
          case rel => exact ⟨_, rfl, HZ.out, by omega, Hd.mk ⟨by rw [← HS.out.1, HF.out, HC.out, List.dropWhile_cons_of_pos (by decide)], HS.out.2⟩⟩
        · rw [decide_eq_false c1] at B1
          by_cases c2 : t[0].toNat = 9
          · rw [decide_eq_true c2] at B2
            have HC := Hd.mk (toNat_9 c2)
            go_wp2_with fail
            go_roundg (t.size - 1)
            case measure => omega
            case rel => exact ⟨_, rfl, HZ.out, by omega, Hd.mk ⟨by rw [← HS.out.1, HF.out, HC.out, List.dropWhile_cons_of_pos (by decide)], HS.out.2⟩⟩
          · rw [decide_eq_false c2] at B2
            have HC := Hd.mk (blank_not c1 c2)
            go_wp2_with fail
            go_meet
            case rel => exact ⟨t, rfl, by omega, Hd.mk ⟨by rw [← HS.out.1, HF.out, List.dropWhile_cons_of_neg (by rw [HC.out]; decide)], HS.out.2⟩⟩
  case rest =>
    obtain ⟨t0, rfl, ht0, HT⟩ := hcut
    go_wp2_with fail
    go_loopg [0] t0.size (fun g s0 wr => ∃ t : ByteArray, s0 = .string t ∧ t.size = g ∧ g ≤ s.size ∧ Hd (t.data.toList.reverse.dropWhile blank = t0.data.toList.reverse.dropWhile blank ∧ Upd [] w wr))
    case atStart => exact ⟨t0, rfl, rfl, ht0, Hd.mk ⟨rfl, HT.out.2⟩⟩
    case round =>
      obtain ⟨t, rfl, htg, htl, HS⟩ := hrel
      subst htg
      by_cases h0 : t = ⟨#[]⟩
      · have hem := str_eq0 h0
        have HE := Hd.mk h0
        clear h0
        go_wp2_with fail
        go_ret
        refine ⟨?_, HS.out.2⟩
        apply rs_
        apply toList_inj
        show _ = trimL _
        unfold trimL
        rw [← HT.out.1, ← HS.out.1, HE.out]
        rfl
      · have hem := str_ne0 h0
        have hpos := nonempty_size h0
        have HF := Hd.mk (split_last t (by omega))
        have hsz : (t.extract 0 (t.size - 1)).size = t.size - 1 := by simp
        have HZ := Hd.mk hsz
        have hsub : IntKind.i64.wrap ((t.size : Int) - 1) = ((t.size - 1 : Nat) : Int) := by rw [IntKind.wrap_i64]; omega
        have hlt : t.size - 1 < t.size := by omega
        clear h0 hsz
        have B1 : ((t[t.size - 1].toNat : Int) == 32) = decide (t[t.size - 1].toNat = 32) := bq _ 32
        have B2 : ((t[t.size - 1].toNat : Int) == 9) = decide (t[t.size - 1].toNat = 9) := bq _ 9
        by_cases c1 : t[t.size - 1].toNat = 32
        · rw [decide_eq_true c1] at B1
          have HC := Hd.mk (toNat_32 c1)
          go_wp2_with fail
          go_roundg (t.size - 1)
          case measure => omega
          case rel => exact ⟨_, rfl, HZ.out, by omega, Hd.mk ⟨by rw [← HS.out.1, HF.out, HC.out, List.reverse_append, List.reverse_singleton, List.singleton_append, List.dropWhile_cons_of_pos (by decide)], HS.out.2⟩⟩
        · rw [decide_eq_false c1] at B1
          by_cases c2 : t[t.size - 1].toNat = 9
          · rw [decide_eq_true c2] at B2
            have HC := Hd.mk (toNat_9 c2)
            go_wp2_with fail
            go_roundg (t.size - 1)
            case measure => omega
            case rel => exact ⟨_, rfl, HZ.out, by omega, Hd.mk ⟨by rw [← HS.out.1, HF.out, HC.out, List.reverse_append, List.reverse_singleton, List.singleton_append, List.dropWhile_cons_of_pos (by decide)], HS.out.2⟩⟩
          · rw [decide_eq_false c2] at B2
            have HC := Hd.mk (blank_not c1 c2)
            go_wp2_with fail
            go_ret
            refine ⟨?_, HS.out.2⟩
            apply rs_
            apply toList_inj
            show _ = trimL _
            unfold trimL
            rw [← HT.out.1, ← HS.out.1, HF.out, List.reverse_append, List.reverse_singleton, List.singleton_append, List.dropWhile_cons_of_neg (by rw [HC.out]; decide)]
            simp
end Go.Proofs.YtndlbkiogagnaaaGreatDoor
