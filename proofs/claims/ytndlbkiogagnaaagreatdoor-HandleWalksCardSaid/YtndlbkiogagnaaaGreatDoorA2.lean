/- ascii: Token, Number, Trim. -/
import Derived.Test.YtndlbkiogagnaaaGreatDoorA1
namespace Go.Proofs.YtndlbkiogagnaaaGreatDoor
set_option linter.unusedSimpArgs false
set_option linter.unusedVariables false
set_option linter.unnecessarySimpa false
open Go.RowKit BigFrame

def tokB (l : Bs) : Bool := l.all (fun c => markB c.toNat) && !l.isEmpty
theorem tokB_no {l : Bs} (h : tokB l = true) : 13 ∉ l ∧ 58 ∉ l := by
  unfold tokB at h
  rw [Bool.and_eq_true, List.all_eq_true] at h
  exact ⟨fun e => by have := h.1 _ e; exact absurd this (by decide), fun e => by have := h.1 _ e; exact absurd this (by decide)⟩
theorem token_ok (s : ByteArray) (w : World) (hs : s.size ≤ 4611686018427387904) : Calls Tryz.prog 109 #[.string s] w fun e w' => e = .returned (.bool (tokB s.data.toList)) ∧ Upd [] w w' := by
  have hlen : s.data.toList.length = s.size := by simp
  have HL := Hd.mk hlen
  clear hlen
  go_enter Tryz.func109, Tryz.ntmps109
  go_wp2_with fail
  go_loopg [3, 6] s.size (fun g s3 ii wr => ∃ j : Nat, j + g = s.size ∧ ii = .int .i64 j ∧ Hd ((s.data.toList.take j).all (fun c => markB c.toNat) = true ∧ Upd [] w wr))
  case atStart => exact ⟨0, by omega, rfl, Hd.mk ⟨by simp, Upd.refl _ _⟩⟩
  case round =>
    obtain ⟨j, hj, rfl, HS⟩ := hrel
    by_cases hlt : j < s.size
    · have HT : Hd (s.data.toList.take (j + 1) = s.data.toList.take j ++ [s[j]]) := Hd.mk (by rw [List.take_succ_eq_append_getElem (by simpa using hlt)]; rfl)
      have HA : Hd (markB s[j].toNat = false → tokB s.data.toList = false) := Hd.mk (by
        intro e
        have : s.data.toList.all (fun c => markB c.toNat) = false := by
          rw [List.all_eq_false]
          exact ⟨s[j], by rw [← List.take_append_drop (j + 1) s.data.toList, HT.out]; simp, by rw [e]; simp⟩
        unfold tokB
        rw [this]
        rfl)
      go_wp2_with fail
      refine (mark_ok s[j].toNat wr s[j].toNat_lt).mono ?_
      rintro e w1 ⟨rfl, u1⟩
      have H := Hd.mk u1
      clear u1
      cases hm : markB s[j].toNat with
      | false =>
        have HA := Hd.mk (HA.out hm)
        clear hm
        go_wp2_with fail
        go_ret
        rw [HA.out]
        exact ⟨rfl, HS.out.2.trans H.out (by simp)⟩
      | true =>
        have HM := Hd.mk hm
        clear hm
        go_wp2_with fail
        go_roundg (gk - 1)
        case measure => omega
        case rel => exact ⟨j + 1, by omega, by simp, Hd.mk ⟨by rw [HT.out, List.all_append, HS.out.1]; simp [HM.out], HS.out.2.trans H.out (by simp)⟩⟩
    · obtain rfl : j = s.size := by omega
      have HA := Hd.mk (show s.data.toList.all (fun c => markB c.toNat) = true by have := HS.out.1; rw [← HL.out, List.take_length] at this; exact this)
      by_cases h0 : s = ⟨#[]⟩
      · have hem := str_eq0 h0
        have HE := Hd.mk (show tokB s.data.toList = false by subst h0; rfl)
        clear h0
        go_wp2_with fail
        go_ret
        rw [HE.out]
        exact ⟨rfl, HS.out.2⟩
      · have hem := str_ne0 h0
        have HE := Hd.mk (show tokB s.data.toList = true by
          unfold tokB
          rw [HA.out]
          cases hl : s.data.toList with
          | nil => exact absurd (by apply ByteArray.ext; rw [← Array.toList_inj]; exact hl) h0
          | cons c r => rfl)
        clear h0
        go_wp2_with fail
        go_ret
        rw [HE.out]
        exact ⟨rfl, HS.out.2⟩

def numI (o : Option Nat) : Int := match o with | some n => n | none => 0
theorem numTo_le : ∀ {l : Bs} {x y : Nat}, x ≤ 1073741824 → numTo x l = some y → y ≤ 1073741824
  | [], x, y, h, e => by cases e; exact h
  | c :: r, x, y, h, e => by
    rw [numTo] at e
    split at e
    · cases e
    · split at e
      · cases e
      · exact numTo_le (by omega) e
theorem dig_le {c : UInt8} {d : Nat} (h : dig c = some d) : d ≤ 9 := by
  unfold dig at h
  split at h
  · simp at h; omega
  · cases h
theorem digI_some {c : UInt8} {d : Nat} (h : dig c = some d) : digI c = d := by unfold digI; rw [h]
theorem digI_none {c : UInt8} (h : dig c = none) : digI c = -1 := by unfold digI; rw [h]
theorem numTo_one (x : Nat) (c : UInt8) : numTo x [c] = match dig c with | none => none | some d => if 1073741824 < x * 10 + d then none else some (x * 10 + d) := by
  rw [numTo]; rfl
theorem numTo_cut {l a b : Bs} {x : Nat} (h : l = a ++ b) (h1 : numTo x a = none) : numTo x l = none := by rw [h, numTo_app, h1]; rfl
theorem number_ok (s : ByteArray) (w : World) (hs : s.size ≤ 4611686018427387904) :
    Calls Tryz.prog 85 #[.string s, .int .i64 10] w fun e w' => e = .returned (.tuple #[.int .i64 (numI (numL s.data.toList)), .bool (numL s.data.toList).isSome]) ∧ Upd [] w w' := by
  have hlen : s.data.toList.length = s.size := by simp
  have HN0 := Hd.mk (show numTo 0 s.data.toList = none → numL s.data.toList = none by
    intro h
    unfold numL
    split
    · rfl
    · exact h)
  clear hlen
  go_enter Tryz.func85, Tryz.ntmps85
  go_wp2_with fail
  go_loopg [6, 7, 8, 11] s.size (fun g x s7 s8 ii wr => ∃ j y : Nat, j + g = s.size ∧ x = .int .i64 y ∧ ii = .int .i64 j ∧ y ≤ 1073741824 ∧ Hd (numTo 0 (s.data.toList.take j) = some y ∧ Upd [] w wr))
  case atStart => exact ⟨0, 0, by omega, rfl, rfl, by omega, Hd.mk ⟨rfl, Upd.refl _ _⟩⟩
  case round =>
    obtain ⟨j, y, hj, rfl, rfl, hy, HS⟩ := hrel
    by_cases hlt : j < s.size
    · have HT : Hd (s.data.toList.take (j + 1) = s.data.toList.take j ++ [s[j]]) := Hd.mk (by rw [List.take_succ_eq_append_getElem (by simpa using hlt)]; rfl)
      have HN : Hd (numTo 0 (s.data.toList.take (j + 1)) = numTo y [s[j]]) := Hd.mk (by rw [HT.out, numTo_app, HS.out.1]; rfl)
      have HC : Hd (numTo 0 (s.data.toList.take (j + 1)) = none → numTo 0 s.data.toList = none) := Hd.mk (numTo_cut (List.take_append_drop (j + 1) s.data.toList).symm)
      go_wp2_with fail
      refine (digit_ok s[j] wr).mono ?_
      rintro e w1 ⟨rfl, u1⟩
      have H1 := Hd.mk (HS.out.2.trans u1 (by simp))
      clear u1
      cases hd : dig s[j] with
      | none =>
        have HD := Hd.mk (show numTo 0 s.data.toList = none from HC.out (by rw [HN.out, numTo_one, hd]))
        rw [digI_none hd]
        clear hd
        go_wp2_with fail
        go_ret2
        rw [HN0.out HD.out]
        exact ⟨rfl, H1.out⟩
      | some d =>
        have hd9 := dig_le hd
        rw [digI_some hd]
        by_cases hb : 1073741824 < y * 10 + d
        · have HD := Hd.mk (show numTo 0 s.data.toList = none from HC.out (by rw [HN.out, numTo_one, hd]; simp only; rw [if_pos hb]))
          clear hd
          go_wp2_with fail
          go_ret2
          rw [HN0.out HD.out]
          exact ⟨rfl, H1.out⟩
        · have HD := Hd.mk (show numTo 0 (s.data.toList.take (j + 1)) = some (y * 10 + d) by rw [HN.out, numTo_one, hd]; simp only; rw [if_neg hb])
          clear hd
          go_wp2_with fail
          go_roundg (gk - 1)
          case measure => omega
          case rel => exact ⟨j + 1, y * 10 + d, by omega, by go_num, by simp, by omega, Hd.mk ⟨HD.out, H1.out⟩⟩
    · obtain rfl : j = s.size := by omega
      have H := Hd.mk (show numTo 0 s.data.toList = some y by
        have := HS.out.1
        have hlen : s.data.toList.length = s.size := by simp
        rw [← hlen, List.take_length] at this
        exact this)
      by_cases h0 : s = ⟨#[]⟩
      · have hem := str_eq0 h0
        have HL := Hd.mk (show numL s.data.toList = none by subst h0; rfl)
        have HY := Hd.mk (show y = 0 by have := H.out; subst h0; cases this; rfl)
        clear h0
        go_wp2_with fail
        go_ret2
        rw [HL.out, HY.out]
        exact ⟨rfl, HS.out.2⟩
      · have hem := str_ne0 h0
        have HL := Hd.mk (show numL s.data.toList = some y by
          unfold numL
          rw [if_neg, H.out]
          intro e
          exact h0 (by apply ByteArray.ext; rw [← Array.toList_inj]; exact e))
        clear h0
        go_wp2_with fail
        go_ret2
        rw [HL.out]
        exact ⟨rfl, HS.out.2⟩
end Go.Proofs.YtndlbkiogagnaaaGreatDoor
