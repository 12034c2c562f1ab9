/- ascii: Token, Number, Trim. -/
import Derived.Test.YtaefooandfnloaaDoorA1
namespace Go.Proofs.YtaefooandfnloaaDoor
set_option linter.unusedSimpArgs false
set_option linter.unusedVariables false
set_option linter.unnecessarySimpa false
open Go.RowKit BigFrame

def tokB (l : Bs) : Bool := l.all (fun c => markB c.toNat) && !l.isEmpty
theorem tokB_no {l : Bs} (h : tokB l = true) : 13 ∉ l ∧ 58 ∉ l := by
  unfold tokB at h
  rw [Bool.and_eq_true, List.all_eq_true] at h
  exact ⟨fun e => by have := h.1 _ e; exact absurd this (by decide), fun e => by have := h.1 _ e; exact absurd this (by decide)⟩
theorem token_ok (s : ByteArray) (w : World) (hs : s.size ≤ 4611686018427387904) : Calls Tryd.prog 34 #[.string s] w fun e w' => e = .returned (.bool (tokB s.data.toList)) ∧ Upd [] w w' := by
  have hlen : s.data.toList.length = s.size := by simp
  have HL := Hd.mk hlen
  clear hlen
  go_enter Tryd.func34, Tryd.ntmps34
  go_wp2_with fail
  go_loopg [3, 6] s.size (fun g s3 ii wr => ∃ j : Nat, j + g = s.size ∧ ii = .int .i64 j ∧ Hd ((s.data.toList.take j).all (fun c => markB c.toNat) = true ∧ Upd [] w wr))
  case atStart => exact ⟨0, by omega, rfl, Hd.mk ⟨by simp, Upd.refl _ _⟩⟩
  case round =>
    obtain ⟨j, hj, rfl, HS⟩ := hrel
    by_cases hlt : j < s.size
    · have HT : Hd (s.data.toList.take (j + 1) = s.data.toList.take j ++ [s[j]]) := Hd.mk (by rw [List.take_succ_eq_append_getElem (by simpa using hlt)]; rfl)
      have HA : Hd (markB s[j].toNat = false → tokB s.data.toList = false) := Hd.mk (by
        intro e
        have : s.data.toList.all (fun c => markB c.toNat) = false := by
          rw [List.all_eq_false]
          exact ⟨s[j], by rw [← List.take_append_drop (j + 1) s.data.toList, HT.out]; simp, by rw [e]; simp⟩
        unfold tokB
        rw [this]
        rfl)
      go_wp2_with fail
      refine (mark_ok s[j].toNat wr s[j].toNat_lt).mono ?_
      rintro e w1 ⟨rfl, u1⟩
      have H := Hd.mk u1
      clear u1
      cases hm : markB s[j].toNat with
      | false =>
        have HA := Hd.mk (HA.out hm)
        clear hm
        go_wp2_with fail
        go_ret
        rw [HA.out]
        exact ⟨rfl, HS.out.2.trans H.out (by simp)⟩
      | true =>
        have HM := Hd.mk hm
        clear hm
        go_wp2_with fail
        go_roundg (gk - 1)
        case measure => omega
        case rel => exact ⟨j + 1, by omega, by simp, Hd.mk ⟨by rw [HT.out, List.all_append, HS.out.1]; simp [HM.out], HS.out.2.trans H.out (by simp)⟩⟩
    · obtain rfl : j = s.size := by omega
      have HA := Hd.mk (show s.data.toList.all (fun c => markB c.toNat) = true by have := HS.out.1; rw [← HL.out, List.take_length] at this; exact this)
      by_cases h0 : s = ⟨#[]⟩
      · have hem := str_eq0 h0
        have HE := Hd.mk (show tokB s.data.toList = false by subst h0; rfl)
        clear h0
        go_wp2_with fail
        go_ret
        rw [HE.out]
        exact ⟨rfl, HS.out.2⟩
      · have hem := str_ne0 h0
        have HE := Hd.mk (show tokB s.data.toList = true by
          unfold tokB
          rw [HA.out]
          cases hl : s.data.toList with
          | nil => exact absurd (by apply ByteArray.ext; rw [← Array.toList_inj]; exact hl) h0
          | cons c r => rfl)
        clear h0
        go_wp2_with fail
        go_ret
        rw [HE.out]
        exact ⟨rfl, HS.out.2⟩

def numI (o : Option Nat) : Int := match o with | some n => n | none => 0
theorem numTo_le : ∀ {l : Bs} {x y : Nat}, x ≤ 1073741824 → numTo x l = some y → y ≤ 1073741824
  | [], x, y, h, e => by cases e; exact h
  | c :: r, x, y, h, e => by
    rw [numTo] at e
    split at e
    · cases e
    · split at e
      · cases e
      · exact numTo_le (by omega) e
theorem dig_le {c : UInt8} {d : Nat} (h : dig c = some d) : d ≤ 9 := by
  unfold dig at h
  split at h
  · simp at h; omega
  · cases h
theorem digI_some {c : UInt8} {d : Nat} (h : dig c = some d) : digI c = d := by unfold digI; rw [h]
theorem digI_none {c : UInt8} (h : dig c = none) : digI c = -1 := by unfold digI; rw [h]
theorem numTo_one (x : Nat) (c : UInt8) : numTo x [c] = match dig c with | none => none | some d => if 1073741824 < x * 10 + d then none else some (x * 10 + d) := by
  rw [numTo]; rfl
theorem numTo_cut {l a b : Bs} {x : Nat} (h : l = a ++ b) (h1 : numTo x a = none) : numTo x l = none := by rw [h, numTo_app, h1]; rfl
end Go.Proofs.YtaefooandfnloaaDoor
