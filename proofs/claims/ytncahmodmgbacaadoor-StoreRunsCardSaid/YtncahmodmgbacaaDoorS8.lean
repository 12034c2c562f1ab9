/- StoreSwaps: of two who put by the tag that they read, the second one is told. -/
import Derived.Test.YtncahmodmgbacaaDoorS7

namespace Go.Proofs.YtncahmodmgbacaaDoor
set_option linter.unusedSimpArgs false
set_option linter.unusedVariables false
set_option linter.unnecessarySimpa false
open Go.RowKit BigFrame

def kk : ByteArray := ⟨#[107]⟩
theorem shd_k : shd ⟨#[107]⟩ = 3 := by decide
/-- The first i shards are somebody's. -/
def upto (i : Nat) (x : Int) : Nat → Int := fun j => if j < i then x else 0
theorem upto_zero (x : Int) : upto 0 x = fun _ => 0 := by funext j; simp [upto]
theorem upto_succ (i : Nat) (x : Int) : setO (upto i x) i x = upto (i + 1) x := by
  funext j
  unfold setO upto
  by_cases h : j = i
  · subst h; simp
  · rw [if_neg h]
    by_cases h2 : j < i
    · rw [if_pos h2, if_pos (by omega)]
    · rw [if_neg h2, if_neg (by omega)]
theorem upto_free (i : Nat) (x : Int) (hi : i < 4) (hx : 0 < x) : freeB (upto i x) x i = true := by
  unfold freeB
  refine decide_eq_true ⟨hx, by omega, by omega, .inl ?_⟩
  simp [upto]
theorem mine_all (x : Int) (k : ByteArray) (hx : 0 < x) (hk : rightK k = true) : mineE (upto 4 x) x k = 0 := by
  unfold mineE
  rw [hk, if_neg (by decide), if_pos ⟨hx, by unfold upto; rw [if_pos (shd_lt k)]⟩]
theorem tagS_pos (v : ByteArray) : (tagS v).size ≠ 0 := by
  have h : (tagS v).size = (tagL v.data.toList).length := by
    show (tagL v.data.toList).toArray.size = _
    simp
  rw [h]
  unfold tagL
  simp
theorem tagOk_yes (v : ByteArray) : tagOk (some v) (tagS v) = true := by simp [tagOk]
theorem tagOk_no {v t : ByteArray} (h : tagS v ≠ t) (ht : t.size ≠ 0) : tagOk (some v) t = false := by simp [tagOk, h, ht]
theorem tagOk_none {t : ByteArray} (ht : t.size ≠ 0) : tagOk none t = false := by simp [tagOk, ht]
theorem setM_at (m : St) (k : ByteArray) (x : Option ByteArray) : setM m k x k = x := by unfold setM; rw [if_pos rfl]
set_option maxRecDepth 100000 in
set_option maxHeartbeats 2000000 in
theorem swaps_walk (a b c : ByteArray) (w : World) (ha : a.size ≤ 140737488351232) (hb : b.size ≤ 140737488351232) (hc : c.size ≤ 140737488351232) (hT : Tb w) :
    Calls Tryd.prog 5 #[.string a, .string b, .string c] w fun e w' => e = .returned (.bool true) ∧ Upd [] w w' := by
  have HT := Hd.mk hT
  clear hT
  go_enter Tryd.func5, Tryd.ntmps5
  go_wp2_with fail
  refine (fit_ok w HT.out).mono ?_
  rintro e w1 ⟨rfl, u1⟩
  have HU := Hd.mk u1
  clear u1
  by_cases hl : 600 < a.size + b.size + c.size
  · have hl2 : (600 : Int) < a.size + b.size + c.size := by omega
    go_wp2_with fail
    go_ret
    exact ⟨rfl, HU.out⟩
  · have hl2 : ¬ (600 : Int) < a.size + b.size + c.size := by omega
    have HTA := Hd.mk (show (⟨(tagL a.data.toList).toArray⟩ : ByteArray) = tagS a from rfl)
    have HTB := Hd.mk (show (⟨(tagL b.data.toList).toArray⟩ : ByteArray) = tagS b from rfl)
    go_wp2_with fail
    refine (tag_ok a w1 (by omega) (HT.out.upd HU.out)).mono ?_
    rintro e w2 ⟨rfl, u2⟩
    have HU := Hd.mk (HU.out.trans u2 (by simp))
    clear u2
    rw [HTA.out]
    go_wp2_with fail
    refine (tag_ok b w2 (by omega) (HT.out.upd HU.out)).mono ?_
    rintro e w3 ⟨rfl, u3⟩
    have HU := Hd.mk (HU.out.trans u3 (by simp))
    clear u3
    rw [HTB.out]
    by_cases hab : tagS a = tagS b
    · have y1 := str_yes hab
      go_wp2_with fail
      go_ret
      exact ⟨rfl, HU.out⟩
    · have y1 := str_no hab
      go_wp2_with fail
      refine (new_ok w3).mono ?_
      rintro e w4 ⟨p, r, rfl, S4⟩
      have HS := Hd.mk S4
      have HT := Hd.mk (HT.out.upd HU.out)
      clear S4
      go_upto_region 7 with (fail)
      go_loopg [8, 39] 4 (fun g s8 ii wr => ∃ i : Nat, g + i = 4 ∧ ii = .int .i64 i ∧ Hd (Sto w3 wr p r (upto i 2) (fun _ => none) (fun _ => 0)))
      case atStart => exact ⟨0, rfl, rfl, by rw [upto_zero]; exact HS⟩
      case round =>
        clear HS
        obtain ⟨i, hg, rfl, HS⟩ := hrel
        by_cases hi : i < 4
        · go_wp2_with fail
          refine (lock_yes HS.out 2 i (upto_free i 2 hi (by decide))).mono ?_
          rintro e w5 ⟨rfl, S5, -⟩
          rw [upto_succ] at S5
          go_wp2_with fail
          go_roundg (gk - 1)
          case measure => omega
          case rel => exact ⟨i + 1, by omega, by go_num, S5⟩
        · obtain rfl : i = 4 := by omega
          have HM := Hd.mk (mine_all 2 ⟨#[107]⟩ (by decide) (by decide))
          have HA := Hd.mk (show a.size ≤ 1000000 by omega)
          have HBZ := Hd.mk (show b.size ≤ 1000000 by omega)
          clear hi hg
          go_wp2_with fail
          refine (put_yes HS.out HT.out 2 ⟨#[107]⟩ a ⟨#[]⟩ (by decide) HM.out (x := none) rfl (fun _ h => by cases h) (by decide)).mono ?_
          rintro e w5 ⟨rfl, -, S5⟩
          have HS := Hd.mk S5
          clear S5
          go_wp2_with fail
          refine (tag_ok a w5 HA.out (HT.out.upd HS.out.upd)).mono ?_
          rintro e w6 ⟨rfl, u6⟩
          rw [HTA.out]
          have HS := Hd.mk (HS.out.up u6)
          clear u6
          go_wp2_with fail
          refine (put_yes HS.out HT.out 2 ⟨#[107]⟩ b (tagS a) (by decide) HM.out (x := some a) (setM_at _ _ _) (fun y h => by cases h; exact HA.out) (by unfold putE; rw [tagOk_yes]; rfl)).mono ?_
          rintro e w7 ⟨rfl, -, S7⟩
          have HS := Hd.mk S7
          clear S7
          go_wp2_with fail
          refine (put_no HS.out HT.out 2 ⟨#[107]⟩ c (tagS a) (by decide) HM.out (x := some b) (setM_at _ _ _) (fun y h => by cases h; exact HBZ.out) (c := 6) (by unfold putE; rw [tagOk_no (fun e => hab e.symm) (tagS_pos a)]; rfl) (by decide)).mono ?_
          rintro e w8 ⟨rfl, u8⟩
          have HS := Hd.mk (HS.out.up u8)
          clear u8
          go_wp2_with fail
          refine (del_no HS.out HT.out 2 ⟨#[107]⟩ (tagS a) (by decide) HM.out (x := some b) (setM_at _ _ _) (fun y h => by cases h; exact HBZ.out) (c := 6) (by unfold delE; rw [tagOk_no (fun e => hab e.symm) (tagS_pos a)]; rfl) (by decide)).mono ?_
          rintro e w9 ⟨rfl, u9⟩
          have HS := Hd.mk (HS.out.up u9)
          clear u9
          go_wp2_with fail
          refine (get_good HS.out 2 ⟨#[107]⟩ (by decide) HM.out (x := some b) (setM_at _ _ _)).mono ?_
          rintro e w10 ⟨rfl, u10⟩
          have HS := Hd.mk (HS.out.up u10)
          clear u10
          simp only [getE, Option.isSome_some, Option.getD_some, if_true]
          go_wp2_with fail
          refine (tag_ok b w10 HBZ.out (HT.out.upd HS.out.upd)).mono ?_
          rintro e w11 ⟨rfl, u11⟩
          rw [HTB.out]
          have HS := Hd.mk (HS.out.up u11)
          clear u11
          go_wp2_with fail
          refine (del_yes HS.out HT.out 2 ⟨#[107]⟩ (tagS b) (by decide) HM.out (x := some b) (setM_at _ _ _) (fun y h => by cases h; exact HBZ.out) (by unfold delE; rw [tagOk_yes]; rfl)).mono ?_
          rintro e w12 ⟨rfl, -, S12⟩
          have HS := Hd.mk S12
          clear S12
          go_wp2_with fail
          refine (tag_ok b w12 HBZ.out (HT.out.upd HS.out.upd)).mono ?_
          rintro e w13 ⟨rfl, u13⟩
          rw [HTB.out]
          have HS := Hd.mk (HS.out.up u13)
          clear u13
          go_wp2_with fail
          refine (put_no HS.out HT.out 2 ⟨#[107]⟩ c (tagS b) (by decide) HM.out (x := none) (setM_at _ _ _) (fun y h => by cases h) (c := 6) (by unfold putE; rw [tagOk_none (tagS_pos b)]; rfl) (by decide)).mono ?_
          rintro e w14 ⟨rfl, u14⟩
          have HS := Hd.mk (HS.out.up u14)
          clear u14
          have y2 := str_yes (rfl : b = b)
          go_wp2_with fail
          go_ret
          exact ⟨rb (by simp), HU.out.trans HS.out.upd (by simp)⟩
theorem swaps_row (a b c : ByteArray) (w : World) (hT : Tb w) (ha : a.size ≤ 140737488351232) (hb : b.size ≤ 140737488351232) (hc : c.size ≤ 140737488351232) :
    Calls Tryd.prog 5 #[.string a, .string b, .string c] w fun e w' => e = .returned (.bool true) ∧ Below w.heap.size w w' :=
  (swaps_walk a b c w ha hb hc hT).mono fun _ _ h => ⟨h.1, h.2.nil_below⟩
end Go.Proofs.YtncahmodmgbacaaDoor
