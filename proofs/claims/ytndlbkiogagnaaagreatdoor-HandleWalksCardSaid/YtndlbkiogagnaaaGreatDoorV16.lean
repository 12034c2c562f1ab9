/- Tries: what Match does with routes that end at its path. -/
import Derived.Test.YtndlbkiogagnaaaGreatDoorV15
namespace Go.Proofs.YtndlbkiogagnaaaGreatDoor
set_option linter.unusedSimpArgs false
set_option linter.unusedVariables false
set_option linter.unnecessarySimpa false
open Go.RowKit BigFrame

def zMatch : List Value := [.string ⟨#[]⟩, .slice none 0 0, .slice none 0 0]
/-- None of the method so far. -/
structure Sm (w : World) (mbx lbx mb rsb : Nat) (mth : Bs) (lv : Value) (D : List Rt) (W : World) : Prop where
  upd : Upd [] w W
  m1 : Blk W mbx [S mth] 9
  l1 : Blk W lbx [lv] 22
  rs : Blk W rsb zMatch 33
  al : ∃ av ac, Blk W mb [.string ⟨#[]⟩, .slice none 0 0, .slice av (dm D []).length ac] 33 ∧ Bld w W 9 1 (.slice av (dm D []).length ac) (dm D []).length (Ss (dm D [])) ∧ mbx ∉ ownB (.slice av (dm D []).length ac)
/-- One is of the method. -/
structure Fm (w : World) (mb rsb : Nat) (l : List Bs) (r : Rt) (W : World) : Prop where
  upd : Upd [] w W
  rs : Blk W rsb zMatch 33
  fin : ∃ pv, Blk W mb [S r.h, pv, .slice none 0 0] 33 ∧ Bld w W 94 2 pv (parL (segsL r.p) l).length (pcells (parL (segsL r.p) l))
theorem Sm.up {w W W' : World} {mbx lbx mb rsb : Nat} {mth : Bs} {lv : Value} {D : List Rt} (h : Sm w mbx lbx mb rsb mth lv D W) (hu : Upd [] W W') : Sm w mbx lbx mb rsb mth lv D W' := by
  obtain ⟨av, ac, h1, h2, h3⟩ := h.al
  exact ⟨h.upd.trans hu (by simp), hu.blk h.m1 (by simp), hu.blk h.l1 (by simp), hu.blk h.rs (by simp), av, ac, hu.blk h1 (by simp), h2.over hu, h3⟩
theorem Fm.up {w W W' : World} {mb rsb : Nat} {l : List Bs} {r : Rt} (h : Fm w mb rsb l r W) (hu : Upd [] W W') : Fm w mb rsb l r W' := by
  obtain ⟨pv, h1, h2⟩ := h.fin
  exact ⟨h.upd.trans hu (by simp), hu.blk h.rs (by simp), pv, hu.blk h1 (by simp), h2.over hu⟩
/-- One is found: what it is, is written down. -/
theorem Fm.mk' {w w3 w4 : World} {mbx lbx mb rsb : Nat} {mth : Bs} {lv pv : Value} {D : List Rt} {l : List Bs} {r : Rt} (h : Sm w mbx lbx mb rsb mth lv D w3) (hmb : w.heap.size ≤ mb) (hmr : mb ≠ rsb) (hb : Bld w3.drew w4 94 2 pv (parL (segsL r.p) l).length (pcells (parL (segsL r.p) l))) :
    Fm w mb rsb l r (((w4.setCell ⟨mb, 0, none⟩ (S r.h)).setCell ⟨mb, 1, none⟩ pv).setCell ⟨mb, 2, none⟩ (.slice none 0 0)) := by
  obtain ⟨av, ac, h1, -, -⟩ := h.al
  have u4 : Upd [] w3 w4 := ((Upd.refl [] w3).drew).trans hb.upd (by simp)
  have hu : Upd [mb] w4 (((w4.setCell ⟨mb, 0, none⟩ (S r.h)).setCell ⟨mb, 1, none⟩ pv).setCell ⟨mb, 2, none⟩ (.slice none 0 0)) := (((Upd.refl _ _).set _ _ (by simp)).set _ _ (by simp)).set _ _ (by simp)
  have hw : Upd [] w (((w4.setCell ⟨mb, 0, none⟩ (S r.h)).setCell ⟨mb, 1, none⟩ pv).setCell ⟨mb, 2, none⟩ (.slice none 0 0)) := (h.upd.trans u4 (by simp)).trans hu (fun k hk e => by rw [List.mem_singleton] at e; omega)
  have hm4 := u4.blk h1 (by simp)
  refine ⟨hw, hu.blk (u4.blk h.rs (by simp)) (fun e => by rw [List.mem_singleton] at e; exact hmr e.symm), pv, ((hm4.set 0 _).set 1 _).set 2 _, hb.sl.upd hu (fun k hk e => ?_), fun k hk => ?_, hw⟩
  · rw [List.mem_singleton] at e
    subst e
    exact hb.sl.other (t := 33) (by decide) _ hk _ hm4
  · have := hb.own k hk
    have h2 := h.upd.size
    have h3 : w3.heap.size ≤ k := this
    omega
/-- A method more. -/
theorem Sm.more {w w3 w9 : World} {mbx lbx mb rsb : Nat} {mth : Bs} {lv : Value} {D D' : List Rt} (h : Sm w mbx lbx mb rsb mth lv D w3) (hmb : w.heap.size ≤ mb) (hmr : mb ≠ rsb) {av a9 : Option Addr} {ac c9 : Nat} {x : Bs} {xv : Value} (hxv : xv = S x)
    (hb : Blk w3 mb [.string ⟨#[]⟩, .slice none 0 0, .slice av (dm D []).length ac] 33) (hal : Bld w w3 9 1 (.slice av (dm D []).length ac) (dm D []).length (Ss (dm D []))) (hnb : mbx ∉ ownB (.slice av (dm D []).length ac))
    (hs : Sl w9 9 1 (.slice a9 ((dm D []).length + 1) c9) ((dm D []).length + 1) (Ss (dm D []) ++ [xv])) (hu : Upd (ownB (.slice av (dm D []).length ac)) w3 w9) (ho : ∀ k, k ∈ ownB (.slice a9 ((dm D []).length + 1) c9) → k ∈ ownB (.slice av (dm D []).length ac) ∨ w3.heap.size ≤ k) (hd : dm D' [] = dm D [] ++ [x]) :
    Sm w mbx lbx mb rsb mth lv D' (w9.setCell ⟨mb, 2, none⟩ (.slice a9 ((dm D []).length + 1) c9)) := by
  subst hxv
  have hn1 : mb ∉ ownB (.slice av (dm D []).length ac) := fun e => hal.sl.other (t := 33) (by decide) _ e _ hb
  have hn2 : lbx ∉ ownB (.slice av (dm D []).length ac) := fun e => hal.sl.other (t := 22) (by decide) _ e _ h.l1
  have hn3 : rsb ∉ ownB (.slice av (dm D []).length ac) := fun e => hal.sl.other (t := 33) (by decide) _ e _ h.rs
  have hb9 := hu.blk hb hn1
  have hset : Upd [mb] w9 (w9.setCell ⟨mb, 2, none⟩ (.slice a9 ((dm D []).length + 1) c9)) := (Upd.refl _ _).set _ _ (by simp)
  have hmx : mbx ≠ mb := fun e => by
    have := (h.m1.uniq (e ▸ hb)).2
    exact absurd this (by decide)
  have hmq : lbx ≠ mb := fun e => by
    have := (h.l1.uniq (e ▸ hb)).2
    exact absurd this (by decide)
  have hw : Upd [] w (w9.setCell ⟨mb, 2, none⟩ (.slice a9 ((dm D []).length + 1) c9)) := (h.upd.trans hu (fun k hk e => by have := hal.own k e; omega)).trans hset (fun k hk e => by rw [List.mem_singleton] at e; omega)
  have hl : (dm D' []).length = (dm D []).length + 1 := by rw [hd]; simp
  refine ⟨hw, (hu.blk h.m1 hnb).set_ne _ _ hmx, (hu.blk h.l1 hn2).set_ne _ _ hmq, (hu.blk h.rs hn3).set_ne _ _ (Ne.symm hmr), a9, c9, ?_, ⟨?_, fun k hk => ?_, hw⟩, fun e => ?_⟩
  · rw [hl]; exact hb9.set 2 _
  · rw [hl, hd]
    have : Ss (dm D [] ++ [x]) = Ss (dm D []) ++ [S x] := by simp [Ss]
    rw [this]
    refine hs.upd hset (fun k hk e => ?_)
    rw [List.mem_singleton] at e
    subst e
    exact hs.other (t := 33) (by decide) _ hk _ hb9
  · rw [hl] at hk
    have h2 := h.upd.size
    rcases ho k hk with h1 | h1
    · exact hal.own k h1
    · omega
  · rw [hl] at e
    rcases ho mbx e with h1 | h1
    · exact hnb h1
    · have := h.m1.lt; omega
/-- A route that may be, and whose pattern has the path. -/
def Gd (l : List Bs) (r : Rt) : Prop := Rgt r ∧ (segsL r.p).length ≤ l.length
set_option maxRecDepth 100000 in
set_option maxHeartbeats 4000000 in
theorem yield_ok (w : World) (mbx lbx mb rsb : Nat) (mth : Bs) (l : List Bs) (lv : Value) (hl : RdS w 1 lv l.length (l.map S)) (hz : sumL l ≤ 4503599627370496) (hmb : w.heap.size ≤ mb) (hmr : mb ≠ rsb) :
    YC w 55 #[.pointer (some ⟨mbx, 0, none⟩), .pointer (some ⟨lbx, 0, none⟩), .pointer (some ⟨mb, 0, none⟩)] (Gd l) mth (Sm w mbx lbx mb rsb mth lv) (Fm w mb rsb l) := by
  refine ⟨enters _ _ _ Tryz.func55 (by kernel_rfl) rfl, fun D W h => h.upd, fun D W W' h hu => h.up hu, fun r W W' h hu => h.up hu, fun D W en sv hst hsv hg hlen => ?_⟩
  obtain ⟨sa, sc, rfl⟩ := hsv.form
  obtain ⟨la, lc, rfl⟩ := hl.form
  have HL := Hd.mk hl
  have HST := Hd.mk hst
  have HSV := Hd.mk hsv
  have HGD := Hd.mk hg
  have HMB := Hd.mk (And.intro hmb hmr)
  obtain ⟨ml, hml⟩ : ∃ t : ByteArray, (⟨mth.toArray⟩ : ByteArray) = t := ⟨_, rfl⟩
  have HML := Hd.mk (show S mth = .string ml by rw [← hml]; rfl)
  have HMD := Hd.mk (show ml.data.toList = mth by rw [← hml])
  clear hl hst hsv hg hmb hmr hml
  show Calls Tryz.prog 55 #[.slice sa en.length sc, .pointer (some ⟨mbx, 0, none⟩), .pointer (some ⟨lbx, 0, none⟩), .pointer (some ⟨mb, 0, none⟩)] W _
  go_enter Tryz.func55, Tryz.ntmps55
  go_upto_region 2 with (fail)
  go_loopg [7, 10] en.length (fun g s7 ii wr => ∃ i : Nat, g + i = en.length ∧ ii = .int .i64 i ∧ Hd ((en.take i).find? (byM mth) = none ∧ Sm w mbx lbx mb rsb mth (.slice la l.length lc) (D ++ en.take i) wr))
  case atStart => exact ⟨0, by omega, rfl, Hd.mk ⟨rfl, by simpa using HST.out⟩⟩
  case round =>
    clear HST
    obtain ⟨i, hg, rfl, HS⟩ := hrel
    have HG := Hd.mk hg
    clear hg
    by_cases hi : i < en.length
    · obtain ⟨b, o, c', hv, _, _, hcell⟩ := (HSV.out.upd HS.out.2.upd (by simp)).some (by omega)
      simp only [Value.slice.injEq] at hv
      obtain ⟨rfl, _, rfl⟩ := hv
      have x0 := (hcell (i * 3 + 0) (by omega)).trans (flat_cells en i 0 hi (by omega))
      have x1 := (hcell (i * 3 + 1) (by omega)).trans (flat_cells en i 1 hi (by omega))
      have x2 := (hcell (i * 3 + 2) (by omega)).trans (flat_cells en i 2 hi (by omega))
      have hrg := HGD.out _ (List.getElem_mem hi)
      have htk : en.take (i + 1) = en.take i ++ [en[i]] := List.take_succ_eq_append_getElem hi
      have hfd : en = en.take i ++ en[i] :: en.drop (i + 1) := by rw [← List.drop_eq_getElem_cons hi, List.take_append_drop]
      obtain ⟨r, hr⟩ : ∃ r, en[i] = r := ⟨_, rfl⟩
      rw [hr] at x0 x1 x2 hrg htk hfd
      have HTK := Hd.mk htk
      have HRG := Hd.mk hrg
      have HFD := Hd.mk hfd
      simp only [Rt.cells, S, List.getElem?_cons_zero, List.getElem?_cons_succ, Nat.add_zero] at x0 x1 x2
      rw [← Nat.add_assoc] at x1 x2
      clear hcell hr htk hrg hfd
      go_upto_region 4 with (fail)
      refine wp_abs (fun W' => Blk W' wr.heap.size r.cells 90 ∧ Sm w mbx lbx mb rsb mth (.slice la l.length lc) (D ++ en.take i) W') ⟨Blk.new wr r.cells _ _ rfl, HS.out.2.up ((Upd.refl _ _).alloc _)⟩ ?_
      have HF0 := Hd.mk HS.out.1
      clear x0 x1 x2 HS
      generalize wr.heap.size = y
      rintro w3 ⟨by_, s3⟩
      have HS := Hd.mk s3
      have HY := Hd.mk by_
      have d0 := by_.cell 0
      have d1 := by_.cell 1
      have d2 := by_.cell 2
      simp only [Rt.cells, List.getElem?_cons_zero, List.getElem?_cons_succ] at d0 d1 d2
      obtain ⟨rm, hrm⟩ : ∃ t : ByteArray, (⟨r.m.toArray⟩ : ByteArray) = t := ⟨_, rfl⟩
      have HRM := Hd.mk (show rm.data.toList = r.m by rw [← hrm])
      have HRS := Hd.mk (show S r.m = .string rm by rw [← hrm]; rfl)
      rw [HRS.out] at d0
      simp only [S] at d1 d2
      have m0 := s3.m1.cell 0
      have l0 := s3.l1.cell 0
      simp only [List.getElem?_cons_zero] at m0 l0
      rw [HML.out] at m0
      clear by_ s3 hrm
      by_cases hm : r.m = mth
      · have y1 := str_yes (show rm = ml from toList_inj (by rw [HRM.out, HMD.out]; exact hm))
        have HE := Hd.mk (show en.find? (byM mth) = some r by rw [HFD.out, List.find?_append, HF0.out]; simp [byM, hm])
        clear hm
        have HCALL := Hd.mk (params_ok r l (.slice la l.length lc) w3.drew HRG.out.1 (HL.out.upd HS.out.upd.drew (by simp)) hz HRG.out.2)
        have tok := HCALL
        obtain ⟨av, ac, hmbk, -, -⟩ := HS.out.al
        have HMK := Hd.mk hmbk
        clear hmbk
        go_upto_region 5 with (fail)
        go_region_law ((have _t := tok; refine step_func_ex rfl 56 #[.tmp 20, .tmp 21] #[90, 22] rfl #[.agg r.cells.toArray, .slice la l.length lc] (by (go_simp; (rw [← HRS.out]; rfl))) (by go_simp) ?_; refine HCALL.out.mono ?_; rintro e w4 ⟨v4, he, hb4⟩; obtain ⟨pa, pc, rfl⟩ := hb4.sl.form; refine ⟨_, he, ?_⟩; have U4 := Hd.mk (show Upd [] w3 w4 from ((Upd.refl [] w3).drew).trans hb4.upd (by simp)); have by4 := U4.out.blk HY.out (by simp); have bm4 := U4.out.blk HMK.out (by simp); have d2' := by4.cell 2; have q0 := bm4.cell 0; have q1 := bm4.cell 1; have q2 := bm4.cell 2; have f0 := bm4.free 0; have f1 := bm4.free 1; have f2 := bm4.free 2; simp only [Rt.cells, S, List.getElem?_cons_zero, List.getElem?_cons_succ] at d2' q0 q1 q2; have HFM := Hd.mk (Fm.mk' (l := l) (r := r) HS.out HMB.out.1 HMB.out.2 hb4); clear tok _t he hb4 by4 bm4))
        all_goals
          go_wp2_with fail
          go_ret
          exact .inr ⟨r, HE.out, rfl, HFM.out⟩
      · have y1 := str_no (show rm ≠ ml from fun e => hm (by rw [← HRM.out, ← HMD.out, e]))
        have HF1 := Hd.mk (show (en.take (i + 1)).find? (byM mth) = none by rw [HTK.out, List.find?_append, HF0.out]; simp [byM, hm])
        obtain ⟨av, ac, hmbk, hal, hnb⟩ := HS.out.al
        have q2 := hmbk.cell 2
        simp only [List.getElem?_cons_zero, List.getElem?_cons_succ] at q2
        have HAL := Hd.mk (And.intro hmbk (And.intro hal hnb))
        have hdl := dm_len (D ++ en.take i) []
        have hdl2 : (dm (D ++ en.take i) []).length ≤ 900000 := by rw [List.length_append] at hdl; have := List.length_take_le i en; simp at hdl; omega
        have HCN := Hd.mk (contains_ok (dm (D ++ en.take i) []) (.slice av (dm (D ++ en.take i) []).length ac) r.m w3 hal.sl (by omega))
        rw [HRS.out] at HCN
        have HDM := Hd.mk (show dm (D ++ en.take (i + 1)) [] = if r.m ∈ dm (D ++ en.take i) [] then dm (D ++ en.take i) [] else dm (D ++ en.take i) [] ++ [r.m] by rw [HTK.out, ← List.append_assoc, dm_app]; rfl)
        clear hm hmbk hal hnb hdl
        go_wp2_with fail
        refine HCN.out.mono ?_
        rintro e w4 ⟨rfl, hw4⟩
        subst hw4
        by_cases hin : r.m ∈ dm (D ++ en.take i) []
        · have hd1 : decide (r.m ∈ dm (D ++ en.take i) []) = true := decide_eq_true hin
          have HD1 := Hd.mk (show dm (D ++ en.take (i + 1)) [] = dm (D ++ en.take i) [] by rw [HDM.out, if_pos hin])
          rw [hd1]
          clear hin hd1
          go_wp2_with fail
          go_roundg (gk - 1)
          case measure => have := HG.out; omega
          case rel => exact ⟨i + 1, by have := HG.out; omega, by go_num, Hd.mk ⟨HF1.out, HS.out.upd, HS.out.m1, HS.out.l1, HS.out.rs, by rw [HD1.out]; exact HS.out.al⟩⟩
        · have hd1 : decide (r.m ∈ dm (D ++ en.take i) []) = false := decide_eq_false hin
          have HD1 := Hd.mk (show dm (D ++ en.take (i + 1)) [] = dm (D ++ en.take i) [] ++ [r.m] by rw [HDM.out, if_neg hin])
          rw [hd1]
          have hsl := HAL.out.2.1.sl
          clear hin hd1
          go_wp2_with (at_builtin; refine wpList_append_row rfl (.tmp 31) (.tmp 34) 22 rfl rfl 9 (.string ⟨#[]⟩) 1 16 Tryz.underlying22 (by kernel_rfl) rfl _ _ _ rfl hsl [.string rm] rfl rfl rfl (by omega) (by omega) ?_)
          intro v9 w9 s9 u9 o9
          obtain ⟨a9, c9, rfl⟩ := s9.form
          have bm9 := u9.blk HAL.out.1 (fun e => HAL.out.2.1.sl.other (t := 33) (by decide) _ e _ HAL.out.1)
          have z2 := bm9.cell 2
          have f2 := bm9.free 2
          simp only [List.getElem?_cons_zero, List.getElem?_cons_succ] at z2
          have HSM := Hd.mk (HS.out.more HMB.out.1 HMB.out.2 HRS.out.symm HAL.out.1 HAL.out.2.1 HAL.out.2.2 s9 u9 o9 HD1.out)
          clear s9 u9 o9 bm9 hsl q2
          go_wp2_with fail
          go_roundg (gk - 1)
          case measure => have := HG.out; omega
          case rel => exact ⟨i + 1, by have := HG.out; omega, by go_num, Hd.mk ⟨HF1.out, HSM.out⟩⟩
    · obtain rfl : i = en.length := by have := HG.out; omega
      have h1 := HS.out
      rw [List.take_length] at h1
      have HE := Hd.mk h1
      clear h1
      go_wp2_with fail
      go_ret
      exact FQ.none HE.out.1 HE.out.2
end Go.Proofs.YtndlbkiogagnaaaGreatDoor
