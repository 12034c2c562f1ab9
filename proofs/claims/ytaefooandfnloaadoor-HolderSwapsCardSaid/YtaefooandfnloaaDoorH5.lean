/- Holders: HolderOld. -/
import Derived.Test.YtaefooandfnloaaDoorH3
namespace Go.Proofs.YtaefooandfnloaaDoor
set_option linter.unusedSimpArgs false
set_option linter.unusedVariables false
set_option linter.unnecessarySimpa false
open Go.RowKit BigFrame

/-- What Match of GET tells. -/
def MQ (R : Mt × Bool) (w : World) (e : Ending) (w' : World) : Prop := ∃ (pa : Option Addr) (pn pc : Nat) (aa : Option Addr) (an ac : Nat), e = .returned (.tuple #[.agg #[.string ⟨R.1.h.toArray⟩, .slice pa pn pc, .slice aa an ac], .bool R.2]) ∧ Upd [] w w'
theorem hmatch (v lv : Value) (L : List Rt) (l : List Bs) (w : World) (ht : Tr w v L) (hl : RdS w 1 lv l.length (l.map S)) (hz : sumL l ≤ 4503599627370496) (hn : l.length ≤ 12) (hk : L.length ≤ 100) :
    Calls Tryd.prog 13 #[v, .string ⟨#[71, 69, 84]⟩, lv] w (MQ (mtL L [71, 69, 84] l) w) := by
  refine (Tr.match_ v lv L [71, 69, 84] l w ht hl hz hn hk).mono ?_
  rintro e w' ⟨mv, rfl, hm, hu⟩
  obtain ⟨pv, av, rfl, ⟨pa, pc, rfl, -⟩, ⟨aa, ac, rfl, -⟩⟩ := hm
  exact ⟨_, _, _, _, _, _, rfl, hu⟩
theorem hth_mt : mtL frsL [71, 69, 84] [[104, 101, 97, 108, 116, 104]] = (⟨[104, 101, 97, 108, 116, 104], [], []⟩, true) := by decide +kernel
theorem sumL_52 {l : List Bs} (hn : l.length ≤ 12) (hz : ∀ x ∈ l, x.length ≤ 140737488351232) : sumL l ≤ 4503599627370496 := by
  have h1 := sumB_le l l.length hz
  rw [List.take_length] at h1
  rw [sumL_B]
  have : 140737488351232 * l.length ≤ 140737488351232 * 12 := Nat.mul_le_mul_left _ hn
  omega
set_option maxRecDepth 100000 in
set_option maxHeartbeats 8000000 in
theorem old_row (a0 : Option Addr) (len0 cap0 : Nat) (a1 : Option Addr) (len1 cap1 : Nat) (w : World) (hT : HTab w) (w0 : Leaf.ok w (.sl [.str]) (.slice a0 len0 cap0)) (w1 : Leaf.ok w (.sl [.str]) (.slice a1 len1 cap1)) :
    Calls Tryd.prog 5 #[.slice a0 len0 cap0, .slice a1 len1 cap1] w fun e w' => e = .returned (.bool true) ∧ Below w.heap.size w w' := by
  obtain ⟨T, rfl, hT0, hn0, hz0⟩ := leaf_texts w0
  obtain ⟨p, rfl, hp, hn1, hz1⟩ := leaf_texts w1
  have HT := Hd.mk hT
  have HTX := Hd.mk (And.intro hT0 hz0)
  have HP := Hd.mk (And.intro hp hz1)
  clear hT w0 w1 hT0 hz0 hp hz1
  have sf0 := snap_f0
  have sf1 := snap_f1
  go_enter Tryd.func5, Tryd.ntmps5
  go_wp2_with fail
  refine (hfit_ok w HT.out).mono ?_
  rintro e w1 ⟨rfl, u1⟩
  have HU := Hd.mk u1
  clear u1
  by_cases h12 : 12 < T.length
  · have d0 : decide ((12 : Int) < T.length) = true := decide_eq_true (by omega)
    go_wp2_with fail
    go_ret
    exact ⟨rfl, HU.out.below _ (Nat.le_refl _) (by simp)⟩
  have d0 : decide ((12 : Int) < T.length) = false := decide_eq_false (by omega)
  by_cases h13 : 12 < p.length
  · have d1 : decide ((12 : Int) < p.length) = true := decide_eq_true (by omega)
    go_wp2_with fail
    go_ret
    exact ⟨rfl, HU.out.below _ (Nat.le_refl _) (by simp)⟩
  have d1 : decide ((12 : Int) < p.length) = false := decide_eq_false (by omega)
  have HPZ := Hd.mk (And.intro (sumL_52 (show p.length ≤ 12 by omega) HP.out.2) (show p.length ≤ 12 by omega))
  go_wp2_with fail
  refine (first_ok w1 (HT.out.upd HU.out)).mono ?_
  rintro e w2 ⟨fa, fc, rfl, hb⟩
  have HU := Hd.mk (HU.out.trans hb.upd (by simp))
  have HN := Hd.mk (new_ok (.slice fa 8 fc) frsL w2 (HT.out.upd HU.out) hb.sl (by decide) (by decide))
  clear hb d0 d1
  go_wp2_with fail
  refine HN.out.mono ?_
  rintro e w3 ⟨hb, tv, rv, rfl, hh, hu, hge⟩
  rw [first_fix] at hh
  obtain ⟨tb, rfl⟩ := hh.sn.ptr
  obtain ⟨ra, rc, rfl⟩ := hh.sn.rs.form
  have HH := Hd.mk hh
  have HGE := Hd.mk (show w.heap.size ≤ hb by have := HU.out.size; omega)
  have HU := Hd.mk (HU.out.trans hu (by simp))
  clear hh hu hge HN
  go_wp2_with fail
  refine (load_ok hb 1 _ _ frsL w3 HH.out).mono ?_
  rintro e w4 ⟨rfl, u4⟩
  go_upto_region 7 with (fail)
  refine wp_abs (fun W => Blk W w4.heap.size [.pointer (some ⟨tb, 0, none⟩), .int .i64 1, .slice ra frsL.length rc] 32 ∧ Upd [] w3 W) ⟨Blk.new w4 _ _ _ rfl, u4.alloc _⟩ ?_
  generalize w4.heap.size = sb
  clear u4
  rintro w5 ⟨bs, u5⟩
  have HH := Hd.mk (HH.out.up u5)
  have HU := Hd.mk (HU.out.trans u5 (by simp))
  have HBS := Hd.mk bs
  have c0 := fun Z => (bs.alloc Z).cell 0
  have c0' := bs.cell 0
  have hsl := fun (W : World) => ((Blk.new W [S [104, 101, 97, 108, 116, 104]] 9 _ rfl).sl 1 1 rfl (by decide)).rs
  have HSL := Hd.mk hsl
  simp only [List.getElem?_cons_zero] at c0 c0'
  clear bs u5 hsl
  go_wp2_with fail
  refine (hmatch _ _ frsL [[104, 101, 97, 108, 116, 104]] _ ((HH.out.up ((Upd.refl [] w5).alloc _)).sn.tr) (HSL.out w5) (by decide) (by decide) (by decide)).mono ?_
  rintro e w6 ⟨pa1, pn1, pc1, aa1, an1, ac1, rfl, u6⟩
  rw [hth_mt]
  go_upto_region 8 with (fail)
  refine wp_abs (fun W => Blk W w6.heap.size [.string ⟨#[104, 101, 97, 108, 116, 104]⟩, .slice pa1 pn1 pc1, .slice aa1 an1 ac1] 46 ∧ Upd [] w5 W) ⟨Blk.new w6 _ _ _ rfl, (((Upd.refl [] w5).alloc _).trans u6 (by simp)).alloc _⟩ ?_
  generalize w6.heap.size = m1
  clear u6 c0 c0'
  rintro w7 ⟨bm, u7⟩
  have HH := Hd.mk (HH.out.up u7)
  have HU := Hd.mk (HU.out.trans u7 (by simp))
  have HBS := Hd.mk (u7.blk HBS.out (by simp))
  have HM1 := Hd.mk bm
  have bs := HBS.out
  have c0 := bs.cell 0
  have c1 := bs.cell 1
  have c2 := bs.cell 2
  simp only [List.getElem?_cons_zero, List.getElem?_cons_succ] at c0 c1 c2
  clear bm u7 bs
  obtain ⟨R, hR⟩ : ∃ R, mtL frsL [71, 69, 84] p = R := ⟨_, rfl⟩
  have HR := Hd.mk hR
  go_wp2_with fail
  refine (hmatch _ _ frsL p _ HH.out.sn.tr (HP.out.1.upd HU.out (by simp)) HPZ.out.1 HPZ.out.2 (by decide)).mono ?_
  rintro e w8 ⟨pa2, pn2, pc2, aa2, an2, ac2, rfl, u8⟩
  rw [hR]
  go_upto_region 9 with (fail)
  refine wp_abs (fun W => Blk W w8.heap.size [.string ⟨R.1.h.toArray⟩, .slice pa2 pn2 pc2, .slice aa2 an2 ac2] 46 ∧ Upd [] w7 W) ⟨Blk.new w8 _ _ _ rfl, u8.alloc _⟩ ?_
  generalize w8.heap.size = m2
  clear u8 c0 c1 c2 hR
  rintro wB ⟨bm, u9⟩
  have HH := Hd.mk (HH.out.up u9)
  have HU := Hd.mk (HU.out.trans u9 (by simp))
  have HBS := Hd.mk (u9.blk HBS.out (by simp))
  have HM1 := Hd.mk (u9.blk HM1.out (by simp))
  have HM2 := Hd.mk bm
  clear bm u9
  have HNE := Hd.mk (show hb ≠ sb ∧ hb ≠ m1 ∧ hb ≠ m2 from ⟨fun e => absurd (HBS.out.uniq (e ▸ HH.out.blk)).2 (by decide), fun e => absurd (HM1.out.uniq (e ▸ HH.out.blk)).2 (by decide), fun e => absurd (HM2.out.uniq (e ▸ HH.out.blk)).2 (by decide)⟩)
  go_upto_region 10 with (fail)
  go_loopg [12, 47] T.length (fun g s12 ii wr => ∃ (i n : Nat) (tv rv : Value) (L : List Rt), g + i = T.length ∧ ii = .int .i64 i ∧ n ≤ i + 1 ∧ Hd (Hol wr hb tv rv n L) ∧ Hd (Upd [hb] wB wr))
  case atStart => exact ⟨0, 1, _, _, _, by omega, rfl, by omega, HH, Hd.mk (Upd.refl _ _)⟩
  case round =>
    obtain ⟨i, n, tv, rv, L, hg, rfl, hn, HC, HV⟩ := hrel
    have HG := Hd.mk hg
    clear hg
    have HUV := Hd.mk (show Upd [] w wr from (HU.out.mono (by simp) : Upd [] w wB).trans HV.out (by intro k hk e; rw [List.mem_singleton] at e; have := HGE.out; omega))
    by_cases hi : i < T.length
    · obtain ⟨b, off, cap, hv, -, -, hc⟩ := (HTX.out.1.upd HUV.out (by simp)).some (by omega)
      simp only [Value.slice.injEq, true_and] at hv
      obtain ⟨rfl, rfl⟩ := hv
      have k0 := hc i (by omega)
      rw [List.getElem?_map, List.getElem?_eq_getElem hi] at k0
      generalize T[i] = x at k0
      rw [Option.map_some] at k0
      obtain ⟨xb, hx, hxx, hxz⟩ := S_ex x
      have HX := Hd.mk hx
      rw [hx] at k0
      clear hc hx hxx
      by_cases h15 : 1500 < xb.size
      · have d0 : decide ((1500 : Int) < xb.size) = true := decide_eq_true (by omega)
        go_wp2_with fail
        go_ret
        exact ⟨rfl, HUV.out.below _ (Nat.le_refl _) (by simp)⟩
      have d0 : decide ((1500 : Int) < xb.size) = false := decide_eq_false (by omega)
      have HSW := Hd.mk (swap_ok hb n tv rv L x wr (HT.out.upd HUV.out) HC.out (by omega) (by omega))
      rw [HX.out] at HSW
      go_wp2_with fail
      refine HSW.out.mono ?_
      rintro e w9 (⟨-, rfl, u9⟩ | ⟨-, rfl, tv2, rv2, hh, u9⟩)
      · have HC := Hd.mk (HC.out.up u9)
        have HV := Hd.mk (HV.out.trans (u9.mono (by simp) : Upd [hb] wr w9) (by simp))
        clear u9 HSW k0
        go_wp2_with fail
        go_roundg (gk - 1)
        case measure => have := HG.out; omega
        case rel => exact ⟨i + 1, n, _, _, _, by have := HG.out; omega, by go_num, by omega, HC, HV⟩
      · have HC := Hd.mk hh
        have HV := Hd.mk (HV.out.trans u9 (by simp))
        clear u9 HSW k0 hh
        go_wp2_with fail
        go_roundg (gk - 1)
        case measure => have := HG.out; omega
        case rel => exact ⟨i + 1, n + 1, _, _, _, by have := HG.out; omega, by go_num, by omega, HC, HV⟩
    · have HSN := Hd.mk (HH.out.sn.updH HH.out.blk HV.out)
      have HBS := Hd.mk (HV.out.blk HBS.out (by have := HNE.out.1; simp; exact fun e => this e.symm))
      have HM1 := Hd.mk (HV.out.blk HM1.out (by have := HNE.out.2.1; simp; exact fun e => this e.symm))
      have HM2 := Hd.mk (HV.out.blk HM2.out (by have := HNE.out.2.2; simp; exact fun e => this e.symm))
      obtain rfl : i = T.length := by have := HG.out; omega
      clear hi HC HG HH HV
      have bs := HBS.out
      have c0 := fun Z => (bs.alloc Z).cell 0
      have c0' := bs.cell 0
      simp only [List.getElem?_cons_zero] at c0 c0'
      clear bs
      go_wp2_with fail
      refine (hmatch _ _ frsL [[104, 101, 97, 108, 116, 104]] _ ((HSN.out.up ((Upd.refl [] wr).alloc _)).tr) (HSL.out wr) (by decide) (by decide) (by decide)).mono ?_
      rintro e w10 ⟨pa3, pn3, pc3, aa3, an3, ac3, rfl, u10⟩
      rw [hth_mt]
      go_upto_region 17 with (fail)
      refine wp_abs (fun W => Blk W w10.heap.size [.string ⟨#[104, 101, 97, 108, 116, 104]⟩, .slice pa3 pn3 pc3, .slice aa3 an3 ac3] 46 ∧ Upd [] wr W) ⟨Blk.new w10 _ _ _ rfl, (((Upd.refl [] wr).alloc _).trans u10 (by simp)).alloc _⟩ ?_
      generalize w10.heap.size = m3
      clear u10 c0 c0'
      rintro w11 ⟨bm, u11⟩
      have HSN := Hd.mk (HSN.out.up u11)
      have HUV := Hd.mk (HUV.out.trans u11 (by simp))
      have HBS := Hd.mk (u11.blk HBS.out (by simp))
      have HM1 := Hd.mk (u11.blk HM1.out (by simp))
      have HM2 := Hd.mk (u11.blk HM2.out (by simp))
      have HM3 := Hd.mk bm
      have bs := HBS.out
      have c0 := bs.cell 0
      have c1 := bs.cell 1
      have c2 := bs.cell 2
      simp only [List.getElem?_cons_zero, List.getElem?_cons_succ] at c0 c1 c2
      clear bm u11 bs
      go_wp2_with fail
      refine (hmatch _ _ frsL p _ HSN.out.tr (HP.out.1.upd HUV.out (by simp)) HPZ.out.1 HPZ.out.2 (by decide)).mono ?_
      rintro e w12 ⟨pa4, pn4, pc4, aa4, an4, ac4, rfl, u12⟩
      rw [HR.out]
      go_upto_region 18 with (fail)
      refine wp_abs (fun W => Blk W w12.heap.size [.string ⟨R.1.h.toArray⟩, .slice pa4 pn4 pc4, .slice aa4 an4 ac4] 46 ∧ Upd [] w11 W) ⟨Blk.new w12 _ _ _ rfl, u12.alloc _⟩ ?_
      generalize w12.heap.size = m4
      clear u12 c0 c1 c2
      rintro w13 ⟨bm, u13⟩
      have HSN := Hd.mk (HSN.out.up u13)
      have HUV := Hd.mk (HUV.out.trans u13 (by simp))
      have x1 := u13.blk HBS.out (by simp)
      have x2 := u13.blk HM1.out (by simp)
      have x3 := u13.blk HM2.out (by simp)
      have x4 := u13.blk HM3.out (by simp)
      have c0 := x1.cell 0
      have c1 := x1.cell 1
      have c2 := x1.cell 2
      simp only [List.getElem?_cons_zero, List.getElem?_cons_succ] at c0 c1 c2
      have d0 := x2.cell 0
      have d1 := x2.cell 1
      have d2 := x2.cell 2
      simp only [List.getElem?_cons_zero, List.getElem?_cons_succ] at d0 d1 d2
      have f0 := x3.cell 0
      have f1 := x3.cell 1
      have f2 := x3.cell 2
      simp only [List.getElem?_cons_zero, List.getElem?_cons_succ] at f0 f1 f2
      have g0 := x4.cell 0
      have g1 := x4.cell 1
      have g2 := x4.cell 2
      simp only [List.getElem?_cons_zero, List.getElem?_cons_succ] at g0 g1 g2
      have h0 := bm.cell 0
      have h1 := bm.cell 1
      have h2 := bm.cell 2
      simp only [List.getElem?_cons_zero, List.getElem?_cons_succ] at h0 h1 h2
      have y1 := str_yes (rfl : (⟨#[104, 101, 97, 108, 116, 104]⟩ : ByteArray) = ⟨#[104, 101, 97, 108, 116, 104]⟩)
      obtain ⟨hq, hhq⟩ : ∃ hq : ByteArray, ⟨R.1.h.toArray⟩ = hq := ⟨_, rfl⟩
      rw [hhq] at f0 h0
      have y2 := str_yes (rfl : hq = hq)
      clear x1 x2 x3 x4 bm u13
      go_wp2_with fail
      refine (Tr.len _ frsL w13 HSN.out.tr).mono ?_
      rintro e w14 ⟨rfl, hw⟩
      subst hw
      rw [show frsL.length = 8 from rfl]
      go_wp2_with fail
      go_ret
      exact ⟨rfl, HUV.out.below _ (Nat.le_refl _) (by simp)⟩
end Go.Proofs.YtaefooandfnloaaDoor
