/- Tries: TrieKeeps. -/
import Derived.Test.YtiombjmkaejjfaaDoorV32
import Derived.Test.YtiombjmkaejjfaaDoorV36
namespace Go.Proofs.YtiombjmkaejjfaaDoor
set_option linter.unusedSimpArgs false
set_option linter.unusedVariables false
set_option linter.unnecessarySimpa false
open Go.RowKit BigFrame

theorem flat_take3 (L : List Rt) (k : Nat) : (L.flatMap Rt.cells).take (k * 3) = (L.take k).flatMap Rt.cells := by
  induction L generalizing k with
  | nil => simp
  | cons r L ih =>
    cases k with
    | zero => simp
    | succ k =>
      rw [List.take_succ_cons, List.flatMap_cons, List.flatMap_cons, List.take_append, ← ih k]
      have h : r.cells.length = 3 := rfl
      rw [h, show (k + 1) * 3 - 3 = k * 3 by omega, List.take_of_length_le (by rw [h]; omega)]
theorem flat_drop3 (L : List Rt) (k : Nat) : (L.flatMap Rt.cells).drop (k * 3) = (L.drop k).flatMap Rt.cells := by
  induction L generalizing k with
  | nil => simp
  | cons r L ih =>
    cases k with
    | zero => simp
    | succ k =>
      rw [List.drop_succ_cons, List.flatMap_cons, List.drop_append, ← ih k]
      have h : r.cells.length = 3 := rfl
      rw [h, show (k + 1) * 3 - 3 = k * 3 by omega, List.drop_eq_nil_of_le (by rw [h]; omega), List.nil_append]
theorem MV_h {w : World} {hh : ByteArray} {pv av : Value} {m : Mt} (h : MV w (.agg #[.string hh, pv, av]) m) : hh = ⟨m.h.toArray⟩ := by
  obtain ⟨_, _, e, -, -⟩ := h
  simp only [S, Value.agg.injEq, Array.mk.injEq, List.cons.injEq, Value.string.injEq, and_true] at e
  exact e.1
set_option maxRecDepth 100000 in
set_option maxHeartbeats 8000000 in
theorem keeps_row (a0 : Option Addr) (len0 cap0 : Nat) (a1 : Int) (a2 : Option Addr) (len2 cap2 : Nat) (w : World) (hT : HTab w) (w0 : Leaf.ok w (.sl [.str, .str, .str]) (.slice a0 len0 cap0)) (w1' : (Lit.int .i64 a1).wf = true) (w2 : Leaf.ok w (.sl [.str]) (.slice a2 len2 cap2)) :
    Calls Tryd.prog 7 #[.slice a0 len0 cap0, .int .i64 a1, .slice a2 len2 cap2] w fun e w' => e = .returned (.bool true) ∧ Below w.heap.size w w' := by
  have w1b : -9223372036854775808 ≤ a1 ∧ a1 ≤ 9223372036854775807 := by
    have e1 : IntKind.i64.min = -9223372036854775808 := by decide
    have e2 : IntKind.i64.max = 9223372036854775807 := by decide
    simp only [Lit.wf, Bool.and_eq_true, decide_eq_true_eq, e1, e2] at w1'
    exact w1'
  have HA1 := Hd.mk w1b
  clear w1' w1b
  obtain ⟨M, rfl, hM, hMn, hMz⟩ := leaf_routes w0
  obtain ⟨l, rfl, hl, hn, hz⟩ := leaf_texts w2
  have HL := Hd.mk hl
  have HZ := Hd.mk hz
  have HM := Hd.mk (And.intro hM hMz)
  have HT := Hd.mk hT
  clear hT w0 w2 hl hz hM hMz
  go_enter Tryd.func7, Tryd.ntmps7
  go_wp2_with fail
  refine (fit_ok w HT.out).mono ?_
  rintro e w1 ⟨rfl, u1⟩
  have HU := Hd.mk u1
  clear u1
  by_cases h60 : 60 < M.length
  · have d0 : decide ((60 : Int) < M.length) = true := decide_eq_true (by omega)
    go_wp2_with fail
    go_ret
    exact ⟨rfl, HU.out.below _ (Nat.le_refl _) (by simp)⟩
  have d0 : decide ((60 : Int) < M.length) = false := decide_eq_false (by omega)
  go_wp2_with fail
  refine (light_ok l (.slice a2 l.length cap2) w1 (HL.out.upd HU.out (by simp)) hn HZ.out).mono ?_
  rintro e w2 ⟨b, rfl, hb, rfl⟩
  cases b with
  | false =>
    go_wp2_with fail
    go_ret
    exact ⟨rfl, HU.out.below _ (Nat.le_refl _) (by simp)⟩
  | true =>
  have HB := Hd.mk (hb rfl)
  clear hb d0
  go_wp2_with fail
  refine (some_ok M (.slice a0 M.length cap0) w2 (HT.out.upd HU.out) (HM.out.1.upd HU.out (by simp)) hMn HM.out.2).mono ?_
  rintro e w3 ⟨v, L, rfl, hbld, hok⟩
  have HS := Hd.mk hbld.sl
  have HK := Hd.mk hok
  have HU := Hd.mk (HU.out.trans hbld.upd (by simp))
  obtain ⟨va, vc, rfl⟩ := hbld.sl.form
  have hL24 := hok.len
  clear hbld hok
  go_upto_region 7 with (fail)
  obtain ⟨T, hT, hTl⟩ : ∃ T : Nat, a1 % 65536 % ((L.length : Int) + 1) = T ∧ T ≤ L.length := by
    have h1 := Int.emod_nonneg (a1 % 65536) (show (L.length : Int) + 1 ≠ 0 by omega)
    have h2 := Int.emod_lt_of_pos (a1 % 65536) (show (0 : Int) < (L.length : Int) + 1 by omega)
    exact ⟨(a1 % 65536 % ((L.length : Int) + 1)).toNat, by omega, by omega⟩
  rw [hT]
  clear hT
  obtain ⟨tv, htk, hts, -⟩ := run_upto_sl (P := Tryd.prog) 24 26 3 Tryd.underlying24 (by kernel_rfl) w3 _ L.length _ HS.out T hTl (by omega)
  obtain ⟨dv, hdk, hds, -⟩ := run_from_sl (P := Tryd.prog) 24 26 3 Tryd.underlying24 (by kernel_rfl) w3 _ L.length _ HS.out T hTl (by omega)
  rw [flat_take3] at hts
  rw [flat_drop3] at hds
  have hlt : (L.take T).length = T := by rw [List.length_take]; omega
  have hld : (L.drop T).length = L.length - T := by rw [List.length_drop]
  have HTK := Hd.mk (show Sl w3 26 3 tv (L.take T).length ((L.take T).flatMap Rt.cells) by rw [hlt]; exact hts)
  have HDR := Hd.mk (show Sl w3 26 3 dv (L.drop T).length ((L.drop T).flatMap Rt.cells) by rw [hld]; exact hds)
  have HLEN := Hd.mk (And.intro hlt hld)
  have HRT := Hd.mk (fun r (hr : r ∈ L.take T) => HK.out.rgt r (List.mem_of_mem_take hr))
  have HRD := Hd.mk (fun r (hr : r ∈ L.drop T) => HK.out.rgt r (List.mem_of_mem_drop hr))
  have HTD := Hd.mk (List.take_append_drop T L)
  have HPERM := Hd.mk (fun (mth : Bs) (q : List Bs) => mt_perm (L := L) (M := L.drop T ++ L.take T) HK.out.apart (fun r => by
    have := List.take_append_drop T L
    constructor
    · intro h
      rw [← this]
      rcases List.mem_append.1 h with h | h
      · exact List.mem_append.2 (.inr h)
      · exact List.mem_append.2 (.inl h)
    · intro h
      rw [← this] at h
      rcases List.mem_append.1 h with h | h
      · exact List.mem_append.2 (.inr h)
      · exact List.mem_append.2 (.inl h)) mth q)
  clear hts hds hlt hld
  obtain ⟨L1, hL1⟩ : ∃ L1, L.take T = L1 := ⟨_, rfl⟩
  obtain ⟨L2, hL2⟩ : ∃ L2, L.drop T = L2 := ⟨_, rfl⟩
  rw [hL1] at HTK HLEN HRT HTD HPERM
  rw [hL2] at HDR HLEN HRD HTD HPERM
  clear hL1 hL2
  have hl1 : L1.length ≤ 24 := by have := HLEN.out.1; omega
  have hl2 : L2.length ≤ 24 := by have := HLEN.out.2; omega
  have HML1 := Hd.mk (mt_len L1 HRT.out (by omega) gET l HB.out.2)
  have HML := Hd.mk (mt_len L HK.out.rgt (by omega) gET l HB.out.2)
  have HTM1 := Hd.mk (fun (v : Value) (w' : World) (ht : Tr w' v L1) (hl : RdS w' 1 (.slice a2 l.length cap2) l.length (l.map S)) => tmatch v (.slice a2 l.length cap2) L1 ⟨#[71, 69, 84]⟩ l w' ht hl HB.out (by omega))
  have HTM := Hd.mk (fun (v : Value) (w' : World) (ht : Tr w' v L) (hl : RdS w' 1 (.slice a2 l.length cap2) l.length (l.map S)) => tmatch v (.slice a2 l.length cap2) L ⟨#[71, 69, 84]⟩ l w' ht hl HB.out (by omega))
  have HTC := Hd.mk (fun (v : Value) (w' : World) (ht : Tr w' v (L2 ++ L1)) (hl : RdS w' 1 (.slice a2 l.length cap2) l.length (l.map S)) => tmatch v (.slice a2 l.length cap2) (L2 ++ L1) ⟨#[71, 69, 84]⟩ l w' ht hl HB.out (by simp; omega))
  have HTN := Hd.mk (fun (w' : World) (hl : RdS w' 1 (.slice a2 l.length cap2) l.length (l.map S)) => tmatch (.pointer none) (.slice a2 l.length cap2) [] ⟨#[71, 69, 84]⟩ l w' (Tr.nil _) hl HB.out (by simp))
  have hgg : (⟨#[71, 69, 84]⟩ : ByteArray).data.toList = gET := rfl
  have hnil : (mtL [] gET l).2 = false := by
    have : flatL [] l = [] := by
      unfold flatL
      rw [List.flatMap_eq_nil_iff]
      intro x _
      rfl
    unfold mtL
    rw [this]
    rfl
  rw [hgg] at HTM1 HTM HTC HTN
  rw [HPERM.out] at HTC
  obtain ⟨⟨N1, N2⟩, hrn⟩ : ∃ R, mtL [] gET l = R := ⟨_, rfl⟩
  rw [hrn] at HTN hnil
  simp only at hnil
  subst hnil
  obtain ⟨⟨Q1, Q2⟩, hr1⟩ : ∃ R, mtL L1 gET l = R := ⟨_, rfl⟩
  obtain ⟨⟨R1, R2⟩, hr2⟩ : ∃ R, mtL L gET l = R := ⟨_, rfl⟩
  rw [hr1] at HML1 HTM1
  rw [hr2] at HML HTM HTC
  clear hr1 hr2 hrn hgg HPERM
  go_wp2_with fail
  refine (Tr.with_ (.pointer none) tv [] L1 _ (Tr.nil _) HTK.out HRT.out (by simp; omega)).mono ?_
  rintro e w4 ⟨ta, rfl, htr, hu⟩
  rw [List.nil_append] at htr
  have HA := Hd.mk htr
  have HTK := Hd.mk (HTK.out.upd hu (by simp))
  have HDR := Hd.mk (HDR.out.upd hu (by simp))
  have HU := Hd.mk (HU.out.trans hu (by simp))
  clear htr hu
  go_wp2_with fail
  refine (HTM1.out _ w4 HA.out (HL.out.upd HU.out (by simp))).mono ?_
  rintro e w1a ⟨h1, pa1, aa1, pn1, pc1, an1, ac1, rfl, hmv, hu⟩
  simp only at hmv ⊢
  go_upto_region 10 with (fail)
  refine wp_abs (fun X => Blk X w1a.heap.size [.string h1, .slice pa1 pn1 pc1, .slice aa1 an1 ac1] 30 ∧ Upd [] w1a X) ⟨Blk.new w1a _ _ _ rfl, (Upd.refl [] w1a).alloc _⟩ ?_
  generalize w1a.heap.size = m1
  rintro w1b ⟨bm, u⟩
  have hx := hu.trans u (by simp)
  have HA := Hd.mk (HA.out.upd hx)
  have HTK := Hd.mk (HTK.out.upd hx (by simp))
  have HDR := Hd.mk (HDR.out.upd hx (by simp))
  have HBM1 := Hd.mk (And.intro bm (hmv.upd u))
  have HU := Hd.mk (HU.out.trans hx (by simp))
  clear bm u hx hmv hu
  go_wp2_with fail
  refine (Tr.with_ _ dv L1 L2 w1b HA.out HDR.out HRD.out (by omega)).mono ?_
  rintro e w5 ⟨tb, rfl, htr, hu⟩
  rw [HTD.out] at htr
  have HBT := Hd.mk htr
  have HA := Hd.mk (HA.out.upd hu)
  have HBM1 := Hd.mk (And.intro (hu.blk HBM1.out.1 (by simp)) (HBM1.out.2.upd hu))
  have HTK := Hd.mk (HTK.out.upd hu (by simp))
  have HDR := Hd.mk (HDR.out.upd hu (by simp))
  have HU := Hd.mk (HU.out.trans hu (by simp))
  clear htr hu
  go_upto_region 11 with (fail)
  have tok1 := Tr.with_ (.pointer none) dv [] L2 w5.drew (Tr.nil _) (HDR.out.drewN 1) HRD.out (by simp; omega)
  have TOK := Hd.mk tok1
  clear tok1
  go_region_law (first
    | (refine step_func_ex rfl 11 #[.tmp 55, .tmp 58] #[27, 24] rfl #[.pointer none, dv] (by go_simp) (by go_simp) ?_; refine TOK.out.mono ?_; rintro e w6 ⟨tc0, rfl, htr0, hu0⟩; refine ⟨_, rfl, ?_⟩; have HC0 := Hd.mk (And.intro htr0 hu0); clear htr0 hu0)
    | (refine step_func_ex rfl 11 #[.tmp 59, .tmp 62] #[27, 24] rfl #[.pointer (some ⟨tc0, 0, none⟩), tv] (by go_simp) (by go_simp) ?_; refine (Tr.with_ _ tv L2 L1 w6 HC0.out.1 (HTK.out.upd ((Upd.refl [] w5).drew.trans HC0.out.2 (by simp)) (by simp)) HRT.out (by omega)).mono ?_; rintro e w7 ⟨tc, rfl, htr1, hu1⟩; refine ⟨_, rfl, ?_⟩; have HC1 := Hd.mk (And.intro htr1 hu1); clear htr1 hu1))
  have HCT := Hd.mk HC1.out.1
  have huz := ((Upd.refl [] w5).drew.trans HC0.out.2 (by simp)).trans HC1.out.2 (by simp)
  have HA := Hd.mk (HA.out.upd huz)
  have HBT := Hd.mk (HBT.out.upd huz)
  have HBM1 := Hd.mk (And.intro (huz.blk HBM1.out.1 (by simp)) (HBM1.out.2.upd huz))
  have HU := Hd.mk (HU.out.trans huz (by simp))
  clear huz HC0 HC1 TOK HTK HDR
  go_wp2_with fail
  refine (HTM1.out _ w7 HA.out (HL.out.upd HU.out (by simp))).mono ?_
  rintro e w2a ⟨h2, pa2, aa2, pn2, pc2, an2, ac2, rfl, hmv, hu⟩
  simp only at hmv ⊢
  go_upto_region 13 with (fail)
  refine wp_abs (fun X => Blk X w2a.heap.size [.string h2, .slice pa2 pn2 pc2, .slice aa2 an2 ac2] 30 ∧ Upd [] w2a X) ⟨Blk.new w2a _ _ _ rfl, (Upd.refl [] w2a).alloc _⟩ ?_
  generalize w2a.heap.size = m2
  rintro w2b ⟨bm, u⟩
  have hx := hu.trans u (by simp)
  have HA := Hd.mk (HA.out.upd hx)
  have HBT := Hd.mk (HBT.out.upd hx)
  have HCT := Hd.mk (HCT.out.upd hx)
  have HBM1 := Hd.mk (And.intro (hx.blk HBM1.out.1 (by simp)) (HBM1.out.2.upd hx))
  have HBM2 := Hd.mk (And.intro bm (hmv.upd u))
  have HU := Hd.mk (HU.out.trans hx (by simp))
  clear bm u hx hmv hu
  go_wp2_with fail
  refine (HTM.out _ w2b HBT.out (HL.out.upd HU.out (by simp))).mono ?_
  rintro e w3a ⟨h3, pa3, aa3, pn3, pc3, an3, ac3, rfl, hmv, hu⟩
  simp only at hmv ⊢
  go_upto_region 14 with (fail)
  refine wp_abs (fun X => Blk X w3a.heap.size [.string h3, .slice pa3 pn3 pc3, .slice aa3 an3 ac3] 30 ∧ Upd [] w3a X) ⟨Blk.new w3a _ _ _ rfl, (Upd.refl [] w3a).alloc _⟩ ?_
  generalize w3a.heap.size = m3
  rintro w3b ⟨bm, u⟩
  have hx := hu.trans u (by simp)
  have HA := Hd.mk (HA.out.upd hx)
  have HBT := Hd.mk (HBT.out.upd hx)
  have HCT := Hd.mk (HCT.out.upd hx)
  have HBM1 := Hd.mk (And.intro (hx.blk HBM1.out.1 (by simp)) (HBM1.out.2.upd hx))
  have HBM2 := Hd.mk (And.intro (hx.blk HBM2.out.1 (by simp)) (HBM2.out.2.upd hx))
  have HBM3 := Hd.mk (And.intro bm (hmv.upd u))
  have HU := Hd.mk (HU.out.trans hx (by simp))
  clear bm u hx hmv hu
  go_wp2_with fail
  refine (HTC.out _ w3b HCT.out (HL.out.upd HU.out (by simp))).mono ?_
  rintro e w4a ⟨h4, pa4, aa4, pn4, pc4, an4, ac4, rfl, hmv, hu⟩
  simp only at hmv ⊢
  go_upto_region 15 with (fail)
  refine wp_abs (fun X => Blk X w4a.heap.size [.string h4, .slice pa4 pn4 pc4, .slice aa4 an4 ac4] 30 ∧ Upd [] w4a X) ⟨Blk.new w4a _ _ _ rfl, (Upd.refl [] w4a).alloc _⟩ ?_
  generalize w4a.heap.size = m4
  rintro w4b ⟨bm, u⟩
  have hx := hu.trans u (by simp)
  have HA := Hd.mk (HA.out.upd hx)
  have HBT := Hd.mk (HBT.out.upd hx)
  have HCT := Hd.mk (HCT.out.upd hx)
  have HBM1 := Hd.mk (And.intro (hx.blk HBM1.out.1 (by simp)) (HBM1.out.2.upd hx))
  have HBM2 := Hd.mk (And.intro (hx.blk HBM2.out.1 (by simp)) (HBM2.out.2.upd hx))
  have HBM3 := Hd.mk (And.intro (hx.blk HBM3.out.1 (by simp)) (HBM3.out.2.upd hx))
  have HBM4 := Hd.mk (And.intro bm (hmv.upd u))
  have HU := Hd.mk (HU.out.trans hx (by simp))
  clear bm u hx hmv hu
  go_wp2_with fail
  refine (HTN.out w4b (HL.out.upd HU.out (by simp))).mono ?_
  rintro e w5a ⟨h5, pa5, aa5, pn5, pc5, an5, ac5, rfl, hmv, hu⟩
  simp only at hmv ⊢
  go_upto_region 16 with (fail)
  refine wp_abs (fun X => Blk X w5a.heap.size [.string h5, .slice pa5 pn5 pc5, .slice aa5 an5 ac5] 30 ∧ Upd [] w5a X) ⟨Blk.new w5a _ _ _ rfl, (Upd.refl [] w5a).alloc _⟩ ?_
  generalize w5a.heap.size = m5
  rintro w5b ⟨bm, u⟩
  have hx := hu.trans u (by simp)
  have HA := Hd.mk (HA.out.upd hx)
  have HBT := Hd.mk (HBT.out.upd hx)
  have HCT := Hd.mk (HCT.out.upd hx)
  have HBM1 := Hd.mk (And.intro (hx.blk HBM1.out.1 (by simp)) (HBM1.out.2.upd hx))
  have HBM2 := Hd.mk (And.intro (hx.blk HBM2.out.1 (by simp)) (HBM2.out.2.upd hx))
  have HBM3 := Hd.mk (And.intro (hx.blk HBM3.out.1 (by simp)) (HBM3.out.2.upd hx))
  have HBM4 := Hd.mk (And.intro (hx.blk HBM4.out.1 (by simp)) (HBM4.out.2.upd hx))
  have HBM5 := Hd.mk (And.intro bm (hmv.upd u))
  have HU := Hd.mk (HU.out.trans hx (by simp))
  clear bm u hx hmv hu
  have e4 := MV_h HBM4.out.2
  have e3 := MV_h HBM3.out.2
  rw [← e3] at e4
  subst e4
  clear e3
  have x1 := HBM1.out.1
  have x2 := HBM2.out.1
  have x3 := HBM3.out.1
  have x4 := HBM4.out.1
  have c0 := x1.cell 0
  have c1 := x1.cell 1
  have c2 := x1.cell 2
  simp only [List.getElem?_cons_zero, List.getElem?_cons_succ] at c0 c1 c2
  have d0 := x2.cell 0
  have d1 := x2.cell 1
  have d2 := x2.cell 2
  simp only [List.getElem?_cons_zero, List.getElem?_cons_succ] at d0 d1 d2
  have f0 := x3.cell 0
  have f1 := x3.cell 1
  have f2 := x3.cell 2
  simp only [List.getElem?_cons_zero, List.getElem?_cons_succ] at f0 f1 f2
  have g0 := x4.cell 0
  have g1 := x4.cell 1
  have g2 := x4.cell 2
  simp only [List.getElem?_cons_zero, List.getElem?_cons_succ] at g0 g1 g2
  clear x1 x2 x3 x4
  have hq2 : (Q2 == Q2) = true := by simp
  have hr2 : (R2 == R2) = true := by simp
  have y := str_yes (rfl : h4 = h4)
  go_wp2_with fail
  refine (same_ok Q1 _ _ w5b HBM1.out.2 HBM2.out.2 HML1.out).mono ?_
  rintro e w6 ⟨rfl, hu⟩
  have HA := Hd.mk (HA.out.upd hu)
  have HBT := Hd.mk (HBT.out.upd hu)
  have HCT := Hd.mk (HCT.out.upd hu)
  have HBM3 := Hd.mk (And.intro (hu.blk HBM3.out.1 (by simp)) (HBM3.out.2.upd hu))
  have HBM4 := Hd.mk (And.intro (hu.blk HBM4.out.1 (by simp)) (HBM4.out.2.upd hu))
  have HU := Hd.mk (HU.out.trans hu (by simp))
  clear hu c0 c1 c2 d0 d1 d2 f0 f1 f2 g0 g1 g2
  have x3 := HBM3.out.1
  have x4 := HBM4.out.1
  have f0 := x3.cell 0
  have f1 := x3.cell 1
  have f2 := x3.cell 2
  simp only [List.getElem?_cons_zero, List.getElem?_cons_succ] at f0 f1 f2
  have g0 := x4.cell 0
  have g1 := x4.cell 1
  have g2 := x4.cell 2
  simp only [List.getElem?_cons_zero, List.getElem?_cons_succ] at g0 g1 g2
  clear x3 x4
  go_wp2_with fail
  refine (Tr.len _ L1 w6 HA.out).mono ?_
  rintro e w8 ⟨rfl, hw⟩
  subst hw
  have n1 : ((L1.length : Int) == T) = true := by have := HLEN.out.1; rw [beq_iff_eq]; omega
  cases R2 with
  | true =>
    go_wp2_with fail
    refine (Tr.len _ L w8 HBT.out).mono ?_
    rintro e w9 ⟨rfl, hw⟩
    subst hw
    have n2 : ((L.length : Int) == L.length) = true := by simp
    go_wp2_with fail
    refine (Tr.len _ (L2 ++ L1) w9 HCT.out).mono ?_
    rintro e w10 ⟨rfl, hw⟩
    subst hw
    have n3 : (((L2 ++ L1).length : Int) == L.length) = true := by
      have h1 := HLEN.out
      rw [beq_iff_eq, List.length_append]
      omega
    generalize (L2 ++ L1).length = nn at n3
    go_wp2_with fail
    refine (Tr.len (.pointer none) [] w10 (Tr.nil _)).mono ?_
    rintro e w11 ⟨rfl, hw⟩
    subst hw
    go_wp2_with fail
    go_ret
    exact ⟨rfl, HU.out.below _ (Nat.le_refl _) (by simp)⟩
  | false =>
    go_wp2_with fail
    refine (same_ok R1 _ _ w8 HBM3.out.2 HBM4.out.2 HML.out).mono ?_
    rintro e w9 ⟨rfl, hu⟩
    have HBT := Hd.mk (HBT.out.upd hu)
    have HCT := Hd.mk (HCT.out.upd hu)
    have HU := Hd.mk (HU.out.trans hu (by simp))
    clear hu f0 f1 f2 g0 g1 g2
    go_wp2_with fail
    refine (Tr.len _ L w9 HBT.out).mono ?_
    rintro e w10 ⟨rfl, hw⟩
    subst hw
    have n2 : ((L.length : Int) == L.length) = true := by simp
    go_wp2_with fail
    refine (Tr.len _ (L2 ++ L1) w10 HCT.out).mono ?_
    rintro e w11 ⟨rfl, hw⟩
    subst hw
    have n3 : (((L2 ++ L1).length : Int) == L.length) = true := by
      have h1 := HLEN.out
      rw [beq_iff_eq, List.length_append]
      omega
    generalize (L2 ++ L1).length = nn at n3
    go_wp2_with fail
    refine (Tr.len (.pointer none) [] w11 (Tr.nil _)).mono ?_
    rintro e w12 ⟨rfl, hw⟩
    subst hw
    go_wp2_with fail
    go_ret
    exact ⟨rfl, HU.out.below _ (Nat.le_refl _) (by simp)⟩
end Go.Proofs.YtiombjmkaejjfaaDoor
