/- Tries: TrieMatches. -/
import Derived.Test.YtiombjmkaejjfaaDoorV32
import Derived.Test.YtiombjmkaejjfaaDoorV43
namespace Go.Proofs.YtiombjmkaejjfaaDoor
set_option linter.unusedSimpArgs false
set_option linter.unusedVariables false
set_option linter.unnecessarySimpa false
open Go.RowKit BigFrame

/-- Paths that came in. -/
theorem leaf_paths {w : World} {a : Option Addr} {n cap : Nat} (h : Leaf.ok w (.sl [.sl [.str]]) (.slice a n cap)) :
    ∀ i, i < n → ∃ b off, a = some ⟨b, off, none⟩ ∧ b < w.heap.size ∧ ∃ a' n' c', w.cell? ⟨b, off + i, none⟩ = some (.slice a' n' c') ∧ Leaf.ok w (.sl [.str]) (.slice a' n' c') := by
  intro i hi
  obtain ⟨b, off, V, rfl, hb, hm, hV⟩ := Leaf.open h (by omega) (by simp)
  obtain ⟨h1, h2⟩ := hV i hi
  rw [Leaf.oks] at h1
  obtain ⟨v, r, hv, hok, -⟩ := h1
  have hok2 := hok
  rw [Leaf.ok] at hok2
  obtain ⟨a', n', c', _, rfl, -⟩ := hok2
  have h3 := h2 0 (by simp)
  rw [hv] at h3
  simp only [List.length_cons, List.length_nil, Nat.zero_add, List.getElem?_cons_zero, Nat.add_zero, Nat.mul_one] at h3
  exact ⟨b, off, rfl, hb, a', n', c', h3, hok⟩
theorem rdp_upd1 {w w' : World} {v : Value} {P : List (Bs × Bs)} {b n1 c1 n2 c2 : Nat} {hh : ByteArray} {a1 a2 : Option Addr} {t : TypeId} (h : RdP w v P) (hb : Blk w b [.string hh, .slice a1 n1 c1, .slice a2 n2 c2] t) (hu : Upd [b] w w') : RdP w' v P := by
  obtain ⟨a, c, rfl, hc⟩ := h
  refine ⟨a, c, rfl, fun h0 => ?_⟩
  obtain ⟨x, o, rfl, hx, hcells⟩ := hc h0
  have hne : x ≠ b := by
    rintro rfl
    obtain ⟨e0, e1⟩ := hcells 0 h0
    rw [hb.cell] at e0 e1
    match o with
    | 0 => simp [S] at e1
    | 1 => simp [S] at e0
    | 2 => simp [S] at e0
    | n + 3 => simp at e0
  exact ⟨x, o, rfl, Nat.lt_of_lt_of_le hx hu.size, fun j hj => ⟨(hu.cell (p := ⟨x, _, none⟩) hx (by simpa using hne)).trans (hcells j hj).1, (hu.cell (p := ⟨x, _, none⟩) hx (by simpa using hne)).trans (hcells j hj).2⟩⟩
set_option maxRecDepth 100000 in
set_option maxHeartbeats 8000000 in
theorem matches_row (a0 : Option Addr) (len0 cap0 : Nat) (a1 : Option Addr) (len1 cap1 : Nat) (mt : ByteArray) (w : World) (hT : HTab w) (w0 : Leaf.ok w (.sl [.str, .str, .str]) (.slice a0 len0 cap0)) (w1 : Leaf.ok w (.sl [.sl [.str]]) (.slice a1 len1 cap1)) (z2 : mt.size ≤ 140737488351232) :
    Calls Tryd.prog 6 #[.slice a0 len0 cap0, .slice a1 len1 cap1, .string mt] w fun e w' => e = .returned (.bool true) ∧ Below w.heap.size w w' := by
  obtain ⟨M, rfl, hM, hMn, hMz⟩ := leaf_routes w0
  have HPT := Hd.mk (leaf_paths w1)
  have HM := Hd.mk (And.intro hM hMz)
  have HT := Hd.mk hT
  clear hT w0 w1 hM hMz
  go_enter Tryd.func6, Tryd.ntmps6
  go_wp2_with fail
  refine (fit_ok w HT.out).mono ?_
  rintro e w1 ⟨rfl, u1⟩
  have HU := Hd.mk u1
  clear u1
  by_cases h60 : 60 < M.length
  · have d0 : decide ((60 : Int) < M.length) = true := decide_eq_true (by omega)
    go_wp2_with fail
    go_ret
    exact ⟨rfl, HU.out.below _ (Nat.le_refl _) (by simp)⟩
  have d0 : decide ((60 : Int) < M.length) = false := decide_eq_false (by omega)
  by_cases h20 : 20 < len1
  · have d1 : decide ((20 : Int) < len1) = true := decide_eq_true (by omega)
    go_wp2_with fail
    go_ret
    exact ⟨rfl, HU.out.below _ (Nat.le_refl _) (by simp)⟩
  have d1 : decide ((20 : Int) < len1) = false := decide_eq_false (by omega)
  by_cases h50 : 50 < mt.size
  · have d2 : decide ((50 : Int) < mt.size) = true := decide_eq_true (by omega)
    go_wp2_with fail
    go_ret
    exact ⟨rfl, HU.out.below _ (Nat.le_refl _) (by simp)⟩
  have d2 : decide ((50 : Int) < mt.size) = false := decide_eq_false (by omega)
  go_wp2_with fail
  refine (some_ok M (.slice a0 M.length cap0) w1 (HT.out.upd HU.out) (HM.out.1.upd HU.out (by simp)) hMn HM.out.2).mono ?_
  rintro e w3 ⟨v, L, rfl, hbld, hok⟩
  have HS := Hd.mk hbld.sl
  have HK := Hd.mk hok
  have HU := Hd.mk (HU.out.trans hbld.upd (by simp))
  obtain ⟨va, vc, rfl⟩ := hbld.sl.form
  have hL24 := hok.len
  have hn20 : len1 ≤ 20 := by omega
  clear hbld hok d0 d1 d2 h20 h50 h60
  go_wp2_with fail
  refine (Tr.with_ (.pointer none) _ [] L _ (Tr.nil _) HS.out HK.out.rgt (by simp; omega)).mono ?_
  rintro e w4 ⟨ta, rfl, htr, hu⟩
  rw [List.nil_append] at htr
  have HTA := Hd.mk htr
  have HS := Hd.mk (HS.out.upd hu (by simp))
  have HU := Hd.mk (HU.out.trans hu (by simp))
  clear htr hu
  go_upto_region 9 with (fail)
  go_loopg [9, 10, 11, 12, 13, 36] len1 (fun g s9 s10 s11 s12 s13 ii wq => ∃ i : Nat, g + i = len1 ∧ ii = .int .i64 i ∧ Hd (Upd [] w4 wq))
  case atStart => exact ⟨0, by omega, rfl, Hd.mk (Upd.refl _ _)⟩
  case round =>
    obtain ⟨i, hg, rfl, HV⟩ := hrel
    have HG := Hd.mk hg
    clear hg
    have HTA := Hd.mk (HTA.out.upd HV.out)
    have HU := Hd.mk (HU.out.trans HV.out (by simp))
    by_cases hi : i < len1
    · obtain ⟨pb, po, rfl, hpb, pa', pn', pc', k0, hlf⟩ := HPT.out i hi
      obtain ⟨l, rfl, hl, hn, hz⟩ := leaf_texts hlf
      have k0 := (HU.out.cell (p := ⟨pb, po + i, none⟩) hpb (by simp)).trans k0
      have HL := Hd.mk hl
      have HZ := Hd.mk hz
      clear hlf hl hz
      go_wp2_with fail
      refine (light_ok l (.slice pa' l.length pc') wr (HL.out.upd HU.out (by simp)) hn HZ.out).mono ?_
      rintro e w5 ⟨bb, rfl, hb, rfl⟩
      cases bb with
      | false =>
        go_wp2_with fail
        go_ret
        exact ⟨rfl, HU.out.below _ (Nat.le_refl _) (by simp)⟩
      | true =>
      have HB := Hd.mk (hb rfl)
      have HML := Hd.mk (mt_len L HK.out.rgt (by omega) mt.data.toList l HB.out.2)
      have HMA := Hd.mk (show (mtL L mt.data.toList l).2 = true → (mtL L mt.data.toList l).1.A = [] from by
        unfold mtL
        cases (flatL L l).find? (byM mt.data.toList) with
        | some r => exact fun _ => rfl
        | none => exact fun h => by cases h)
      have HTM := Hd.mk (fun (v : Value) (w' : World) (ht : Tr w' v L) (hl : RdS w' 1 (.slice pa' l.length pc') l.length (l.map S)) => tmatch v (.slice pa' l.length pc') L mt l w' ht hl HB.out (by omega))
      have HRF := Hd.mk (fun (w' : World) (hL : Sl w' 26 3 (.slice va L.length vc) L.length (L.flatMap Rt.cells)) (hl : RdS w' 1 (.slice pa' l.length pc') l.length (l.map S)) => ref_ok L (.slice va L.length vc) mt l (.slice pa' l.length pc') w' HK.out hL hl (by have := HB.out; rw [sumL_B]; omega) (by have := HB.out; omega))
      obtain ⟨⟨R1, R2⟩, hre⟩ : ∃ R, mtL L mt.data.toList l = R := ⟨_, rfl⟩
      rw [hre] at HML HTM HRF HMA
      clear hre hb
      go_wp2_with fail
      refine (HTM.out _ _ HTA.out (HL.out.upd HU.out (by simp))).mono ?_
      rintro e w6 ⟨hh, pa, aa, pn, pc, an, ac, rfl, hmv, hu⟩
      simp only at hmv ⊢
      go_upto_region 14 with (fail)
      refine wp_abs (fun X => Blk X w6.heap.size [.string hh, .slice pa pn pc, .slice aa an ac] 30 ∧ Upd [] w6 X) ⟨Blk.new w6 _ _ _ rfl, (Upd.refl [] w6).alloc _⟩ ?_
      have HN1 := Hd.mk (show w4.heap.size ≤ w6.heap.size from (HV.out.trans hu (by simp)).size)
      generalize w6.heap.size = m1 at HN1
      rintro w7 ⟨bm1, u7⟩
      have hx := hu.trans u7 (by simp)
      have HMV := Hd.mk (hmv.upd u7)
      have HBM := Hd.mk bm1
      have HU := Hd.mk (HU.out.trans hx (by simp))
      have HV := Hd.mk (HV.out.trans hx (by simp))
      clear bm1 u7 hmv hu hx
      go_wp2_with fail
      refine (HRF.out w7 (HS.out.upd HV.out (by simp)) (HL.out.upd HU.out (by simp))).mono ?_
      rintro e w8 ⟨hh2, pa2, aa2, pn2, pc2, an2, ac2, rfl, hmv, hu⟩
      simp only at hmv ⊢
      go_upto_region 15 with (fail)
      refine wp_abs (fun X => Blk X w8.heap.size [.string hh2, .slice pa2 pn2 pc2, .slice aa2 an2 ac2] 30 ∧ Upd [] w8 X) ⟨Blk.new w8 _ _ _ rfl, (Upd.refl [] w8).alloc _⟩ ?_
      have HM12 := Hd.mk (show m1 < w8.heap.size from Nat.lt_of_lt_of_le HBM.out.lt hu.size)
      generalize w8.heap.size = m2 at HM12
      rintro w9 ⟨bm2, u9⟩
      have hx := hu.trans u9 (by simp)
      have bm1 := hx.blk HBM.out (by simp)
      have HMV1 := Hd.mk (HMV.out.upd hx)
      have HMV2 := Hd.mk (hmv.upd u9)
      have HU := Hd.mk (HU.out.trans hx (by simp))
      have HV := Hd.mk (HV.out.trans hx (by simp))
      have HB12 := Hd.mk (And.intro bm1 bm2)
      have c0 := bm1.cell 0
      have c1 := bm1.cell 1
      have c2 := bm1.cell 2
      simp only [List.getElem?_cons_zero, List.getElem?_cons_succ] at c0 c1 c2
      have d0 := bm2.cell 0
      have d1 := bm2.cell 1
      have d2 := bm2.cell 2
      simp only [List.getElem?_cons_zero, List.getElem?_cons_succ] at d0 d1 d2
      have f2 := bm1.free 2
      have g2 := bm2.free 2
      have hbb : (R2 == R2) = true := by simp
      have hmm : ¬ m1 = m2 := by have := HM12.out; omega
      have HNW := Hd.mk (And.intro HN1.out (show w4.heap.size ≤ m2 by have := HN1.out; have := HM12.out; omega))
      clear bm1 bm2 u9 hmv hu hx k0
      cases R2 with
      | false =>
        go_wp2_with fail
        refine (same_ok R1 _ _ w9 HMV1.out HMV2.out HML.out).mono ?_
        rintro e w10 ⟨rfl, hu⟩
        have HV := Hd.mk (HV.out.trans hu (by simp))
        clear hu c0 c1 c2 d0 d1 d2 f2 g2
        go_wp2_with fail
        go_roundg (gk - 1)
        case measure => have := HG.out; omega
        case rel => exact ⟨i + 1, by have := HG.out; omega, by go_num, HV⟩
      | true =>
        have hA := HMA.out rfl
        obtain ⟨p1, a1', e1, hp1, -⟩ := HMV1.out
        obtain ⟨p2, a2', e2, hp2, -⟩ := HMV2.out
        simp only [Value.agg.injEq, Array.mk.injEq, List.cons.injEq, and_true] at e1 e2
        obtain ⟨eh1, rfl, rfl⟩ := e1
        obtain ⟨eh2, rfl, rfl⟩ := e2
        have HE := Hd.mk (And.intro eh1 (And.intro eh2 (And.intro hp1 (And.intro hp2 hA))))
        clear eh1 eh2 hp1 hp2 hA
        have hmm' : ¬ m2 = m1 := fun e => hmm e.symm
        go_upto_region 19 with (fail)
        have hs1 : Upd [m1] w9 (w9.setCell ⟨m1, 2, none⟩ (.slice none 0 0)) := (Upd.refl _ _).set _ _ (by simp)
        have hs2 : Upd [m2] (w9.setCell ⟨m1, 2, none⟩ (.slice none 0 0)) ((w9.setCell ⟨m1, 2, none⟩ (.slice none 0 0)).setCell ⟨m2, 2, none⟩ (.slice none 0 0)) := (Upd.refl _ _).set _ _ (by simp)
        have k2 := hs1.blk HB12.out.2 (by simpa using hmm')
        have k1 := hs2.blk (HB12.out.1.set 2 (.slice none 0 0)) (by simpa using hmm)
        have q1 := rdp_upd1 (rdp_upd1 HE.out.2.2.1 HB12.out.1 hs1) k2 hs2
        have q2 := rdp_upd1 (rdp_upd1 HE.out.2.2.2.1 HB12.out.1 hs1) k2 hs2
        refine wp_abs (fun X => Blk X m1 [.string hh, .slice pa pn pc, .slice none 0 0] 30 ∧ Blk X m2 [.string hh2, .slice pa2 pn2 pc2, .slice none 0 0] 30 ∧ RdP X (.slice pa pn pc) R1.P ∧ RdP X (.slice pa2 pn2 pc2) R1.P ∧ Upd [] w4 X) ⟨k1, k2.set 2 _, q1, q2, ?hup⟩ ?_
        case hup => exact (HV.out.trans hs1 (fun k hk hm => by rw [List.mem_singleton] at hm; have := HNW.out.1; omega)).trans hs2 (fun k hk hm => by rw [List.mem_singleton] at hm; have := HNW.out.2; omega)
        clear hs1 hs2 k1 k2 q1 q2 c0 c1 c2 d0 d1 d2 f2 g2
        rintro w10 ⟨k1, k2, q1, q2, u10⟩
        have HV := Hd.mk u10
        have HQ := Hd.mk (And.intro q1 q2)
        have c0 := k1.cell 0
        have c1 := k1.cell 1
        have c2 := k1.cell 2
        simp only [List.getElem?_cons_zero, List.getElem?_cons_succ] at c0 c1 c2
        have d0 := k2.cell 0
        have d1 := k2.cell 1
        have d2 := k2.cell 2
        simp only [List.getElem?_cons_zero, List.getElem?_cons_succ] at d0 d1 d2
        clear k1 k2 q1 q2 u10
        go_wp2_with fail
        refine (same_ok R1 _ _ w10 ⟨_, _, by rw [HE.out.1], HQ.out.1, ⟨none, 0, by rw [HE.out.2.2.2.2]; rfl, fun h => by rw [HE.out.2.2.2.2] at h; cases h⟩⟩ ⟨_, _, by rw [HE.out.2.1], HQ.out.2, ⟨none, 0, by rw [HE.out.2.2.2.2]; rfl, fun h => by rw [HE.out.2.2.2.2] at h; cases h⟩⟩ HML.out).mono ?_
        rintro e w11 ⟨rfl, hu⟩
        have HV := Hd.mk (HV.out.trans hu (by simp))
        clear hu c0 c1 c2 d0 d1 d2
        go_wp2_with fail
        go_roundg (gk - 1)
        case measure => have := HG.out; omega
        case rel => exact ⟨i + 1, by have := HG.out; omega, by go_num, HV⟩
    · obtain rfl : i = len1 := by have := HG.out; omega
      clear hi
      go_wp2_with fail
      refine (Tr.len _ L wr HTA.out).mono ?_
      rintro e w6 ⟨rfl, hw⟩
      subst hw
      have hq : ((L.length : Int) == L.length) = true := by simp
      go_wp2_with fail
      go_ret
      exact ⟨rfl, HU.out.below _ (Nat.le_refl _) (by simp)⟩
end Go.Proofs.YtiombjmkaejjfaaDoor
