/- Tries: TrieSame. -/
import Derived.Test.YtiombjmkaejjfaaDoorV32
import Derived.Test.YtiombjmkaejjfaaDoorV34
namespace Go.Proofs.YtiombjmkaejjfaaDoor
set_option linter.unusedSimpArgs false
set_option linter.unusedVariables false
set_option linter.unnecessarySimpa false
open Go.RowKit BigFrame

def mths : List ByteArray := [⟨#[71, 69, 84]⟩, ⟨#[80, 85, 84]⟩, ⟨#[110, 111, 110, 101]⟩]
set_option maxRecDepth 100000 in
set_option maxHeartbeats 4000000 in
theorem same_row (a0 : Option Addr) (len0 cap0 : Nat) (a1 : Option Addr) (len1 cap1 : Nat) (w : World) (hT : HTab w) (w0 : Leaf.ok w (.sl [.str, .str, .str]) (.slice a0 len0 cap0)) (w1 : Leaf.ok w (.sl [.str]) (.slice a1 len1 cap1)) :
    Calls Tryd.prog 9 #[.slice a0 len0 cap0, .slice a1 len1 cap1] w fun e w' => e = .returned (.bool true) ∧ Below w.heap.size w w' := by
  obtain ⟨M, rfl, hM, hMn, hMz⟩ := leaf_routes w0
  obtain ⟨l, rfl, hl, hn, hz⟩ := leaf_texts w1
  have HL := Hd.mk hl
  have HZ := Hd.mk hz
  have HM := Hd.mk (And.intro hM hMz)
  have HT := Hd.mk hT
  clear hT w0 w1 hl hz hM hMz
  go_enter Tryd.func9, Tryd.ntmps9
  go_wp2_with fail
  refine (fit_ok w HT.out).mono ?_
  rintro e w1 ⟨rfl, u1⟩
  have HU := Hd.mk u1
  clear u1
  by_cases h60 : 60 < M.length
  · have d0 : decide ((60 : Int) < M.length) = true := decide_eq_true (by omega)
    go_wp2_with fail
    go_ret
    exact ⟨rfl, HU.out.below _ (Nat.le_refl _) (by simp)⟩
  have d0 : decide ((60 : Int) < M.length) = false := decide_eq_false (by omega)
  go_wp2_with fail
  refine (light_ok l (.slice a1 l.length cap1) w1 (HL.out.upd HU.out (by simp)) hn HZ.out).mono ?_
  rintro e w2 ⟨b, rfl, hb, rfl⟩
  cases b with
  | false =>
    go_wp2_with fail
    go_ret
    exact ⟨rfl, HU.out.below _ (Nat.le_refl _) (by simp)⟩
  | true =>
  have HB := Hd.mk (hb rfl)
  clear hb d0
  go_wp2_with fail
  refine (some_ok M (.slice a0 M.length cap0) w2 (HT.out.upd HU.out) (HM.out.1.upd HU.out (by simp)) hMn HM.out.2).mono ?_
  rintro e w3 ⟨v, L, rfl, hbld, hok⟩
  have HS := Hd.mk hbld
  have HK := Hd.mk hok
  have HU := Hd.mk (HU.out.trans hbld.upd (by simp))
  obtain ⟨va, vc, rfl⟩ := hbld.sl.form
  have hL24 := hok.len
  clear hbld hok
  go_wp2_with fail
  refine (Tr.with_ (.pointer none) _ [] L _ (Tr.nil _) HS.out.sl HK.out.rgt (by simp; omega)).mono ?_
  rintro e w4 ⟨ta, rfl, htr, hu⟩
  rw [List.nil_append] at htr
  have HTA := Hd.mk htr
  have HSL := Hd.mk (HS.out.sl.upd hu (by simp))
  have HU := Hd.mk (HU.out.trans hu (by simp))
  clear htr hu HS
  go_upto_region 9 with (fail)
  go_loopg [6, 8, 32] L.length (fun g s6 s8 ii wr => ∃ k : Nat, g + k = L.length ∧ ii = .int .i64 k ∧ Hd (Tr wr s6 (L.take k)) ∧ Hd (Upd [] w4 wr))
  case atStart => exact ⟨0, by omega, rfl, Hd.mk (Tr.nil _), Hd.mk (Upd.refl _ _)⟩
  case round =>
    obtain ⟨k, hg, rfl, HTB, HV⟩ := hrel
    have HG := Hd.mk hg
    clear hg
    by_cases hk : k < L.length
    · obtain ⟨vb, vo, vc', hv, -, -, -⟩ := HSL.out.some (by omega)
      simp only [Value.slice.injEq, true_and] at hv
      obtain ⟨rfl, rfl⟩ := hv
      obtain ⟨m, p, hh, hr⟩ := route_parts L[k]
      obtain ⟨k0, k1, k2⟩ := route_at (HSL.out.upd HV.out (by simp)) k hk hr
      have HR := Hd.mk hr
      clear hr
      go_upto_region 11 with (fail)
      refine wp_abs (fun W => Blk W wr.heap.size [.string m, .string p, .string hh] 26 ∧ Upd [] wr W) ⟨Blk.new wr _ _ _ rfl, (Upd.refl [] wr).alloc _⟩ ?_
      clear k0 k1 k2
      generalize wr.heap.size = rb
      rintro w5 ⟨br, u5⟩
      have HTB := Hd.mk (HTB.out.upd u5)
      have HV := Hd.mk (HV.out.trans u5 (by simp))
      have c0 := br.cell 0
      have c1 := br.cell 1
      have c2 := br.cell 2
      simp only [List.getElem?_cons_zero, List.getElem?_cons_succ] at c0 c1 c2
      clear br u5
      go_wp2_with fail
      refine (with_one _ (L.take k) L[k] w5.heap.size _ (HTB.out.upd ((Upd.refl [] w5).alloc _)) (by rw [HR.out]; exact Blk.new w5 _ _ _ rfl) (HK.out.rgt _ (List.getElem_mem hk)) (by rw [List.length_take]; omega)).mono ?_
      rintro e w6 ⟨tb, rfl, htr, hu⟩
      rw [← List.take_succ_eq_append_getElem hk] at htr
      have HTB := Hd.mk htr
      have HV := Hd.mk (HV.out.trans (((Upd.refl [] w5).alloc _).trans hu (by simp)) (by simp))
      clear htr hu
      go_wp2_with fail
      go_roundg (gk - 1)
      case measure => have := HG.out; omega
      case rel => exact ⟨k + 1, by have := HG.out; omega, by go_num, HTB, HV⟩
    · obtain rfl : k = L.length := by have := HG.out; omega
      rw [List.take_length] at HTB
      have HTA := Hd.mk (HTA.out.upd HV.out)
      have HU := Hd.mk (HU.out.trans HV.out (by simp))
      clear hk HG HV HSL
      go_upto_region 14 with (fail)
      refine wp_abs (fun W => Blk W wr.heap.size (mths.map Value.string) 9 ∧ Upd [] wr W) ⟨Blk.new wr _ _ _ rfl, (Upd.refl [] wr).alloc _⟩ ?_
      generalize wr.heap.size = sb
      rintro w5 ⟨bs, u5⟩
      have HTA := Hd.mk (HTA.out.upd u5)
      have HTB := Hd.mk (HTB.out.upd u5)
      have HU := Hd.mk (HU.out.trans u5 (by simp))
      have HBS := Hd.mk bs
      clear bs u5
      go_loopg [10, 11, 12, 13, 14, 43] 3 (fun g s10 s11 s12 s13 s14 ii wq => ∃ i : Nat, g + i = 3 ∧ ii = .int .i64 i ∧ Hd (Upd [] w5 wq))
      case atStart => exact ⟨0, by omega, rfl, Hd.mk (Upd.refl _ _)⟩
      case round =>
        obtain ⟨i, hg, rfl, HV⟩ := hrel
        have HG := Hd.mk hg
        clear hg
        have HTA := Hd.mk (HTA.out.upd HV.out)
        have HTB := Hd.mk (HTB.out.upd HV.out)
        have HU := Hd.mk (HU.out.trans HV.out (by simp))
        by_cases hi : i < 3
        · obtain ⟨mt, k0⟩ : ∃ mt : ByteArray, wr.cell? ⟨sb, i, none⟩ = some (.string mt) := by
            have h1 := (HV.out.blk HBS.out (by simp)).cell i
            have hi' : i < mths.length := hi
            rw [List.getElem?_map, List.getElem?_eq_getElem hi'] at h1
            exact ⟨_, h1⟩
          have HML := Hd.mk (mt_len L HK.out.rgt (by omega) mt.data.toList l HB.out.2)
          have HTM := Hd.mk (fun (v : Value) (w' : World) (ht : Tr w' v L) (hl : RdS w' 1 (.slice a1 l.length cap1) l.length (l.map S)) => tmatch v (.slice a1 l.length cap1) L mt l w' ht hl HB.out (by omega))
          obtain ⟨⟨R1, R2⟩, hre⟩ : ∃ R, mtL L mt.data.toList l = R := ⟨_, rfl⟩
          rw [hre] at HML HTM
          clear hre
          go_wp2_with fail
          refine (HTM.out _ wr HTA.out (HL.out.upd HU.out (by simp))).mono ?_
          rintro e w6 ⟨hh, pa, aa, pn, pc, an, ac, rfl, hmv, hu⟩
          simp only at hmv ⊢
          go_upto_region 17 with (fail)
          refine wp_abs (fun X => Blk X w6.heap.size [.string hh, .slice pa pn pc, .slice aa an ac] 30 ∧ Upd [] w6 X) ⟨Blk.new w6 _ _ _ rfl, (Upd.refl [] w6).alloc _⟩ ?_
          generalize w6.heap.size = m1
          rintro w7 ⟨bm1, u7⟩
          have HMV := Hd.mk (hmv.upd u7)
          have HBM := Hd.mk bm1
          have HTB := Hd.mk (HTB.out.upd (hu.trans u7 (by simp)))
          have HU := Hd.mk (HU.out.trans (hu.trans u7 (by simp)) (by simp))
          have HV := Hd.mk (HV.out.trans (hu.trans u7 (by simp)) (by simp))
          clear bm1 u7 hmv hu
          go_wp2_with fail
          refine (HTM.out _ w7 HTB.out (HL.out.upd HU.out (by simp))).mono ?_
          rintro e w8 ⟨hh2, pa2, aa2, pn2, pc2, an2, ac2, rfl, hmv, hu⟩
          simp only at hmv ⊢
          go_upto_region 18 with (fail)
          refine wp_abs (fun X => Blk X w8.heap.size [.string hh2, .slice pa2 pn2 pc2, .slice aa2 an2 ac2] 30 ∧ Upd [] w8 X) ⟨Blk.new w8 _ _ _ rfl, (Upd.refl [] w8).alloc _⟩ ?_
          generalize w8.heap.size = m2
          rintro w9 ⟨bm2, u9⟩
          have bm1 := (hu.trans u9 (by simp)).blk HBM.out (by simp)
          have HMV1 := Hd.mk (HMV.out.upd (hu.trans u9 (by simp)))
          have HMV2 := Hd.mk (hmv.upd u9)
          have HU := Hd.mk (HU.out.trans (hu.trans u9 (by simp)) (by simp))
          have HV := Hd.mk (HV.out.trans (hu.trans u9 (by simp)) (by simp))
          have c0 := bm1.cell 0
          have c1 := bm1.cell 1
          have c2 := bm1.cell 2
          simp only [List.getElem?_cons_zero, List.getElem?_cons_succ] at c0 c1 c2
          have d0 := bm2.cell 0
          have d1 := bm2.cell 1
          have d2 := bm2.cell 2
          simp only [List.getElem?_cons_zero, List.getElem?_cons_succ] at d0 d1 d2
          have hbb : (R2 == R2) = true := by simp
          clear bm1 bm2 u9 hmv hu k0
          go_wp2_with fail
          refine (same_ok R1 _ _ w9 HMV1.out HMV2.out HML.out).mono ?_
          rintro e w10 ⟨rfl, hu⟩
          have HV := Hd.mk (HV.out.trans hu (by simp))
          clear hu c0 c1 c2 d0 d1 d2
          go_wp2_with fail
          go_roundg (gk - 1)
          case measure => have := HG.out; omega
          case rel => exact ⟨i + 1, by have := HG.out; omega, by go_num, HV⟩
        · obtain rfl : i = 3 := by have := HG.out; omega
          clear hi
          go_wp2_with fail
          refine (Tr.len _ L wr HTA.out).mono ?_
          rintro e w6 ⟨rfl, hw⟩
          subst hw
          go_wp2_with fail
          refine (Tr.len _ L w6 HTB.out).mono ?_
          rintro e w7 ⟨rfl, hw⟩
          subst hw
          have hq : ((L.length : Int) == L.length) = true := by simp
          go_wp2_with fail
          refine (Tr.with_ _ (.slice none 0 0) L [] _ HTA.out (Sl.nil _ _ _) (by simp) (by simp; omega)).mono ?_
          rintro e w8 ⟨tc, rfl, htr, hu⟩
          rw [List.append_nil] at htr
          have HTC := Hd.mk htr
          have HTA := Hd.mk (HTA.out.upd hu)
          have HU := Hd.mk (HU.out.trans hu (by simp))
          clear htr hu
          go_wp2_with fail
          refine (Tr.len _ L w8 HTC.out).mono ?_
          rintro e w9 ⟨rfl, hw⟩
          subst hw
          go_wp2_with fail
          refine (Tr.len _ L w9 HTA.out).mono ?_
          rintro e w10 ⟨rfl, hw⟩
          subst hw
          go_wp2_with fail
          go_ret
          exact ⟨rfl, HU.out.below _ (Nat.le_refl _) (by simp)⟩
end Go.Proofs.YtiombjmkaejjfaaDoor
