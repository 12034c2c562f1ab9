/- path.Pattern. -/
import Derived.Test.YtndlbkiogagnaaaGreatDoorV8
namespace Go.Proofs.YtndlbkiogagnaaaGreatDoor
set_option linter.unusedSimpArgs false
set_option linter.unusedVariables false
set_option linter.unnecessarySimpa false
open Go.RowKit BigFrame

/-- What Pattern leaves. -/
def PatQ (w : World) (p : Bs) (e : Ending) (w' : World) : Prop := ∃ v, e = .returned (.tuple #[v, .bool (patR p)]) ∧ Bld w w' 9 1 v (patS p).length (Ss (patS p))
theorem S_size' (l : Bs) : (⟨l.toArray⟩ : ByteArray).size = l.length := by show l.toArray.size = _; simp
theorem S_data' (l : Bs) : (⟨l.toArray⟩ : ByteArray).data.toList = l := by simp
theorem tail_S (c : UInt8) (r : Bs) (sb : ByteArray) (h : sb.data.toList = c :: r) : (sb.extract 1 sb.size).data.toList = r := by
  have hz : sb.size = r.length + 1 := by have := congrArg List.length h; simpa using this
  rw [ext_list, h, List.drop_succ_cons, List.drop_zero, List.take_of_length_le (by omega)]
theorem kindL_le (x : Bs) : kindL x ≤ 2 := by
  cases x with
  | nil => exact Nat.zero_le _
  | cons c r => simp only [kindL]; split
                · omega
                · split <;> omega
theorem pat_no {r : Bs} {L : List Bs} (hr : r ≠ []) (hL : splitL 47 r = L) (h : okSegs L [] = false) : patR (47 :: r) = false ∧ patS (47 :: r) = [] := by
  simp only [patR, patS]
  rw [if_pos trivial, if_neg hr, if_pos trivial, if_neg hr, hL, h]
  exact ⟨rfl, rfl⟩
theorem pat_yes {r : Bs} {L : List Bs} (hr : r ≠ []) (hL : splitL 47 r = L) (h : okSegs L [] = true) : patR (47 :: r) = decide (L.length ≤ 8) ∧ patS (47 :: r) = L := by
  simp only [patR, patS]
  rw [if_pos trivial, if_neg hr, if_pos trivial, if_neg hr, hL, h]
  exact ⟨by simp, rfl⟩
set_option maxRecDepth 100000 in
set_option maxHeartbeats 4000000 in
theorem pattern_ok (p : Bs) (w : World) (hp : p.length ≤ 800000) : Calls Tryz.prog 75 #[S p] w (PatQ w p) := by
  unfold S
  cases p with
  | nil =>
    go_enter Tryz.func75, Tryz.ntmps75
    go_wp2_with fail
    exact bodyPost_ret (v := .tuple #[.slice none 0 0, .bool false]) (by simp [results, Tryz.results75, go_sem]) rfl ⟨_, rfl, Bld.nil (Upd.refl _ _) _ _⟩
  | cons c r =>
    have y := str_ne0 (a := ⟨(c :: r).toArray⟩) (fun e => by have := congrArg (fun t : ByteArray => t.data.toList) e; simp at this)
    have hz : (⟨(c :: r).toArray⟩ : ByteArray).size = r.length + 1 := by rw [S_size']; rfl
    obtain ⟨sb, hsb⟩ : ∃ sb : ByteArray, (⟨(c :: r).toArray⟩ : ByteArray) = sb := ⟨_, rfl⟩
    have h0 : ∀ h : 0 < sb.size, sb[0] = c := by subst hsb; exact fun _ => rfl
    have HSB := Hd.mk (show sb.data.toList = c :: r by rw [← hsb])
    rw [hsb] at y hz ⊢
    have hz0 : 0 < sb.size := by omega
    have h1 := h0 hz0
    have hzb : sb.size ≤ 800000 := by simp at hp; omega
    have HP := Hd.mk (show r.length ≤ 800000 by simp at hp; omega)
    clear hsb h0 hz hp
    by_cases hc : c = 47
    · subst hc
      have d1 : (((47 : UInt8).toNat : Int) != 47) = false := by decide
      by_cases hr : r = []
      · subst hr
        have d2 := lit_yes HSB.out
        go_enter Tryz.func75, Tryz.ntmps75
        go_wp2_with fail
        exact bodyPost_ret (v := .tuple #[.slice none 0 0, .bool true]) (by simp [results, Tryz.results75, go_sem]) rfl ⟨_, rfl, Bld.nil (Upd.refl _ _) _ _⟩
      · have d2 := lit_no (a := sb) (l := [47]) (by rw [HSB.out]; simpa using hr)
        have htb := tail_S 47 r sb HSB.out
        have HRR := Hd.mk hr
        have hmm := @run_makeMap Tryz.prog
        have hWD := words_ok (sb.extract 1 sb.size) 47 w (by have h2 := congrArg List.length htb; have := HP.out; simp at h2 ⊢; omega)
        rw [htb, show ((47 : UInt8).toNat : Int) = 47 from rfl] at hWD
        have HWD := Hd.mk hWD
        clear hWD htb hr
        obtain ⟨L, hL⟩ : ∃ L, splitL 47 r = L := ⟨_, rfl⟩
        have hLL := splitL_le 47 r
        rw [hL] at HWD hLL
        have HLL := Hd.mk hLL
        have hk : L.length ≤ 800001 := by have := HP.out; omega
        have HL := Hd.mk hL
        clear hL hLL
        go_enter Tryz.func75, Tryz.ntmps75
        go_wp2_with fail
        refine HWD.out.mono ?_
        rintro e w1 ⟨v, rfl, hb⟩
        have HB := Hd.mk hb
        clear hb
        go_upto_region 7 with (fail)
        clear hmm
        refine wp_abs (fun W => MNs W w1.heap.size [] ∧ Bld w W 9 1 v L.length (Ss L)) ⟨⟨[], Mp.new w1 _, fun k => rfl⟩, HB.out.over ((Upd.refl _ _).alloc _)⟩ ?_
        have HMB := Hd.mk (show w.heap.size ≤ w1.heap.size from HB.out.upd.size)
        generalize w1.heap.size = mb at HMB ⊢
        clear HB
        rintro w2 ⟨m2, b2⟩
        have HW := Hd.mk (And.intro m2 b2)
        obtain ⟨va, vc, rfl⟩ := b2.sl.form
        clear m2 b2
        go_upto_region 8 with (fail)
        go_loopg [6, 7, 23] L.length (fun g s6 s7 ii wr => ∃ (i : Nat) (ns : List Bs), g + i = L.length ∧ ii = .int .i64 i ∧ Hd (MNs wr mb ns ∧ Bld w wr 9 1 (.slice va L.length vc) L.length (Ss L) ∧ okSegs (L.drop i) ns = okSegs L []))
        case atStart => exact ⟨0, [], by omega, rfl, Hd.mk ⟨HW.out.1, HW.out.2, rfl⟩⟩
        case round =>
          clear HW
          obtain ⟨i, ns, hg, rfl, HW⟩ := hrel
          have HG := Hd.mk hg
          clear hg
          by_cases hi : i < L.length
          · obtain ⟨x, hx⟩ : ∃ x, L[i] = x := ⟨_, rfl⟩
            have hdr : L.drop i = x :: L.drop (i + 1) := by rw [← hx]; exact List.drop_eq_getElem_cons hi
            have HOK := Hd.mk (show okSegs (x :: L.drop (i + 1)) ns = okSegs L [] by rw [← hdr]; exact HW.out.2.2)
            have HXZ := Hd.mk (show x.length ≤ 800000 by have := HLL.out.2 x (by rw [← hx]; exact List.getElem_mem hi); have := HP.out; omega)
            obtain ⟨b, o, vc', hv, _, _, hcell⟩ := HW.out.2.1.sl.some (by omega)
            simp only [Value.slice.injEq] at hv
            obtain ⟨rfl, _, rfl⟩ := hv
            have x0 := hcell i (by omega)
            simp only [Ss, List.getElem?_map, List.getElem?_eq_getElem hi, hx, Option.map_some] at x0
            obtain ⟨xb, hxb⟩ : ∃ xb : ByteArray, (⟨x.toArray⟩ : ByteArray) = xb := ⟨_, rfl⟩
            have HXB := Hd.mk (show xb.data.toList = x by rw [← hxb])
            have HKD := Hd.mk (show Calls Tryz.prog 88 #[.string xb] wr fun e w' => e = .returned (.int .i64 (kindL x)) ∧ Upd [] wr w' by rw [← hxb]; exact kind_ok x wr)
            unfold S at x0
            rw [hxb] at x0
            have hxz : xb.size ≤ 800000 := by have h2 := congrArg List.length HXB.out; have := HXZ.out; simp at h2; omega
            clear hcell hx hdr hxb
            go_upto_region 11 with (go_at_call 88; refine HKD.out.mono ?_; rintro e w3 ⟨rfl, u3⟩)
            have HM := Hd.mk (show MNs w3 mb ns ∧ Bld w w3 9 1 (.slice (some ⟨b, o, none⟩) L.length vc) L.length (Ss L) from ⟨HW.out.1.upd u3 (by simp), HW.out.2.1.over u3⟩)
            clear HW u3 x0
            obtain ⟨κ, hκ⟩ : ∃ κ, kindL x = κ := ⟨_, rfl⟩
            rw [hκ]
            have HK := Hd.mk hκ
            clear hκ
            by_cases k0 : κ = 0
            · subst k0
              have HOK := Hd.mk (show (tokB x && !x.contains 37 && okSegs (L.drop (i + 1)) ns) = okSegs L [] by rw [← HOK.out, okSegs, if_pos HK.out])
              have HTK := Hd.mk (token_ok xb w3 (by omega))
              rw [HXB.out] at HTK
              cases htb : tokB x with
              | false =>
                rw [htb] at HTK HOK
                have HN := Hd.mk (pat_no HRR.out HL.out HOK.out.symm)
                clear htb
                go_wp2_with fail
                refine HTK.out.mono ?_
                rintro e w4 ⟨rfl, u4⟩
                have HU := Hd.mk (HM.out.2.upd.trans u4 (by simp))
                clear u4
                go_wp2_with fail
                exact bodyPost_ret (v := .tuple #[.slice none 0 0, .bool false]) (by simp [results, Tryz.results75, go_sem]) rfl ⟨.slice none 0 0, by rw [HN.out.1], by rw [HN.out.2]; exact Bld.nil (HU.out) _ _⟩
              | true =>
                rw [htb] at HTK HOK
                simp only [Bool.true_and] at HOK
                have HPC := Hd.mk (fun W => words_ok xb 37 W (by omega))
                simp only [HXB.out, show ((37 : UInt8).toNat : Int) = 37 from rfl] at HPC
                clear htb
                obtain ⟨h, tl, hsp, hiff⟩ := split_head 37 x
                rw [hsp] at HPC
                have HIF := Hd.mk hiff
                have HSP := Hd.mk hsp
                clear hiff hsp
                go_wp2_with fail
                refine HTK.out.mono ?_
                rintro e w4 ⟨rfl, u4⟩
                have HM := Hd.mk (show MNs w4 mb ns ∧ Bld w w4 9 1 (.slice (some ⟨b, o, none⟩) L.length vc) L.length (Ss L) from ⟨HM.out.1.upd u4 (by simp), HM.out.2.over u4⟩)
                clear u4
                go_wp2_with fail
                refine (HPC.out w4).mono ?_
                rintro e w5 ⟨v5, rfl, hb5⟩
                obtain ⟨b5, o5, c5, rfl, _, _, hcell5⟩ := hb5.sl.some (by simp)
                have x5 := hcell5 0 (by simp)
                simp only [Ss, List.map_cons, List.getElem?_cons_zero, Nat.add_zero] at x5
                have HM := Hd.mk (show MNs w5 mb ns ∧ Bld w w5 9 1 (.slice (some ⟨b, o, none⟩) L.length vc) L.length (Ss L) from ⟨HM.out.1.upd hb5.upd (by simp), HM.out.2.over hb5.upd⟩)
                simp only [List.length_cons]
                obtain ⟨hb, hhb⟩ : ∃ hb : ByteArray, (⟨h.toArray⟩ : ByteArray) = hb := ⟨_, rfl⟩
                unfold S at x5
                rw [hhb] at x5
                have HHB := Hd.mk (show hb.data.toList = h by rw [← hhb])
                clear hcell5 hb5 hhb
                by_cases he : h = x
                · have y5 := str_yes (show hb = xb from toList_inj (by rw [HHB.out, HXB.out]; exact he))
                  have HOK := Hd.mk (show okSegs (L.drop (i + 1)) ns = okSegs L [] by rw [← HOK.out]; simp [HIF.out.1 he])
                  clear he
                  go_wp2_with fail
                  go_roundg (gk - 1)
                  case measure => have := HG.out; omega
                  case rel => exact ⟨i + 1, ns, by have := HG.out; omega, by go_num, Hd.mk ⟨HM.out.1, HM.out.2, HOK.out⟩⟩
                · have y5 := str_no (show hb ≠ xb from fun e => he (by rw [← HHB.out, ← HXB.out, e]))
                  have hin : x.contains 37 = true := by
                    have : ¬ (37 : UInt8) ∉ x := fun q => he (HIF.out.2 q)
                    simpa using this
                  have HN := Hd.mk (pat_no HRR.out HL.out (by rw [← HOK.out, hin]; rfl))
                  clear he hin
                  go_wp2_with fail
                  exact bodyPost_ret (v := .tuple #[.slice none 0 0, .bool false]) (by simp [results, Tryz.results75, go_sem]) rfl ⟨.slice none 0 0, by rw [HN.out.1], by rw [HN.out.2]; exact Bld.nil (HM.out.2.upd) _ _⟩
            have HOK := Hd.mk (show ((κ != 2 || (L.drop (i + 1)).isEmpty) && tokB x.tail && !ns.contains x.tail && okSegs (L.drop (i + 1)) (x.tail :: ns)) = okSegs L [] by rw [← HOK.out, okSegs, if_neg (by rw [HK.out]; exact k0), HK.out])
            have d0 : ((κ : Int) == 0) = false := by rw [beq_eq_false_iff_ne]; omega
            have hne : x ≠ [] := fun e => k0 (by rw [← HK.out, e]; rfl)
            have htl : (xb.extract 1 xb.size).data.toList = x.tail := by
              cases hx : x with
              | nil => exact absurd hx hne
              | cons a q => exact tail_S a q xb (by rw [HXB.out, hx])
            have hx1 : 1 ≤ xb.size := by
              have h2 := congrArg List.length HXB.out
              cases hx : x with
              | nil => exact absurd hx hne
              | cons a q => rw [hx] at h2; simp at h2; omega
            obtain ⟨tb, htb⟩ : ∃ tb, xb.extract 1 xb.size = tb := ⟨_, rfl⟩
            have htz : tb.size ≤ 800000 := by rw [← htb]; simp; omega
            have HTB := Hd.mk htb
            rw [htb] at htl
            have HTL := Hd.mk htl
            have HTK := Hd.mk (token_ok tb w3 (by omega))
            rw [htl] at HTK
            clear hne htl htb
            have hk2 := kindL_le x
            rw [HK.out] at hk2
            by_cases k1 : κ = 1
            · subst k1
              have HE := Hd.mk (show ((1 : Nat) != 2 || (L.drop (i + 1)).isEmpty) = true from rfl)
              have HEX := HTB.out
              clear k0 hk2
              cases htb : tokB x.tail with
              | false =>
                rw [htb] at HTK HOK
                have HN := Hd.mk (pat_no HRR.out HL.out (by rw [← HOK.out]; simp))
                clear htb
                go_wp2_with fail
                refine HTK.out.mono ?_
                rintro e w4 ⟨rfl, u4⟩
                have HU := Hd.mk (HM.out.2.upd.trans u4 (by simp))
                clear u4
                go_wp2_with fail
                exact bodyPost_ret (v := .tuple #[.slice none 0 0, .bool false]) (by simp [results, Tryz.results75, go_sem]) rfl ⟨.slice none 0 0, by rw [HN.out.1], by rw [HN.out.2]; exact Bld.nil (HU.out) _ _⟩
              | true =>
                rw [htb] at HTK HOK
                clear htb
                cases hnn : ns.contains x.tail with
                | true =>
                  rw [hnn] at HOK
                  have HN := Hd.mk (pat_no HRR.out HL.out (by rw [← HOK.out]; simp))
                  have HNN := Hd.mk hnn
                  clear hnn
                  go_wp2_with fail
                  refine HTK.out.mono ?_
                  rintro e w4 ⟨rfl, u4⟩
                  have HM := Hd.mk (show MNs w4 mb ns ∧ Bld w w4 9 1 (.slice (some ⟨b, o, none⟩) L.length vc) L.length (Ss L) from ⟨HM.out.1.upd u4 (by simp), HM.out.2.over u4⟩)
                  have hlk := HM.out.1.look tb
                  rw [HTL.out, HNN.out] at hlk
                  clear u4
                  go_wp2_with fail
                  exact bodyPost_ret (v := .tuple #[.slice none 0 0, .bool false]) (by simp [results, Tryz.results75, go_sem]) rfl ⟨.slice none 0 0, by rw [HN.out.1], by rw [HN.out.2]; exact Bld.nil (HM.out.2.upd) _ _⟩
                | false =>
                  rw [hnn] at HOK
                  have HOK := Hd.mk (show okSegs (L.drop (i + 1)) (x.tail :: ns) = okSegs L [] by rw [← HOK.out, HE.out]; simp)
                  have HNN := Hd.mk hnn
                  clear hnn
                  go_wp2_with fail
                  refine HTK.out.mono ?_
                  rintro e w4 ⟨rfl, u4⟩
                  have HM := Hd.mk (show MNs w4 mb ns ∧ Bld w w4 9 1 (.slice (some ⟨b, o, none⟩) L.length vc) L.length (Ss L) from ⟨HM.out.1.upd u4 (by simp), HM.out.2.over u4⟩)
                  have hlk := HM.out.1.look tb
                  rw [HTL.out, HNN.out] at hlk
                  obtain ⟨w5, hup, m5, u5⟩ := HM.out.1.put tb
                  rw [HTL.out] at m5
                  have HM := Hd.mk (show MNs w5 mb (x.tail :: ns) ∧ Bld w w5 9 1 (.slice (some ⟨b, o, none⟩) L.length vc) L.length (Ss L) from ⟨m5, HM.out.2.besides u5 (fun k hk => by rw [List.mem_singleton] at hk; subst hk; exact ⟨HM.out.2.sl.notMap HM.out.1, HMB.out⟩)⟩)
                  clear u4 m5 u5
                  go_wp2_with fail
                  go_roundg (gk - 1)
                  case measure => have := HG.out; omega
                  case rel => exact ⟨i + 1, x.tail :: ns, by have := HG.out; omega, by go_num, Hd.mk ⟨HM.out.1, HM.out.2, HOK.out⟩⟩
            · obtain rfl : κ = 2 := by omega
              clear k0 k1 hk2
              by_cases hl : i = L.length - 1
              · have e16 : ((i : Int) != (L.length : Int) - 1) = false := by rw [bne_eq_false_iff_eq]; omega
                have HE := Hd.mk (show ((2 : Nat) != 2 || (L.drop (i + 1)).isEmpty) = true by rw [List.drop_eq_nil_of_le (by omega)]; rfl)
                have HEX := HTB.out
                clear hl
                cases htb : tokB x.tail with
                | false =>
                  rw [htb] at HTK HOK
                  have HN := Hd.mk (pat_no HRR.out HL.out (by rw [← HOK.out]; simp))
                  clear htb
                  go_wp2_with fail
                  refine HTK.out.mono ?_
                  rintro e w4 ⟨rfl, u4⟩
                  have HU := Hd.mk (HM.out.2.upd.trans u4 (by simp))
                  clear u4
                  go_wp2_with fail
                  exact bodyPost_ret (v := .tuple #[.slice none 0 0, .bool false]) (by simp [results, Tryz.results75, go_sem]) rfl ⟨.slice none 0 0, by rw [HN.out.1], by rw [HN.out.2]; exact Bld.nil (HU.out) _ _⟩
                | true =>
                  rw [htb] at HTK HOK
                  clear htb
                  cases hnn : ns.contains x.tail with
                  | true =>
                    rw [hnn] at HOK
                    have HN := Hd.mk (pat_no HRR.out HL.out (by rw [← HOK.out]; simp))
                    have HNN := Hd.mk hnn
                    clear hnn
                    go_wp2_with fail
                    refine HTK.out.mono ?_
                    rintro e w4 ⟨rfl, u4⟩
                    have HM := Hd.mk (show MNs w4 mb ns ∧ Bld w w4 9 1 (.slice (some ⟨b, o, none⟩) L.length vc) L.length (Ss L) from ⟨HM.out.1.upd u4 (by simp), HM.out.2.over u4⟩)
                    have hlk := HM.out.1.look tb
                    rw [HTL.out, HNN.out] at hlk
                    clear u4
                    go_wp2_with fail
                    exact bodyPost_ret (v := .tuple #[.slice none 0 0, .bool false]) (by simp [results, Tryz.results75, go_sem]) rfl ⟨.slice none 0 0, by rw [HN.out.1], by rw [HN.out.2]; exact Bld.nil (HM.out.2.upd) _ _⟩
                  | false =>
                    rw [hnn] at HOK
                    have HOK := Hd.mk (show okSegs (L.drop (i + 1)) (x.tail :: ns) = okSegs L [] by rw [← HOK.out, HE.out]; simp)
                    have HNN := Hd.mk hnn
                    clear hnn
                    go_wp2_with fail
                    refine HTK.out.mono ?_
                    rintro e w4 ⟨rfl, u4⟩
                    have HM := Hd.mk (show MNs w4 mb ns ∧ Bld w w4 9 1 (.slice (some ⟨b, o, none⟩) L.length vc) L.length (Ss L) from ⟨HM.out.1.upd u4 (by simp), HM.out.2.over u4⟩)
                    have hlk := HM.out.1.look tb
                    rw [HTL.out, HNN.out] at hlk
                    obtain ⟨w5, hup, m5, u5⟩ := HM.out.1.put tb
                    rw [HTL.out] at m5
                    have HM := Hd.mk (show MNs w5 mb (x.tail :: ns) ∧ Bld w w5 9 1 (.slice (some ⟨b, o, none⟩) L.length vc) L.length (Ss L) from ⟨m5, HM.out.2.besides u5 (fun k hk => by rw [List.mem_singleton] at hk; subst hk; exact ⟨HM.out.2.sl.notMap HM.out.1, HMB.out⟩)⟩)
                    clear u4 m5 u5
                    go_wp2_with fail
                    go_roundg (gk - 1)
                    case measure => have := HG.out; omega
                    case rel => exact ⟨i + 1, x.tail :: ns, by have := HG.out; omega, by go_num, Hd.mk ⟨HM.out.1, HM.out.2, HOK.out⟩⟩
              · have e16 : ((i : Int) != (L.length : Int) - 1) = true := by rw [bne_iff_ne]; omega
                have HN := Hd.mk (pat_no HRR.out HL.out (by
                  have h3 : (L.drop (i + 1)).isEmpty = false := by
                    cases hd : L.drop (i + 1) with
                    | nil => have := congrArg List.length hd; rw [List.length_drop] at this; simp at this; omega
                    | cons => rfl
                  rw [← HOK.out, h3]; rfl))
                clear hl
                go_wp2_with fail
                exact bodyPost_ret (v := .tuple #[.slice none 0 0, .bool false]) (by simp [results, Tryz.results75, go_sem]) rfl ⟨.slice none 0 0, by rw [HN.out.1], by rw [HN.out.2]; exact Bld.nil (HM.out.2.upd) _ _⟩
          · obtain rfl : i = L.length := by have := HG.out; omega
            have HOK := Hd.mk (show okSegs L [] = true by rw [← HW.out.2.2, List.drop_length]; rfl)
            have HN := Hd.mk (pat_yes HRR.out HL.out HOK.out)
            have d8 : decide ((L.length : Int) ≤ 8) = decide (L.length ≤ 8) := by rw [decide_eq_decide]; omega
            go_wp2_with fail
            exact bodyPost_ret (v := .tuple #[.slice va L.length vc, .bool (decide (L.length ≤ 8))]) (by simp [results, Tryz.results75, go_sem]) rfl ⟨_, by rw [HN.out.1], by rw [HN.out.2]; exact HW.out.2.1⟩
    · have d1 : ((c.toNat : Int) != 47) = true := by rw [bne_iff_ne]; intro e; exact hc (UInt8.toNat_inj.1 (by have : (c.toNat : Int) = 47 := e; show c.toNat = 47; omega))
      have HQ := Hd.mk (show patR (c :: r) = false ∧ patS (c :: r) = [] by simp only [patR, patS]; rw [if_neg hc, if_neg hc]; exact ⟨rfl, rfl⟩)
      clear hc
      go_enter Tryz.func75, Tryz.ntmps75
      go_wp2_with fail
      exact bodyPost_ret (v := .tuple #[.slice none 0 0, .bool false]) (by simp [results, Tryz.results75, go_sem]) rfl ⟨.slice none 0 0, by rw [HQ.out.1], by rw [HQ.out.2]; exact Bld.nil (Upd.refl _ _) _ _⟩
end Go.Proofs.YtndlbkiogagnaaaGreatDoor
