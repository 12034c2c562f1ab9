/- Tries: the reference's Match. -/
import Derived.Test.YtiombjmkaejjfaaDoorV41
import Derived.Test.YtiombjmkaejjfaaDoorV34
namespace Go.Proofs.YtiombjmkaejjfaaDoor
set_option linter.unusedSimpArgs false
set_option linter.unusedVariables false
set_option linter.unnecessarySimpa false
open Go.RowKit BigFrame

theorem sl_apart {w : World} {e1 e2 : TypeId} {z1 z2 n1 n2 : Nat} {v1 v2 : Value} {x1 x2 : List Value} (h1 : Sl w e1 z1 v1 n1 x1) (h2 : Sl w e2 z2 v2 n2 x2) (hne : e2 ≠ e1) : ∀ k, k ∈ ownB v1 → k ∉ ownB v2 := by
  intro k hk hk2
  rcases h2.2 with ⟨rfl, _⟩ | ⟨g, o, cap, cur, rfl, hb, _⟩
  · simp [ownB] at hk2
  · simp [ownB] at hk2
    subst hk2
    exact h1.other hne _ hk _ hb
theorem all_one2 (l : List Bs) : (l.map S).all (·.oneCell') = true := by
  rw [List.all_map, List.all_eq_true]
  intro x _
  rfl
theorem all_one3 (m : ByteArray) (l : List Bs) : ([Value.string m] ++ l.map S).all (·.oneCell') = true := by
  rw [List.all_append, all_one2]
  rfl
set_option maxRecDepth 100000 in
set_option maxHeartbeats 8000000 in
theorem ref_ok (L : List Rt) (lv : Value) (mth : ByteArray) (l : List Bs) (pv : Value) (w : World) (hK : SomeOk L) (hL : Sl w 26 3 lv L.length (L.flatMap Rt.cells)) (hl : RdS w 1 pv l.length (l.map S)) (hz : sumL l ≤ 100000) (hn : l.length ≤ 1000) :
    Calls Tryd.prog 17 #[lv, .string mth, pv] w (MM (mtL L mth.data.toList l) w) := by
  obtain ⟨va, vc, rfl⟩ := hL.form
  obtain ⟨la, lc, rfl⟩ := hl.form
  have HK := Hd.mk hK
  have HL := Hd.mk hL
  have HP := Hd.mk hl
  have HZ := Hd.mk hz
  have hL24 := hK.len
  clear hK hL hl hz
  go_enter Tryd.func17, Tryd.ntmps17
  go_upto_region 4 with (fail)
  refine wp_abs (fun W => Blk W w.heap.size [.string ⟨#[]⟩, .slice none 0 0, .slice none 0 0] 30 ∧ Upd [] w W) ⟨Blk.new w _ _ _ rfl, (Upd.refl [] w).alloc _⟩ ?_
  obtain ⟨rs, hrs⟩ : ∃ rs, w.heap.size = rs := ⟨_, rfl⟩
  rw [hrs]
  have HMB := Hd.mk hrs
  clear hrs
  rintro w1 ⟨brs, u1⟩
  have HRS := Hd.mk brs
  have HU1 := Hd.mk u1
  clear brs u1
  go_loopg [8, 9, 10, 11, 12, 13] L.length (fun g s8 s9 s10 s11 s12 s13 wr => ∃ (i : Nat) (z : Int), g + i = L.length ∧ s10 = .int .i64 i ∧ s8 = .int .i64 z ∧ Hd (Best L mth.data.toList l i z) ∧
    Hd (Bld w1 wr 9 1 s9 (allowL (L.take i) l).length ((allowL (L.take i) l).map S)))
  case atStart => exact ⟨0, -1, by omega, rfl, rfl, Hd.mk (.inl ⟨rfl, by simp [flatL]⟩), Hd.mk (Bld.nil (Upd.refl _ _) _ _)⟩
  case round =>
    obtain ⟨i, z, hg, rfl, rfl, HBE, HS⟩ := hrel
    have HG := Hd.mk hg
    clear hg
    obtain ⟨aa, ac, rfl⟩ := HS.out.sl.form
    by_cases hi : i < L.length
    · obtain ⟨vb, vo, vc', hv, -, -, -⟩ := HL.out.some (by omega)
      simp only [Value.slice.injEq, true_and] at hv
      obtain ⟨rfl, rfl⟩ := hv
      obtain ⟨m, p, hh, hr⟩ := route_parts L[i]
      obtain ⟨k0, k1, k2⟩ := route_at ((HL.out.upd HU1.out (by simp)).upd HS.out.upd (by simp)) i hi hr
      obtain ⟨t, hpat⟩ := HK.out.pat (List.getElem_mem hi)
      have HPAT := Hd.mk hpat
      have hrl := (HK.out.right _ (List.getElem_mem hi)).2
      have hr2 := hr
      unfold Rt.cells at hr2
      simp only [List.cons.injEq, and_true, S, Value.string.injEq] at hr2
      have hpt : p.data.toList = 47 :: t := by rw [← hr2.2.1, ← hpat.p]
      have hmt : m.data.toList = L[i].m := by rw [← hr2.1]
      have hpz : p.size ≤ 1000 := by
        have h1 := congrArg List.length hpt
        rw [← hpat.p, Array.length_toList] at h1
        have h2 : p.size = p.data.size := rfl
        omega
      have HPT := Hd.mk hpt
      have HMT := Hd.mk hmt
      clear hr hr2 hpat hrl hpt hmt
      go_upto_region 7 with (fail)
      refine wp_abs (fun W => Blk W wr.heap.size [.string m, .string p, .string hh] 26 ∧ Upd [] wr W) ⟨Blk.new wr _ _ _ rfl, (Upd.refl [] wr).alloc _⟩ ?_
      clear k0 k1 k2
      generalize wr.heap.size = rb
      rintro w5 ⟨br, u5⟩
      have HBR := Hd.mk br
      have HS := Hd.mk (HS.out.over u5)
      have c0 := br.cell 0
      have c1 := br.cell 1
      have c2 := br.cell 2
      simp only [List.getElem?_cons_zero, List.getElem?_cons_succ] at c0 c1 c2
      clear br u5
      go_wp2_with fail
      refine (cut_ok p t w5 HPT.out hpz).mono ?_
      rintro e w6 ⟨cv, rfl, hb6⟩
      rw [← HPAT.out.p] at hb6
      obtain ⟨ca, cc, rfl⟩ := hb6.sl.form
      have HCV := Hd.mk hb6.sl.rs
      have HSEP := Hd.mk (show ∀ k, k ∈ ownB (.slice ca (segsL L[i].p).length cc) → k ∉ ownB (.slice aa (allowL (L.take i) l).length ac) from fun k hk hk2 => by
        have h1 := hb6.own k hk
        have h2 := HS.out.sl.lt k hk2
        omega)
      have HBR := Hd.mk (hb6.upd.blk HBR.out (by simp))
      have HS := Hd.mk (HS.out.over hb6.upd)
      clear hb6 c0 c1 c2
      go_wp2_with fail
      refine (has_ok (segsL L[i].p) l _ _ w6 HCV.out (HP.out.upd (HU1.out.trans HS.out.upd (by simp)) (by simp)) HPAT.out.ne HPAT.out.nm ⟨by have := HPAT.out.len; omega, by omega⟩).mono ?_
      rintro e w7 ⟨rfl, u7⟩
      rw [show hasS ((segsL L[i].p).map absS) l = hasS (shp L[i]) l from rfl]
      have HCV := Hd.mk (HCV.out.upd u7 (by simp))
      have HBR := Hd.mk (u7.blk HBR.out (by simp))
      have HS := Hd.mk (HS.out.over u7)
      have HAL := Hd.mk (allow_step l hi)
      have HASC := Hd.mk (allow_asc (L.take i) l)
      have HALN := Hd.mk (Nat.le_trans (allow_len (L.take i) l) (by rw [List.length_take]; exact Nat.min_le_right _ _))
      clear u7
      obtain ⟨A, hA⟩ : ∃ A, allowL (L.take i) l = A := ⟨_, rfl⟩
      rw [hA] at HS HAL HASC HALN HSEP ⊢
      clear hA
      have hA24 : A.length ≤ 24 := by have := HALN.out; omega
      cases hh2 : hasS (shp L[i]) l with
      | false =>
        rw [hh2] at HAL
        have HBN := Hd.mk (HBE.out.keep HK.out hi (by unfold better; rw [hh2]; rfl))
        go_wp2_with fail
        go_roundg (gk - 1)
        case measure => have := HG.out; omega
        case rel => exact ⟨i + 1, z, by have := HG.out; omega, by go_num, rfl, HBN, Hd.mk (by rw [HAL.out]; exact HS.out)⟩
      | true =>
        rw [hh2, if_pos rfl] at HAL
        have HH2 := Hd.mk hh2
        clear hh2
        obtain ⟨gq, hgq⟩ : ∃ gq, gq = gk - 1 := ⟨_, rfl⟩
        have HG := Hd.mk (show gq + (i + 1) = L.length ∧ gq < gk by have := HG.out; omega)
        clear hgq
        go_upto_block 2 with (fail)
        go_cut [13] (fun s13 W => ∃ at_ : Nat, s13 = .int .i64 at_ ∧ at_ ≤ A.length ∧ Hd (∀ x ∈ A.take at_, x < L[i].m) ∧ Hd (∀ h : at_ < A.length, ¬ A[at_] < L[i].m) ∧ Hd (Upd [] w7 W))
        case first =>
          go_wp2_with fail
          go_loopg [13] A.length (fun g s13 wz => ∃ at_ : Nat, g + at_ = A.length ∧ s13 = .int .i64 at_ ∧ Hd (∀ x ∈ A.take at_, x < L[i].m) ∧ Hd (Upd [] w7 wz))
          case atStart => exact ⟨0, by omega, rfl, Hd.mk (by simp), Hd.mk (Upd.refl _ _)⟩
          case round =>
            obtain ⟨j, hg, rfl, HT, HV⟩ := hrel
            have HGJ := Hd.mk hg
            clear hg
            by_cases hj : j < A.length
            · obtain ⟨ab, ao, rfl, s, k0, hs⟩ := rds_at (HS.out.sl.rs.upd HV.out (by simp)) j hj
              have hbr := (HV.out.blk HBR.out (by simp)).cell 0
              simp only [List.getElem?_cons_zero] at hbr
              have d0 : decide ((j : Int) < A.length) = true := decide_eq_true (by omega)
              have HSX := Hd.mk hs
              clear hs
              by_cases hlt : s.data.toList < m.data.toList
              · have d1 : Op.bytesLess s.toList m.toList = true := by rw [bytesLess_eq, ByteArray.toList_eq, ByteArray.toList_eq]; exact decide_eq_true hlt
                have HLT := Hd.mk hlt
                clear hlt
                go_upto_region 10 with (fail)
                go_region
                all_goals
                  go_wp2_with fail
                  go_roundg (gk - 1)
                  case measure => have := HGJ.out; omega
                  case rel => exact ⟨j + 1, by have := HGJ.out; omega, by go_num, Hd.mk (by
                    rw [List.take_succ_eq_append_getElem hj]
                    intro x hx
                    rcases List.mem_append.1 hx with h | h
                    · exact HT.out x h
                    · rw [List.mem_singleton] at h
                      subst h
                      rw [← HSX.out, ← HMT.out]
                      exact HLT.out), Hd.mk (HV.out.trans ((Upd.refl [] _).drew) (by simp))⟩
              · have d1 : Op.bytesLess s.toList m.toList = false := by rw [bytesLess_eq, ByteArray.toList_eq, ByteArray.toList_eq]; exact decide_eq_false hlt
                have HLT := Hd.mk hlt
                clear hlt
                go_upto_region 10 with (fail)
                go_region
                all_goals
                  go_wp2_with fail
                  go_meet
                  case rel => exact ⟨j, rfl, by omega, HT, Hd.mk (fun h => by rw [← HSX.out, ← HMT.out]; exact HLT.out), Hd.mk (HV.out.trans ((Upd.refl [] _).drew) (by simp))⟩
            · obtain rfl : j = A.length := by have := HGJ.out; omega
              have d0 : decide ((A.length : Int) < A.length) = false := decide_eq_false (by omega)
              clear hj
              go_upto_region 10 with (fail)
              go_region
              all_goals
                go_wp2_with fail
                go_meet
                case rel => exact ⟨A.length, rfl, Nat.le_refl _, HT, Hd.mk (fun h => absurd h (by omega)), Hd.mk (HV.out.trans ((Upd.refl [] _).drew) (by simp))⟩
        case rest =>
          obtain ⟨j, rfl, hj, HT, HGE, HV⟩ := hcut
          have HS := Hd.mk (HS.out.over HV.out)
          have HCV := Hd.mk (HCV.out.upd HV.out (by simp))
          have HBR := Hd.mk (HV.out.blk HBR.out (by simp))
          have HINS := Hd.mk (ins_at HASC.out HT.out hj HGE.out)
          obtain ⟨bI, hbI⟩ : ∃ b : Bool, b = true ↔ ¬ ∃ h : j < A.length, A[j] = L[i].m := by
            by_cases h : ∃ h : j < A.length, A[j] = L[i].m
            · exact ⟨false, by simp [h]⟩
            · exact ⟨true, by simp [h]⟩
          have HBI := Hd.mk hbI
          clear HT HGE HV hbI
          go_upto_region 12 with (fail)
          go_cut [64] (fun s64 W => s64 = .bool bI ∧ Hd (Upd [] wc W))
          case first =>
            have hbr := HBR.out.cell 0
            simp only [List.getElem?_cons_zero] at hbr
            by_cases hja : j < A.length
            · obtain ⟨ab, ao, rfl, s, k0, hs⟩ := rds_at HS.out.sl.rs j hja
              have d0 : ((j : Int) == A.length) = false := by rw [beq_eq_false_iff_ne]; omega
              have HSX := Hd.mk hs
              clear hs
              by_cases hsm : s = m
              · have y := str_yes hsm
                obtain rfl : bI = false := by
                  cases bI with
                  | false => rfl
                  | true => exact absurd ⟨hja, by rw [← HSX.out, ← HMT.out, hsm]⟩ (HBI.out.1 rfl)
                clear hsm
                go_region
                all_goals
                  go_wp2_with fail
                  go_meet
                  case rel => exact ⟨rfl, Hd.mk ((Upd.refl [] _).drew)⟩
              · have y := str_no hsm
                obtain rfl : bI = true := by
                  rw [HBI.out]
                  rintro ⟨_, h⟩
                  rw [← HSX.out, ← HMT.out] at h
                  exact hsm (toList_inj h)
                clear hsm
                go_region
                all_goals
                  go_wp2_with fail
                  go_meet
                  case rel => exact ⟨rfl, Hd.mk ((Upd.refl [] _).drew)⟩
            · have d0 : ((j : Int) == A.length) = true := by rw [beq_iff_eq]; omega
              obtain rfl : bI = true := by
                rw [HBI.out]
                rintro ⟨h, _⟩
                exact hja h
              clear hja
              go_region
              all_goals
                go_wp2_with fail
                go_meet
                case rel => exact ⟨rfl, Hd.mk ((Upd.refl [] _).drew)⟩
          case rest =>
            obtain ⟨rfl, HV⟩ := hcut
            have HS := Hd.mk (HS.out.over HV.out)
            have HCV := Hd.mk (HCV.out.upd HV.out (by simp))
            have HBR := Hd.mk (HV.out.blk HBR.out (by simp))
            clear HV
            go_upto_if 64 with (fail)
            go_cut [9] (fun s9 W => Hd (Bld w1 W 9 1 s9 (insA A L[i].m).length ((insA A L[i].m).map S)) ∧ Hd (RdS W 1 (.slice ca (segsL L[i].p).length cc) (segsL L[i].p).length ((segsL L[i].p).map S) ∧ Blk W rb [.string m, .string p, .string hh] 26))
            case first =>
              cases bI with
              | false =>
                have hex : ∃ h : j < A.length, A[j] = L[i].m := by
                  apply Classical.byContradiction
                  intro h
                  have := HBI.out.2 h
                  cases this
                go_wp2_with fail
                go_meet
                case rel => exact ⟨Hd.mk (by rw [HINS.out, if_pos hex]; exact HS.out), Hd.mk ⟨HCV.out, HBR.out⟩⟩
              | true =>
                have hex := HBI.out.1 rfl
                have HIN := Hd.mk (show insA A L[i].m = A.take j ++ L[i].m :: A.drop j by rw [HINS.out, if_neg hex])
                clear hex
                obtain ⟨tv, htk, hts, htown⟩ := run_upto_sl (P := Tryd.prog) 23 9 1 Tryd.underlying23 (by kernel_rfl) wc _ A.length _ HS.out.sl j hj (by have := HALN.out; omega)
                obtain ⟨dv, hdk, hds, -⟩ := run_from_sl (P := Tryd.prog) 23 9 1 Tryd.underlying23 (by kernel_rfl) wc _ A.length _ HS.out.sl j hj (by have := HALN.out; omega)
                rw [Nat.mul_one, ← List.map_take] at hts
                rw [Nat.mul_one, ← List.map_drop] at hds
                have HTK := Hd.mk (And.intro hts htown)
                have HDR := Hd.mk hds
                obtain ⟨ta, tc, rfl⟩ := hts.form
                obtain ⟨da, dc, rfl⟩ := hds.form
                clear hts htown hds
                go_upto_region 13 with (fail)
                have HDRW := Hd.mk (HDR.out.upd (((Upd.refl [] wc).alloc (.cells #[.string m] 9)).drew) (by simp))
                have HBW := Hd.mk ((Blk.new wc [.string m] 9 _ rfl).drew.sl 1 1 rfl (by decide))
                have hbr := HBR.out.cell 0
                simp only [List.getElem?_cons_zero] at hbr
                go_region_law (first
                  | (refine step_append_any rfl (.tmp 70) (.tmp 73) 23 rfl 9 (.string ⟨#[]⟩) 1 16 Tryd.underlying23 (by kernel_rfl) rfl (.slice (some ⟨wc.heap.size, 0, none⟩) 1 1) 1 [.string m] (by go_simp) HBW.out (.slice da (A.length - j) dc) (A.length - j) ((A.drop j).map S) (by go_simp) HDRW.out (all_one2 (A.drop j)) (by omega) (by omega) ?_; intro v7 w7 s7 u7 o7; have HU7 := Hd.mk (show Upd [] wc w7 from (((Upd.refl [] wc).alloc (.cells #[.string m] 9)).drew).trans u7 (by intro k hk hm; simp [ownB] at hm; omega)); obtain ⟨a7, c7, rfl⟩ := s7.form; have HS7 := Hd.mk s7; clear s7 u7 o7)
                  | (refine step_append_any rfl (.tmp 67) (.tmp 74) 23 rfl 9 (.string ⟨#[]⟩) 1 16 Tryd.underlying23 (by kernel_rfl) rfl (.slice ta j tc) j ((A.take j).map S) (by go_simp) (HTK.out.1.upd HU7.out (by simp)) (.slice a7 (1 + (A.length - j)) c7) (1 + (A.length - j)) ([.string m] ++ (A.drop j).map S) (by go_simp) HS7.out (all_one3 m (A.drop j)) (by omega) (by omega) ?_; intro v8 w8 s8 u8 o8; have HY8 := Hd.mk (And.intro s8 (And.intro u8 o8)); obtain ⟨a8, c8, rfl⟩ := s8.form; clear s8 u8 o8))
                all_goals
                  obtain ⟨s8, u8, o8⟩ := HY8.out
                  rw [HTK.out.2] at u8 o8
                  have hnb : rb ∉ ownB (.slice aa A.length ac) := fun hk => (HS.out.over HU7.out).sl.other (t := 26) (by decide) rb hk _ (HU7.out.blk HBR.out (by simp))
                  have HS8 := Hd.mk ((HS.out.over HU7.out).app s8 u8 o8)
                  have HCV8 := Hd.mk ((HCV.out.upd HU7.out (by simp)).upd u8 HSEP.out)
                  have HBR8 := Hd.mk (u8.blk (HU7.out.blk HBR.out (by simp)) hnb)
                  clear s8 u8 o8 hnb
                  go_wp2_with fail
                  go_meet
                  case rel => exact ⟨Hd.mk (by
                    have h1 := HS8.out
                    have hl1 : (insA A L[i].m).length = j + (1 + (A.length - j)) := by
                      rw [HIN.out, List.length_append, List.length_take, List.length_cons, List.length_drop]
                      omega
                    rw [hl1, HIN.out, List.map_append, List.map_cons]
                    rw [show S L[i].m = .string m from (S_of HMT.out).symm]
                    simp only [List.map_take, List.map_drop] at h1 ⊢
                    exact h1), Hd.mk ⟨HCV8.out, HBR8.out⟩⟩
            case rest =>
              obtain ⟨HS, HB2⟩ := hcut
              obtain ⟨na, nc, rfl⟩ := HS.out.sl.form
              have hbr := HB2.out.2.cell 0
              simp only [List.getElem?_cons_zero] at hbr
              by_cases hmm : m = mth
              rotate_left
              · have y := str_no hmm
                have HBN := Hd.mk (HBE.out.keep HK.out hi (by
                  unfold better
                  have : ¬ L[i].m = mth.data.toList := fun e => hmm (toList_inj (by rw [HMT.out, e]))
                  simp [this]))
                clear hmm
                go_wp2_with fail
                go_roundg gq
                case measure => have := HG.out; omega
                case rel => exact ⟨i + 1, z, by have := HG.out; omega, by go_num, rfl, HBN, Hd.mk (by rw [HAL.out]; exact HS.out)⟩
              have y := str_yes hmm
              have HME := Hd.mk (show L[i].m = mth.data.toList by rw [← hmm, HMT.out])
              clear hmm
              rcases HBE.out with ⟨hz1, hnone⟩ | ⟨b, hz1, hb, hsome⟩
              · subst hz1
                have HBN := Hd.mk (Best.new HK.out (mth := mth.data.toList) (l := l) hi (by
                  unfold better
                  rw [hnone, HH2.out]
                  simp [HME.out, beatB]))
                clear hnone
                go_wp2_with fail
                go_roundg gq
                case measure => have := HG.out; omega
                case rel => exact ⟨i + 1, (i : Int), by have := HG.out; omega, by go_num, rfl, HBN, Hd.mk (by rw [HAL.out]; exact HS.out)⟩
              · subst hz1
                have HSO := Hd.mk hsome
                clear hsome
                have d0 : decide ((b : Int) < 0) = false := decide_eq_false (by omega)
                obtain ⟨bm, bp, bh, hrb⟩ := route_parts L[b]
                obtain ⟨k0, k1, k2⟩ := route_at ((HL.out.upd HU1.out (by simp)).upd HS.out.upd (by simp)) b hb hrb
                obtain ⟨bt, hbpat⟩ := HK.out.pat (List.getElem_mem hb)
                have HBP := Hd.mk hbpat
                have hbl := (HK.out.right _ (List.getElem_mem hb)).2
                unfold Rt.cells at hrb
                simp only [List.cons.injEq, and_true, S, Value.string.injEq] at hrb
                have hbpt : bp.data.toList = 47 :: bt := by rw [← hrb.2.1, ← hbpat.p]
                have hbz : bp.size ≤ 1000 := by
                  have h1 := congrArg List.length hbpt
                  rw [← hbpat.p, Array.length_toList] at h1
                  have h2 : bp.size = bp.data.size := rfl
                  omega
                have HBT := Hd.mk hbpt
                clear hrb hbpat hbl hbpt
                go_wp2_with fail
                refine (cut_ok bp bt _ HBT.out hbz).mono ?_
                rintro e w9 ⟨dv, rfl, hb9⟩
                rw [← HBP.out.p] at hb9
                obtain ⟨da, dc, rfl⟩ := hb9.sl.form
                have HDV := Hd.mk hb9.sl.rs
                have HCV := Hd.mk (HB2.out.1.upd hb9.upd (by simp))
                have HS := Hd.mk (HS.out.over hb9.upd)
                clear hb9 k0 k1 k2 hbr
                go_wp2_with fail
                refine (stronger_ok (segsL L[i].p) (segsL L[b].p) _ _ w9 HCV.out HDV.out HPAT.out.ne HBP.out.ne ⟨by have := HPAT.out.len; omega, by have := HBP.out.len; omega⟩).mono ?_
                rintro e w10 ⟨rfl, u10⟩
                have HS := Hd.mk (HS.out.over u10)
                clear u10
                cases hst : strS ((segsL L[i].p).map absS) ((segsL L[b].p).map absS) with
                | true =>
                  have HBN := Hd.mk (Best.new HK.out (mth := mth.data.toList) (l := l) hi (by
                    unfold better
                    rw [HSO.out, HH2.out]
                    have : beatB L[i] (some L[b]) = true := hst
                    simp [HME.out, this]))
                  clear hst
                  go_wp2_with fail
                  go_roundg gq
                  case measure => have := HG.out; omega
                  case rel => exact ⟨i + 1, (i : Int), by have := HG.out; omega, by go_num, rfl, HBN, Hd.mk (by rw [HAL.out]; exact HS.out)⟩
                | false =>
                  have HBN := Hd.mk (HBE.out.keep HK.out hi (by
                    unfold better
                    rw [HSO.out]
                    have : beatB L[i] (some L[b]) = false := hst
                    simp [this]))
                  clear hst
                  go_wp2_with fail
                  go_roundg gq
                  case measure => have := HG.out; omega
                  case rel => exact ⟨i + 1, (b : Int), by have := HG.out; omega, by go_num, rfl, HBN, Hd.mk (by rw [HAL.out]; exact HS.out)⟩
    · obtain rfl : i = L.length := by have := HG.out; omega
      rw [List.take_length] at HS
      have hbe := HBE.out
      unfold Best at hbe
      rw [List.take_length] at hbe
      clear hi HG
      rcases hbe with ⟨hz1, hnone⟩ | ⟨b, hz1, hb, hsome⟩
      · subst hz1
        have HN := Hd.mk hnone
        have brs := HS.out.upd.blk HRS.out (by simp)
        have HRSW := Hd.mk brs
        have c0 := brs.cell 0
        have c1 := brs.cell 1
        have c2 := brs.cell 2
        simp only [List.getElem?_cons_zero, List.getElem?_cons_succ] at c0 c1 c2
        have f0 := brs.free 0
        have f1 := brs.free 1
        have f2 := brs.free 2
        clear hnone brs
        have hmt : mtL L mth.data.toList l = (⟨[], [], allowL L l⟩, false) := by rw [ref_mt, HN.out]
        have HM := Hd.mk hmt
        have HSL := Hd.mk HS.out.sl
        have HU := Hd.mk (HU1.out.trans HS.out.upd (by simp))
        obtain ⟨nA, hnA⟩ : ∃ n, (allowL L l).length = n := ⟨_, rfl⟩
        have hnA2 : (allowL (L.take L.length) l).length = nA := by rw [List.take_length]; exact hnA
        rw [hnA2]
        rw [hnA] at HSL
        have HNA := Hd.mk hnA
        clear hmt hnA hnA2 HS HBE HN
        go_wp2_with fail
        have hset : Upd [rs] wr (((wr.setCell ⟨rs, 0, none⟩ (.string ⟨#[]⟩)).setCell ⟨rs, 1, none⟩ (.slice none 0 0)).setCell ⟨rs, 2, none⟩ (.slice aa nA ac)) := (((Upd.refl [rs] wr).set _ _ (by simp)).set _ _ (by simp)).set _ _ (by simp)
        have hnr : ∀ k, k ∈ ownB (.slice aa nA ac) → k ∉ [rs] := fun k hk hm => by
          rw [List.mem_singleton] at hm
          subst hm
          exact HSL.out.other (t := 30) (by decide) _ hk _ HRSW.out
        refine wp_abs (fun W => Blk W rs [.string ⟨#[]⟩, .slice none 0 0, .slice aa nA ac] 30 ∧ Sl W 9 1 (.slice aa nA ac) nA ((allowL L l).map S) ∧ Upd [] w W) ⟨((HRSW.out.set 0 _).set 1 _).set 2 _, HSL.out.upd hset hnr, HU.out.trans hset (fun k hk hm => by rw [List.mem_singleton] at hm; have := HMB.out; omega)⟩ ?_
        clear hset hnr f0 f1 f2 c0 c1 c2
        rintro w9 ⟨b9, s9, u9⟩
        have HF := Hd.mk (And.intro b9 (And.intro s9 u9))
        clear b9 s9 u9
        exact bodyPost_ret (results_cell_tmp _ _ _ 6 7 30 rs [.string ⟨#[]⟩, .slice none 0 0, .slice aa nA ac] 30 rfl rfl HF.out.1 (by kernel_rfl) (by kernel_rfl)) rfl (by
          rw [HM.out]
          exact ⟨_, _, _, _, _, _, _, rfl, ⟨_, _, rfl, ⟨none, 0, rfl, fun h => absurd h (by simp)⟩, Sl.rdl (by have h := HF.out.2.1; rw [← HNA.out] at h ⊢; exact h)⟩, HF.out.2.2⟩)
      · subst hz1
        have hmt : mtL L mth.data.toList l = (⟨L[b].h, parL (segsL L[b].p) l, []⟩, true) := by rw [ref_mt, hsome]
        have HM := Hd.mk hmt
        have hin := List.mem_of_find?_eq_some hsome
        have hln := cands_len l _ (flatL_mem hin).2
        rw [show shp L[b] = (segsL L[b].p).map absS from rfl, List.length_map] at hln
        have d0 : decide ((b : Int) < 0) = false := decide_eq_false (by omega)
        obtain ⟨bm, bp, bh, hrb⟩ := route_parts L[b]
        obtain ⟨vb, vo, vc', hv, -, -, -⟩ := HL.out.some (by omega)
        simp only [Value.slice.injEq, true_and] at hv
        obtain ⟨rfl, rfl⟩ := hv
        obtain ⟨k0, k1, k2⟩ := route_at ((HL.out.upd HU1.out (by simp)).upd HS.out.upd (by simp)) b hb hrb
        obtain ⟨bt, hbpat⟩ := HK.out.pat (List.getElem_mem hb)
        have HBP := Hd.mk hbpat
        have hbl := (HK.out.right _ (List.getElem_mem hb)).2
        unfold Rt.cells at hrb
        simp only [List.cons.injEq, and_true, S, Value.string.injEq] at hrb
        have hbpt : bp.data.toList = 47 :: bt := by rw [← hrb.2.1, ← hbpat.p]
        have hbz : bp.size ≤ 1000 := by
          have h1 := congrArg List.length hbpt
          rw [← hbpat.p, Array.length_toList] at h1
          have h2 : bp.size = bp.data.size := rfl
          omega
        have HBT := Hd.mk hbpt
        have HBH := Hd.mk (show Value.string bh = S L[b].h by rw [← hrb.2.2]; rfl)
        have HU := Hd.mk (HS.out.upd)
        have hP8 := hbpat.len
        clear hrb hbpat hbl hbpt hmt hsome hin HS HBE
        go_upto_region 19 with (fail)
        refine wp_abs (fun W => Blk W wr.heap.size [.string bh, .slice none 0 0, .slice none 0 0] 30 ∧ Upd [] wr W) ⟨Blk.new wr _ _ _ rfl, (Upd.refl [] wr).alloc _⟩ ?_
        have HMX := Hd.mk (show w1.heap.size ≤ wr.heap.size from HU.out.size)
        have k1 := k1
        generalize hmx : wr.heap.size = mx at HMX
        rintro w5 ⟨bx, u5⟩
        have k1 := (u5.cell (p := ⟨vb, vo + b * 3 + 1, none⟩) (((HL.out.upd HU1.out (by simp)).upd HU.out (by simp)).lt vb (by simp [ownB])) (by simp)).trans k1
        have HBX := Hd.mk bx
        have HU := Hd.mk (HU.out.trans u5 (by simp))
        clear bx u5 k0 k2 hmx
        go_wp2_with fail
        refine (cut_ok bp bt w5 HBT.out hbz).mono ?_
        rintro e w6 ⟨pv2, rfl, hb6⟩
        rw [← HBP.out.p] at hb6
        obtain ⟨pa2, pc2, rfl⟩ := hb6.sl.form
        have HPV := Hd.mk hb6.sl
        have HBX := Hd.mk (hb6.upd.blk HBX.out (by simp))
        have HU := Hd.mk (HU.out.trans hb6.upd (by simp))
        obtain ⟨sg, hsg⟩ : ∃ sg, segsL L[b].p = sg := ⟨_, rfl⟩
        have hsne := HBP.out.ne
        rw [hsg] at HM HPV hln hP8 hsne ⊢
        have HNE := Hd.mk hsne
        clear hb6 k1 hsg hsne
        go_upto_region 21 with (fail)
        go_loopg [16, 17, 18, 19] sg.length (fun g s16 s17 s18 s19 wz => ∃ (q : Nat) (va' : Option Addr) (vc' : Nat), g + q = sg.length ∧ s16 = .int .i64 q ∧ Hd (Upd [] w1 wz) ∧ Hd (Sl wz 9 1 (.slice pa2 sg.length pc2) sg.length (sg.map S)) ∧
          Hd (Blk wz mx [.string bh, .slice va' (parI sg l q).length vc', .slice none 0 0] 30) ∧ Hd (Bld w1 wz 40 2 (.slice va' (parI sg l q).length vc') (parI sg l q).length (pcells (parI sg l q))))
        case atStart => exact ⟨0, none, 0, by omega, rfl, HU, HPV, HBX, Hd.mk (Bld.nil HU.out _ _)⟩
        case round =>
          clear HU HPV HBX
          obtain ⟨q, va', vc', hg, rfl, HU, HPV, HBX, HB⟩ := hrel
          have HG := Hd.mk hg
          clear hg
          by_cases hq : q < sg.length
          · have hql : q < l.length := by omega
            obtain ⟨xb, xo, rfl, x, k0, hx⟩ := rds_at HPV.out.rs q hq
            obtain ⟨yb, yo, rfl, y, k1, hy⟩ := rds_at (HP.out.upd (HU1.out.trans HU.out (by simp)) (by simp)) q hql
            have hxs : 0 < x.size := by
              have h1 := HNE.out _ (List.getElem_mem hq)
              rw [← hx] at h1
              have := List.length_pos_iff.2 h1
              rwa [Array.length_toList] at this
            have HPI := Hd.mk (show parI sg l (q + 1) = parI sg l q ++ pone l x.data.toList q by rw [parI, List.getD_eq_getElem?_getD, List.getElem?_eq_getElem hq, hx]; rfl)
            have HYX := Hd.mk hy
            have hk2 := kindL_le x.data.toList
            clear hx hy
            go_wp2_with fail
            refine (rkind_ok x _ hxs).mono ?_
            rintro e w7 ⟨rfl, hw⟩
            subst hw
            obtain ⟨kk, hkk⟩ : ∃ k, kindL x.data.toList = k := ⟨_, rfl⟩
            rw [hkk] at hk2 ⊢
            have HKK := Hd.mk hkk
            clear hkk
            by_cases hk0 : kk = 0
            · subst hk0
              have HP2 := Hd.mk (show parI sg l (q + 1) = parI sg l q by rw [HPI.out, pone, if_pos HKK.out, List.append_nil])
              go_wp2_with fail
              go_roundg (gk - 1)
              case measure => have := HG.out; omega
              case rel => exact ⟨q + 1, va', vc', by have := HG.out; omega, by go_num, HU, HPV, Hd.mk (by rw [HP2.out]; exact HBX.out), Hd.mk (by rw [HP2.out]; exact HB.out)⟩
            have d1 : ((kk : Int) == 0) = false := by rw [beq_eq_false_iff_ne]; omega
            obtain ⟨wv, hw1, hw2, hwp⟩ : ∃ wv : Bs, (kk = 1 → wv = l[q]) ∧ (kk = 2 → wv = joinL (l.drop q)) ∧ parI sg l (q + 1) = parI sg l q ++ [(x.data.toList.tail, wv)] := by
              by_cases h1 : kk = 1
              · exact ⟨l[q], fun _ => rfl, fun h => by omega, by
                  rw [HPI.out, pone, if_neg (by rw [HKK.out]; exact hk0), if_pos (by rw [HKK.out]; exact h1), List.getD_eq_getElem?_getD, List.getElem?_eq_getElem hql]
                  rfl⟩
              · exact ⟨joinL (l.drop q), fun h => absurd h h1, fun _ => rfl, by
                  rw [HPI.out, pone, if_neg (by rw [HKK.out]; exact hk0), if_neg (by rw [HKK.out]; exact h1)]⟩
            have HW1 := Hd.mk hw1
            have HW2 := Hd.mk hw2
            have HWP := Hd.mk hwp
            clear hw1 hw2 hwp
            go_upto_if 129 with (fail)
            go_cut [18, 19] (fun s18 s19 W => ∃ vb : ByteArray, s18 = .string vb ∧ vb.size ≤ 100000 ∧ Hd (vb.data.toList = wv) ∧ W = w7)
            case first =>
              by_cases h1 : kk = 1
              · subst h1
                have hyz : y.size ≤ 100000 := by
                  have h2 := mem_sumL (show l[q] ∈ l from List.getElem_mem hql)
                  have h3 := HZ.out
                  rw [← HYX.out, Array.length_toList] at h2
                  have h4 : y.size = y.data.size := rfl
                  omega
                go_wp2_with fail
                go_meet
                case rel => exact ⟨y, rfl, hyz, Hd.mk (by
                  have h2 := HW1.out
                  simp at h2
                  rw [HYX.out, h2]), rfl⟩
              · obtain rfl : kk = 2 := by omega
                go_upto_region 28 with (fail)
                go_loopg [18, 19] l.length (fun g s18 s19 wq => ∃ (j : Nat) (vb : ByteArray), g + j = l.length + q + 1 ∧ s19 = .int .i64 j ∧ q + 1 ≤ j ∧ j ≤ l.length ∧ s18 = .string vb ∧ Hd (vb.data.toList = joinL ((l.drop q).take (j - q))) ∧ wq = w7)
                case atStart => exact ⟨q + 1, y, by omega, by go_num, by omega, by omega, rfl, Hd.mk (by
                  have h2 : (l.drop q).take (q + 1 - q) = [l[q]] := by
                    rw [show q + 1 - q = 1 by omega, List.drop_eq_getElem_cons hql]
                    rfl
                  rw [h2, HYX.out]
                  simp [joinL]), rfl⟩
                case round =>
                  obtain ⟨j, vb, hgj, rfl, hj1, hj2, rfl, HVB, rfl⟩ := hrel
                  have HGJ := Hd.mk hgj
                  clear hgj
                  have hvz : vb.size ≤ 100000 := by
                    have h2 := joinL_le ((l.drop q).take (j - q))
                    have h3 := sumL_take (l.drop q) (j - q)
                    have h4 := sumL_drop l q
                    have h5 := HZ.out
                    rw [← HVB.out, Array.length_toList] at h2
                    have h6 : vb.size = vb.data.size := rfl
                    omega
                  by_cases hj : j < l.length
                  · obtain ⟨tb, to_, htt, t, k2, ht⟩ := rds_at (HP.out.upd (HU1.out.trans HU.out (by simp)) (by simp)) j hj
                    simp only [Option.some.injEq, Addr.mk.injEq] at htt
                    obtain ⟨rfl, rfl, -⟩ := htt
                    have htz : t.size ≤ 100000 := by
                      have h2 := mem_sumL (show l[j] ∈ l from List.getElem_mem hj)
                      have h3 := HZ.out
                      rw [← ht, Array.length_toList] at h2
                      have h4 : t.size = t.data.size := rfl
                      omega
                    have HTX := Hd.mk ht
                    have q1 : ¬ 9223372036854775807 < 1 + t.size := by omega
                    have q2 : ¬ 9223372036854775807 < vb.size + (1 + t.size) := by omega
                    clear ht
                    go_wp2_with fail
                    go_roundg (gk - 1)
                    case measure => have := HGJ.out; omega
                    case rel => exact ⟨j + 1, _, by have := HGJ.out; omega, by go_num, by omega, by omega, rfl, Hd.mk (by
                      rw [show j + 1 - q = (j - q) + 1 by omega, List.take_add_one, List.getElem?_drop, show q + (j - q) = j by omega, List.getElem?_eq_getElem hj]
                      rw [show (some l[j]).toList = [l[j]] from rfl, joinL_snoc, if_neg (by
                        intro e
                        have h1 := congrArg List.length e
                        rw [List.length_take, List.length_drop, List.length_nil] at h1
                        omega), ← HVB.out, ← HTX.out]
                      simp), rfl⟩
                  · have hje : j = l.length := by omega
                    have HE := Hd.mk (show vb.data.toList = wv by
                      have h2 := HW2.out
                      simp at h2
                      rw [HVB.out, h2, List.take_of_length_le (by rw [List.length_drop]; omega)])
                    go_wp2_with fail
                    go_meet
                    case rel => exact ⟨vb, rfl, hvz, HE, rfl⟩
            case rest =>
              obtain ⟨vb2, rfl, hvz, HVB, rfl⟩ := hcut
              have hx1' : (1 : Int) ≤ (x.size : Int) := by omega
              have htl : (x.extract 1 x.size).data.toList = x.data.toList.tail := by
                rw [ext_list, List.take_of_length_le (by rw [List.length_drop, Array.length_toList]; exact Nat.le_refl _), List.drop_one]
              obtain ⟨tb, htb⟩ : ∃ tb, x.extract 1 x.size = tb := ⟨_, rfl⟩
              rw [htb] at htl
              have HTB := Hd.mk (show Value.string tb = S x.data.toList.tail from S_of htl)
              have hnl : (parI sg l q).length ≤ 8 := by have := parI_le sg l q; omega
              have hnx : mx ∉ ownB (.slice va' (parI sg l q).length vc') := fun hk => HB.out.sl.other (t := 30) (by decide) _ hk _ HBX.out
              have hna := sl_apart HPV.out HB.out.sl (by decide)
              have HNA := Hd.mk (And.intro hnx hna)
              have UA := ((Upd.refl [] wc).alloc (.cells #[.string tb, .string vb2] 40)).drew
              have HUA := Hd.mk UA
              have c1 := HBX.out.cell 1
              have c1a := (UA.blk HBX.out (by simp)).cell 1
              have c1b := (HBX.out.alloc (.cells #[.string tb, .string vb2] 40)).cell 1
              simp only [List.getElem?_cons_zero, List.getElem?_cons_succ] at c1 c1a c1b
              have HBV := Hd.mk (HB.out.sl.upd UA (by simp))
              have HBW := Hd.mk ((Blk.new wc [.string tb, .string vb2] 40 _ rfl).drew.sl 2 1 rfl (by decide))
              clear htl hnx hna UA k1
              go_upto_region 31 with (fail)
              go_region_law ((refine step_append_any rfl (.tmp 146) (.tmp 154) 28 rfl 40 (.agg #[.string ⟨#[]⟩, .string ⟨#[]⟩]) 2 32 Tryd.underlying28 (by kernel_rfl) rfl (.slice va' (parI sg l q).length vc') (parI sg l q).length (pcells (parI sg l q)) (by go_simp) HBV.out (.slice (some ⟨wc.heap.size, 0, none⟩) 1 1) 1 [.string tb, .string vb2] (by go_simp) HBW.out rfl (by omega) (by omega) ?_; intro v9 w9 s9 u9 o9; have Y9 := Hd.mk (And.intro s9 (And.intro u9 o9)); have b9 := u9.blk (HUA.out.blk HBX.out (by simp)) HNA.out.1; have z1 := b9.cell 1; have f1 := b9.free 1; simp only [List.getElem?_cons_zero, List.getElem?_cons_succ] at z1; obtain ⟨a9, c9, rfl⟩ := s9.form; clear s9 u9 o9 b9))
              all_goals
                have h9 := (HB.out.over HUA.out).app Y9.out.1 Y9.out.2.1 Y9.out.2.2
                have b9 := Y9.out.2.1.blk (HUA.out.blk HBX.out (by simp)) HNA.out.1
                have p9 := (HPV.out.upd HUA.out (by simp)).upd Y9.out.2.1 HNA.out.2
                have hs9 : Upd [mx] w9 (w9.setCell ⟨mx, 1, none⟩ (.slice a9 ((parI sg l q).length + 1) c9)) := (Upd.refl _ _).set _ _ (by simp)
                have HN := Hd.mk (show Upd [] w1 (w9.setCell ⟨mx, 1, none⟩ (.slice a9 ((parI sg l q).length + 1) c9)) from h9.upd.trans hs9 (fun k hk hm => by rw [List.mem_singleton] at hm; have := HMX.out; omega))
                have HP9 := Hd.mk (p9.upd hs9 (fun k hk hm => by rw [List.mem_singleton] at hm; subst hm; exact p9.other (t := 30) (by decide) _ hk _ b9))
                have HB9 := Hd.mk (h9.sl.upd hs9 (fun k hk hm => by rw [List.mem_singleton] at hm; subst hm; exact h9.sl.other (t := 30) (by decide) _ hk _ b9))
                have HO9 := Hd.mk h9.own
                have HX9 := Hd.mk (b9.set 1 (.slice a9 ((parI sg l q).length + 1) c9))
                have HLN := Hd.mk (show (parI sg l (q + 1)).length = (parI sg l q).length + 1 by rw [HWP.out]; simp)
                clear h9 b9 p9 hs9 z1 f1 c1 c1a c1b
                go_wp2_with fail
                go_roundg (gk - 1)
                case measure => have := HG.out; omega
                case rel => exact ⟨q + 1, a9, c9, by have := HG.out; omega, by go_num, HN, HP9, Hd.mk (by rw [HLN.out]; exact HX9.out), Hd.mk (by
                  rw [HLN.out, HWP.out, pcells_app]
                  have e1 : pcells [(x.data.toList.tail, wv)] = [.string tb, .string vb2] := by
                    rw [HTB.out, S_of HVB.out]
                    rfl
                  rw [e1]
                  exact ⟨HB9.out, HO9.out, HN.out⟩)⟩
          · obtain rfl : q = sg.length := by have := HG.out; omega
            clear hq
            have brs := HU.out.blk HRS.out (by simp)
            have HRSW := Hd.mk brs
            have c0 := brs.cell 0
            have c1 := brs.cell 1
            have c2 := brs.cell 2
            simp only [List.getElem?_cons_zero, List.getElem?_cons_succ] at c0 c1 c2
            have f0 := brs.free 0
            have f1 := brs.free 1
            have f2 := brs.free 2
            have bx := HBX.out
            have d0 := bx.cell 0
            have d1 := bx.cell 1
            have d2 := bx.cell 2
            simp only [List.getElem?_cons_zero, List.getElem?_cons_succ] at d0 d1 d2
            clear brs bx
            go_wp2_with fail
            have hset : Upd [rs] wr (((wr.setCell ⟨rs, 0, none⟩ (.string bh)).setCell ⟨rs, 1, none⟩ (.slice va' (parI sg l sg.length).length vc')).setCell ⟨rs, 2, none⟩ (.slice none 0 0)) := (((Upd.refl [rs] wr).set _ _ (by simp)).set _ _ (by simp)).set _ _ (by simp)
            have hnr : ∀ k, k ∈ ownB (.slice va' (parI sg l sg.length).length vc') → k ∉ [rs] := fun k hk hm => by
              rw [List.mem_singleton] at hm
              subst hm
              exact HB.out.sl.other (t := 30) (by decide) _ hk _ HRSW.out
            refine wp_abs (fun W => Blk W rs [.string bh, .slice va' (parI sg l sg.length).length vc', .slice none 0 0] 30 ∧ Sl W 40 2 (.slice va' (parI sg l sg.length).length vc') (parI sg l sg.length).length (pcells (parI sg l sg.length)) ∧ Upd [] w W) ⟨((HRSW.out.set 0 _).set 1 _).set 2 _, HB.out.sl.upd hset hnr, (HU1.out.trans HU.out (by simp)).trans hset (fun k hk hm => by rw [List.mem_singleton] at hm; have := HMB.out; omega)⟩ ?_
            clear hset hnr f0 f1 f2 c0 c1 c2 d0 d1 d2
            rintro w9 ⟨b9, s9, u9⟩
            have HF := Hd.mk (And.intro b9 (And.intro s9 u9))
            clear b9 s9 u9
            exact bodyPost_ret (results_cell_tmp _ _ _ 6 7 30 rs [.string bh, .slice va' (parI sg l sg.length).length vc', .slice none 0 0] 30 rfl rfl HF.out.1 (by kernel_rfl) (by kernel_rfl)) rfl (by
              rw [HM.out]
              exact ⟨_, _, _, _, _, _, _, rfl, ⟨_, _, by rw [HBH.out]; rfl, Sl.rdp HF.out.2.1, ⟨none, 0, rfl, fun h => absurd h (by simp)⟩⟩, HF.out.2.2⟩)
end Go.Proofs.YtiombjmkaejjfaaDoor
