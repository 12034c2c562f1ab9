/- Tables: Check. -/
import Derived.Test.YtndlbkiogagnaaaGreatDoorV20
namespace Go.Proofs.YtndlbkiogagnaaaGreatDoor
set_option linter.unusedSimpArgs false
set_option linter.unusedVariables false
set_option linter.unnecessarySimpa false
open Go.RowKit BigFrame

/-- A route's method and shape. -/
def keyR (r : Rt) : Bs × Bs := (r.m, shapeL (patS r.p))
def dupB : List Rt → List (Bs × Bs) → Bool
  | [], _ => false
  | r :: L, ks => decide (keyR r ∈ ks) || dupB L (keyR r :: ks)
/-- What Check tells. -/
def chk (L : List Rt) : Nat := if L.all rgtB = false then 1 else if 24 < L.length then 2 else if dupB L [] = true then 3 else 0
/-- A map whose keys are these. -/
def MFs (w : World) (mb : Nat) (ks : List (Bs × Bs)) : Prop := ∃ L, Mp w mb fk L ∧ ∀ k : ByteArray × ByteArray, get L k = if (k.1.data.toList, k.2.data.toList) ∈ ks then some (.bool true) else none
theorem MFs.upd {w w' : World} {mb : Nat} {ks : List (Bs × Bs)} {T : List Nat} (h : MFs w mb ks) (hu : Upd T w w') (hm : mb ∉ T) : MFs w' mb ks := by
  obtain ⟨L, h1, h2⟩ := h
  exact ⟨L, h1.upd hu hm, h2⟩
theorem MFs.look {w : World} {mb : Nat} {ks : List (Bs × Bs)} (h : MFs w mb ks) (a b : ByteArray) : (Instr.lookup 146 (.map (some mb)) (.agg #[.string a, .string b]) false).run Tryz.prog w = .ok (.bool (decide ((a.data.toList, b.data.toList) ∈ ks))) w := by
  obtain ⟨L, hL, hg⟩ := h
  have := run_lookup_mp (P := Tryz.prog) keyLaw_field 146 Tryz.underlying146 (.bool false) (fun W => by kernel_rfl) hL (a, b) false
  unfold fk at this
  rw [this]
  have hg2 := hg (a, b)
  rw [hg2]
  by_cases e : (a.data.toList, b.data.toList) ∈ ks
  · simp [e]
  · simp [e]
theorem MFs.put {w : World} {mb : Nat} {ks : List (Bs × Bs)} (h : MFs w mb ks) (a b : ByteArray) : ∃ w', (Instr.mapUpdate 146 (.map (some mb)) (.agg #[.string a, .string b]) (.bool true)).run Tryz.prog w = .ok () w' ∧ MFs w' mb ((a.data.toList, b.data.toList) :: ks) ∧ Upd [mb] w w' := by
  obtain ⟨L, hL, hg⟩ := h
  obtain ⟨c, w', hr, h3, h4⟩ := run_update_mp (P := Tryz.prog) keyLaw_field 146 Tryz.underlying146 hL (a, b) (.bool true)
  refine ⟨w', hr, ⟨_, h3, fun k' => ?_⟩, h4⟩
  rw [get_put, hg]
  by_cases e : k' = (a, b)
  · subst e; simp
  · have e' : ¬ (k'.1.data.toList, k'.2.data.toList) = (a.data.toList, b.data.toList) := fun q => e (by
      obtain ⟨c, d⟩ := k'
      simp only [Prod.mk.injEq] at q ⊢
      exact ⟨toList_inj q.1, toList_inj q.2⟩)
    rw [if_neg e]
    simp only [List.mem_cons, e', false_or]
theorem all_take {L : List Rt} {k : Nat} (hk : k < L.length) {x : Rt} (hx : L[k] = x) : (L.take (k + 1)).all rgtB = ((L.take k).all rgtB && rgtB x) := by
  rw [List.take_succ_eq_append_getElem hk, hx]; simp
theorem all_no {L : List Rt} {k : Nat} (hk : k < L.length) {x : Rt} (hx : L[k] = x) (h : rgtB x = false) : L.all rgtB = false := by
  rw [List.all_eq_false]
  exact ⟨x, by rw [← hx]; exact List.getElem_mem hk, by simp [h]⟩
theorem splitL_sum (c : UInt8) : ∀ (l : Bs), sumL (splitL c l) = l.length + 1
  | [] => by simp [splitL, sumL]
  | a :: r => by
    have ih := splitL_sum c r
    rw [splitL_cons]
    split
    · simp only [sumL, List.map_cons, List.sum_cons, List.length_cons, List.length_nil] at ih ⊢
      omega
    · cases hs : splitL c r with
      | nil => exact absurd hs (splitL_ne c r)
      | cons b t =>
        rw [hs] at ih
        simp only [glue, sumL, List.map_cons, List.sum_cons, List.length_cons, List.length_append, List.length_nil] at ih ⊢
        omega
theorem patS_sum (p : Bs) : sumL (patS p) ≤ p.length + 1 := by
  cases p with
  | nil => simp [patS, sumL]
  | cons c r =>
    have := splitL_sum 47 r
    simp only [patS]
    split
    · split
      · simp [sumL]
      · split
        · rw [this]; simp
        · simp [sumL]
    · simp [sumL]
set_option maxRecDepth 100000 in
set_option maxHeartbeats 4000000 in
theorem check_ok (L : List Rt) (lv : Value) (w : World) (hT : HTab w) (hl : Sl w 90 3 lv L.length (L.flatMap Rt.cells)) (hz : L.length ≤ 900000) (hr : ∀ r ∈ L, r.p.length ≤ 800000 ∧ r.m.length ≤ 800000) :
    Calls Tryz.prog 41 #[lv] w fun e w' => e = .returned (.int .i64 (chk L)) ∧ Upd [] w w' := by
  obtain ⟨la, lc, rfl⟩ := hl.form
  have HSL := Hd.mk hl
  have HT := Hd.mk hT
  have HR := Hd.mk hr
  have hmm := @run_makeMap Tryz.prog
  clear hl hT hr
  go_enter Tryz.func41, Tryz.ntmps41
  go_upto_region 2 with (fail)
  clear hmm
  refine wp_abs (fun W => MFs W w.heap.size [] ∧ Upd [] w W) ⟨⟨[], Mp.new w _, fun k => rfl⟩, (Upd.refl _ _).alloc _⟩ ?_
  have HMB := Hd.mk (show w.heap.size ≤ w.heap.size from Nat.le_refl _)
  generalize hmb : w.heap.size = mb at HMB ⊢
  have HMB := Hd.mk hmb
  clear hmb
  rintro w1 ⟨m1, u1⟩
  have HW := Hd.mk (And.intro m1 u1)
  have HMT := Hd.mk (show mb < w1.heap.size by obtain ⟨L', h1, _⟩ := m1; exact h1.lt)
  clear m1 u1
  go_wp2_with fail
  go_loopg [5, 14] L.length (fun g s5 ii wr => ∃ k : Nat, g + k = L.length ∧ ii = .int .i64 k ∧ Hd ((L.take k).all rgtB = true ∧ Upd [] w1 wr))
  case atStart => exact ⟨0, by omega, rfl, Hd.mk ⟨rfl, Upd.refl _ _⟩⟩
  case round =>
    obtain ⟨k, hg, rfl, HS⟩ := hrel
    have HG := Hd.mk hg
    clear hg
    by_cases hk : k < L.length
    · obtain ⟨b, o, mc', hv, _, _, hcell⟩ := (HSL.out.upd (HW.out.2.trans HS.out.2 (by simp)) (by simp)).some (by omega)
      simp only [Value.slice.injEq] at hv
      obtain ⟨rfl, _, rfl⟩ := hv
      have x0 := (hcell (k * 3 + 0) (by omega)).trans (flat_cells L k 0 hk (by omega))
      have x1 := (hcell (k * 3 + 1) (by omega)).trans (flat_cells L k 1 hk (by omega))
      have x2 := (hcell (k * 3 + 2) (by omega)).trans (flat_cells L k 2 hk (by omega))
      have hrr := HR.out _ (List.getElem_mem hk)
      obtain ⟨x, hx⟩ : ∃ x, L[k] = x := ⟨_, rfl⟩
      have HTK := Hd.mk (all_take hk hx)
      have HNO := Hd.mk (all_no hk hx)
      rw [hx] at x0 x1 x2 hrr
      simp only [Rt.cells, S, List.getElem?_cons_zero, List.getElem?_cons_succ, Nat.add_zero] at x0 x1 x2
      rw [← Nat.add_assoc] at x1 x2
      have HRO := Hd.mk (show ∀ W, Upd [] w1 W → Calls Tryz.prog 74 #[.agg #[S x.m, S x.p, S x.h]] W fun e w' => e = .returned (.bool (rgtB x)) ∧ Upd [] W w' from fun W hu => right_ok x W (HT.out.upd (HW.out.2.trans hu (by simp))) hrr.1 hrr.2)
      clear hcell hx hrr
      go_upto_region 5 with (fail)
      refine wp_abs (fun W => Blk W wr.heap.size x.cells 90 ∧ Upd [] w1 W) ⟨Blk.new wr x.cells _ _ rfl, HS.out.2.alloc _⟩ ?_
      have HF0 := Hd.mk HS.out.1
      clear x0 x1 x2 HS
      generalize wr.heap.size = y
      rintro w3 ⟨by_, u3⟩
      have HU := Hd.mk u3
      have d0 := by_.cell 0
      have d1 := by_.cell 1
      have d2 := by_.cell 2
      simp only [Rt.cells, List.getElem?_cons_zero, List.getElem?_cons_succ] at d0 d1 d2
      clear by_ u3
      go_wp2_with fail
      refine (HRO.out w3 HU.out).mono ?_
      rintro e w4 ⟨rfl, u4⟩
      have HU4 := Hd.mk (HU.out.trans u4 (by simp))
      clear u4 d0 d1 d2
      cases hgx : rgtB x with
      | true =>
        have HTK := Hd.mk (show (L.take (k + 1)).all rgtB = true by rw [HTK.out, HF0.out, hgx]; rfl)
        clear hgx
        go_wp2_with fail
        go_roundg (gk - 1)
        case measure => have := HG.out; omega
        case rel => exact ⟨k + 1, by have := HG.out; omega, by go_num, Hd.mk ⟨HTK.out, HU4.out⟩⟩
      | false =>
        have HC := Hd.mk (show chk L = 1 by unfold chk; rw [if_pos (HNO.out hgx)])
        clear hgx
        go_wp2_with fail
        go_ret
        exact ⟨by rw [HC.out]; rfl, HW.out.2.trans HU4.out (by simp)⟩
    · obtain rfl : k = L.length := by have := HG.out; omega
      have h1 := HS.out.1
      rw [List.take_length] at h1
      have HAL := Hd.mk h1
      have HU1 := Hd.mk (HW.out.2.trans HS.out.2 (by simp))
      have HM1 := Hd.mk (HW.out.1.upd HS.out.2 (by simp))
      have HMT1 := Hd.mk (show mb < wr.heap.size from Nat.lt_of_lt_of_le HMT.out HS.out.2.size)
      clear h1 HS HW HMT
      go_upto_region 8 with (fail)
      generalize wr = w2 at HU1 HM1 HMT1 ⊢
      by_cases h24 : 24 < L.length
      · have HC := Hd.mk (show chk L = 2 by unfold chk; rw [HAL.out, if_neg (by simp), if_pos h24])
        have d0 : decide ((24 : Int) < L.length) = true := decide_eq_true (by omega)
        go_wp2_with fail
        go_ret
        exact ⟨by rw [HC.out]; rfl, HU1.out⟩
      · have d0 : decide ((24 : Int) < L.length) = false := decide_eq_false (by omega)
        have HC := Hd.mk (show chk L = if dupB L [] = true then 3 else 0 by unfold chk; rw [HAL.out, if_neg (by simp), if_neg h24])
        go_upto_region 11 with (fail)
        go_loopg [7, 8, 9, 10, 27] L.length (fun g s7 s8 s9 s10 ii wr => ∃ k : Nat, g + k = L.length ∧ ii = .int .i64 k ∧ Hd (∃ ks, MFs wr mb ks ∧ Upd [] w wr ∧ mb < wr.heap.size ∧ dupB (L.drop k) ks = dupB L []))
        case atStart => exact ⟨0, by omega, rfl, Hd.mk ⟨[], HM1.out, HU1.out, HMT1.out, rfl⟩⟩
        case round =>
          clear HU1 HM1 HMT1
          obtain ⟨k, hg, rfl, HS⟩ := hrel
          have HG := Hd.mk hg
          clear hg
          by_cases hk : k < L.length
          · obtain ⟨ks, hmf, hur, hmz, hdp⟩ := HS.out
            obtain ⟨b, o, mc', hv, _, _, hcell⟩ := (HSL.out.upd hur (by simp)).some (by omega)
            simp only [Value.slice.injEq] at hv
            obtain ⟨rfl, _, rfl⟩ := hv
            have x0 := (hcell (k * 3 + 0) (by omega)).trans (flat_cells L k 0 hk (by omega))
            have x1 := (hcell (k * 3 + 1) (by omega)).trans (flat_cells L k 1 hk (by omega))
            have x2 := (hcell (k * 3 + 2) (by omega)).trans (flat_cells L k 2 hk (by omega))
            have hrr := HR.out _ (List.getElem_mem hk)
            have hdr : L.drop k = L[k] :: L.drop (k + 1) := List.drop_eq_getElem_cons hk
            obtain ⟨x, hx⟩ : ∃ x, L[k] = x := ⟨_, rfl⟩
            rw [hx] at x0 x1 x2 hrr hdr
            rw [hdr] at hdp
            simp only [Rt.cells, S, List.getElem?_cons_zero, List.getElem?_cons_succ, Nat.add_zero] at x0 x1 x2
            rw [← Nat.add_assoc] at x1 x2
            have HRR := Hd.mk hrr
            have HDP := Hd.mk (show (decide (keyR x ∈ ks) || dupB (L.drop (k + 1)) (keyR x :: ks)) = dupB L [] from hdp)
            clear hcell hx hrr hdr hdp
            go_upto_region 13 with (fail)
            refine wp_abs (fun W => Blk W wr.heap.size x.cells 90 ∧ MFs W mb ks ∧ Upd [] w W) ⟨Blk.new wr x.cells _ _ rfl, hmf.upd ((Upd.refl [] wr).alloc _) (by simp), hur.alloc _⟩ ?_
            have HMT := Hd.mk hmz
            have HMY := Hd.mk (show mb < wr.heap.size from hmz)
            clear x0 x1 x2 HS hmf hur hmz
            generalize wr.heap.size = y at HMY HMT ⊢
            rintro w3 ⟨by_, m3, u3⟩
            have HW3 := Hd.mk (And.intro by_ (And.intro m3 u3))
            have HPT := Hd.mk (pattern_ok x.p w3 HRR.out.1)
            have d0 := by_.cell 0
            have d1 := by_.cell 1
            have d2 := by_.cell 2
            simp only [Rt.cells, List.getElem?_cons_zero, List.getElem?_cons_succ] at d0 d1 d2
            clear by_ u3 m3
            go_wp2_with fail
            refine HPT.out.mono ?_
            rintro e w4 ⟨pv, rfl, hpv⟩
            have hb4 := hpv.upd.blk HW3.out.1 (by simp)
            have HF := Hd.mk (And.intro hb4 (And.intro (HW3.out.2.1.upd hpv.upd (by simp)) (HW3.out.2.2.trans hpv.upd (by simp))))
            have HPV := Hd.mk hpv.sl
            have HPS := Hd.mk (show sumL (patS x.p) ≤ 1000000 by have := patS_sum x.p; have := HRR.out.1; omega)
            obtain ⟨pa, pc, rfl⟩ := hpv.sl.form
            clear hpv hb4 d0 d1 d2
            obtain ⟨xm, hxm⟩ : ∃ xm : ByteArray, (⟨x.m.toArray⟩ : ByteArray) = xm := ⟨_, rfl⟩
            have HXM := Hd.mk (show xm.data.toList = x.m by rw [← hxm])
            obtain ⟨xs, hxs⟩ : ∃ xs : ByteArray, (⟨(shapeL (patS x.p)).toArray⟩ : ByteArray) = xs := ⟨_, rfl⟩
            have HXS := Hd.mk (show xs.data.toList = shapeL (patS x.p) by rw [← hxs])
            have HC0 := Hd.mk (show ∀ W, Upd [] w4 W → W.cell? ⟨y, 0, none⟩ = some (.string xm) from fun W h => by
              have h1 := (h.blk HF.out.1 (by simp)).cell 0
              simp only [Rt.cells, S, List.getElem?_cons_zero] at h1
              rw [hxm] at h1
              exact h1)
            have c0 := HC0.out w4 (Upd.refl _ _)
            have c0a := HC0.out (w4.alloc (.cells #[.string ⟨#[]⟩, .string ⟨#[]⟩] 62)) ((Upd.refl _ _).alloc _)
            have HCALL := Hd.mk (show ∀ W, Upd [] w4 W → Calls Tryz.prog 76 #[.slice pa (patS x.p).length pc] W fun e w'' => e = .returned (.string xs) ∧ Upd [] W w'' from fun W h => (shape_ok (patS x.p) _ W (HPV.out.upd h (by simp)) HPS.out).mono fun e w' h2 => ⟨by rw [h2.1, ← hxs]; rfl, h2.2⟩)
            clear hxm hxs
            go_upto_region 14 with (fail)
            have tok := HCALL
            go_region_law ((have _t := tok; refine step_func rfl 76 #[.tmp 39] #[22] rfl #[.slice pa (patS x.p).length pc] (by go_simp) (by go_simp) (.string xs) ?_; refine (Calls.mono (HCALL.out _ ?hup) ?_); (case hup => repeat (first | exact Upd.refl _ _ | with_reducible apply Upd.drewN | with_reducible apply Upd.drew | with_reducible apply Upd.alloc | (refine Upd.set ?_ _ _ (by simp)) | (refine Upd.row ?_ _ _ (by simp)))); rintro e w5 ⟨he, u5⟩; refine ⟨he, ?_⟩; have HU5 := Hd.mk (show Upd [] w4 w5 from Upd.trans (by repeat (first | exact Upd.refl _ _ | with_reducible apply Upd.drewN | with_reducible apply Upd.drew | with_reducible apply Upd.alloc | (refine Upd.set ?_ _ _ (by simp)) | (refine Upd.row ?_ _ _ (by simp)))) u5 (by simp)); have c0' := HC0.out w5 HU5.out; have c0b := HC0.out (w5.alloc (.cells #[.string ⟨#[]⟩, .string ⟨#[]⟩] 62)) (HU5.out.alloc _); (try (have hal : Blk w5 w4.heap.size [.string ⟨#[]⟩, .string ⟨#[]⟩] 62 := u5.blk (Blk.new w4.drew [.string ⟨#[]⟩, .string ⟨#[]⟩] _ _ rfl) (by simp); have e0 := hal.cell 0; have e1 := hal.cell 1; have f0 := hal.free 0; have f1 := hal.free 1; simp only [List.getElem?_cons_zero, List.getElem?_cons_succ] at e0 e1; have HAL9 := Hd.mk hal; clear hal)); clear tok _t he u5))
            all_goals
              first
              | refine wp_abs (fun W => Blk W w5.heap.size [.string xm, .string xs] 62 ∧ MFs W mb ks ∧ Upd [] w4 W) ⟨Blk.new w5 [.string xm, .string xs] _ _ rfl, HF.out.2.1.upd (HU5.out.alloc _) (by simp), HU5.out.alloc _⟩ ?_
                generalize w5.heap.size = nb
              | have hset : Upd [] w4 ((w5.setCell ⟨w4.heap.size, 0, none⟩ (.string xm)).setCell ⟨w4.heap.size, 1, none⟩ (.string xs)) := HU5.out.trans (((Upd.refl [w4.heap.size] w5).set _ _ (by simp)).set _ _ (by simp)) (fun k hk e => by rw [List.mem_singleton] at e; omega)
                refine wp_abs (fun W => Blk W w4.heap.size [.string xm, .string xs] 62 ∧ MFs W mb ks ∧ Upd [] w4 W) ⟨(HAL9.out.set 0 _).set 1 _, HF.out.2.1.upd hset (by simp), hset⟩ ?_
                generalize w4.heap.size = nb
              rintro w6 ⟨nb_, m6, u6⟩
              have HW6 := Hd.mk (And.intro m6 (HF.out.2.2.trans u6 (by simp)))
              have lk := m6.look xm xs
              rw [HXM.out, HXS.out] at lk
              have d0 := nb_.cell 0
              have d1 := nb_.cell 1
              simp only [List.getElem?_cons_zero, List.getElem?_cons_succ] at d0 d1
              obtain ⟨w7, hup, m7, u7⟩ := m6.put xm xs
              have HP7 := Hd.mk (And.intro m7 u7)
              have HMZ6 := Hd.mk (show mb < w6.heap.size from Nat.lt_of_lt_of_le (Nat.lt_trans HMY.out HF.out.1.lt) u6.size)
              clear nb_ m6 u6 m7 u7 c0' c0b c0 c0a
              by_cases hin : keyR x ∈ ks
              · rw [show decide ((x.m, shapeL (patS x.p)) ∈ ks) = true from decide_eq_true hin] at lk
                have HC3 := Hd.mk (show chk L = 3 by rw [HC.out, ← HDP.out, decide_eq_true hin]; rfl)
                clear hin hup
                go_wp2_with fail
                go_ret
                exact ⟨by rw [HC3.out]; rfl, HW6.out.2⟩
              · rw [show decide ((x.m, shapeL (patS x.p)) ∈ ks) = false from decide_eq_false hin] at lk
                have HDP3 := Hd.mk (show dupB (L.drop (k + 1)) (keyR x :: ks) = dupB L [] by rw [← HDP.out, decide_eq_false hin, Bool.false_or])
                clear hin
                go_wp2_with fail
                go_roundg (gk - 1)
                case measure => have := HG.out; omega
                case rel => exact ⟨k + 1, by have := HG.out; omega, by go_num, Hd.mk ⟨_, HP7.out.1, HW6.out.2.trans HP7.out.2 (fun j hj e => by rw [List.mem_singleton] at e; subst e; have := HMB.out; omega), Nat.lt_of_lt_of_le HMZ6.out HP7.out.2.size, by rw [HXM.out, HXS.out]; exact HDP3.out⟩⟩
          · obtain rfl : k = L.length := by have := HG.out; omega
            obtain ⟨ks, -, hur, -, hdp⟩ := HS.out
            rw [List.drop_length] at hdp
            have HC := Hd.mk (show chk L = 0 by rw [HC.out, ← hdp]; rfl)
            have HU := Hd.mk hur
            clear hur hdp HS
            go_wp2_with fail
            go_ret
            exact ⟨by rw [HC.out]; rfl, HU.out⟩
end Go.Proofs.YtndlbkiogagnaaaGreatDoor
