/- Tries: With. -/
import Derived.Test.YtndlbkiogagnaaaGreatDoorV9
namespace Go.Proofs.YtndlbkiogagnaaaGreatDoor
set_option linter.unusedSimpArgs false
set_option linter.unusedVariables false
set_option linter.unnecessarySimpa false
open Go.RowKit BigFrame

theorem okSegs_nm : ∀ (l ns : List Bs), okSegs l ns = true → Nm (l.map absS)
  | [], _, _ => trivial
  | x :: r, ns, h => by
    rw [okSegs] at h
    simp only [List.map_cons]
    by_cases k0 : kindL x = 0
    · rw [if_pos k0] at h
      rw [abs0 k0]
      simp only [Bool.and_eq_true] at h
      exact okSegs_nm r ns h.2
    · rw [if_neg k0] at h
      simp only [Bool.and_eq_true] at h
      by_cases k1 : kindL x = 1
      · rw [abs1 k0 k1]
        exact okSegs_nm r _ h.2
      · rw [abs2 k0 k1]
        have k2 : kindL x = 2 := by have := kindL_le x; omega
        have h1 := h.1.1.1
        rw [k2] at h1
        have : r = [] := by simpa using h1
        subst this
        exact (rfl : ([] : List Sg) = [])
theorem patR_nm {p : Bs} (h : patR p = true) : Nm ((segsL p).map absS) ∧ (segsL p).length ≤ 8 ∧ ∀ x ∈ segsL p, x.length ≤ p.length := by
  cases p with
  | nil => simp [patR] at h
  | cons c r =>
    simp only [patR] at h
    by_cases hc : c = 47
    · subst hc
      rw [if_pos rfl] at h
      unfold segsL
      by_cases hr : r = []
      · subst hr
        rw [if_pos rfl]
        exact ⟨trivial, by simp, by simp⟩
      · rw [if_neg hr, Bool.and_eq_true] at h
        rw [if_neg (by simpa using hr)]
        refine ⟨okSegs_nm _ _ h.1, of_decide_eq_true h.2, fun x hx => ?_⟩
        have := (splitL_le 47 r).2 x hx
        simp; omega
    · rw [if_neg hc] at h; cases h
/-- A tree in memory: its nodes, how many routes. -/
def TrV (w : World) (v : Value) (n : T) (sz : Nat) : Prop :=
  (v = .pointer none ∧ n = .nil ∧ sz = 0) ∨ ∃ b rv, v = .pointer (some ⟨b, 0, none⟩) ∧ Blk w b [rv, .int .i64 sz] 128 ∧ NdV w (fun _ => False) n rv
theorem TrV.upd {w w' : World} {v : Value} {n : T} {sz : Nat} (h : TrV w v n sz) (hu : Upd [] w w') : TrV w' v n sz := by
  rcases h with h | ⟨b, rv, h1, h2, h3⟩
  · exact .inl h
  · exact .inr ⟨b, rv, h1, hu.blk h2 (by simp), h3.upd hu⟩
theorem Has.bd {n : T} {M : List Rt} (h : Has n M) : Bd M.length n := fun pat hp => by
  rw [h.at_ pat hp]
  exact List.length_filter_le _ _
theorem withT_snoc (n : T) (L : List Rt) (r : Rt) : withT n (L ++ [r]) = putT (withT n L) (segsL r.p) r := by
  unfold withT
  rw [List.foldl_append]
  rfl
/-- May it be a route of a tree? -/
def Rgt (r : Rt) : Prop := patR r.p = true ∧ r.p.length ≤ 800000
theorem flat_cells : ∀ (L : List Rt) (i j : Nat) (hi : i < L.length), j < 3 → (L.flatMap Rt.cells)[i * 3 + j]? = (L[i]).cells[j]?
  | [], _, _, hi, _ => by simp at hi
  | r :: L, 0, j, _, hj => by
    rw [List.flatMap_cons, List.getElem?_append_left (by simp [Rt.cells]; omega)]
    simp
  | r :: L, i + 1, j, hi, hj => by
    rw [List.flatMap_cons, List.getElem?_append_right (by simp [Rt.cells]; omega)]
    have := flat_cells L i j (by simpa using hi) hj
    simp only [List.getElem_cons_succ]
    rw [← this]
    congr 1
    simp [Rt.cells]
    omega
/-- What With leaves. -/
def WithQ (w : World) (n : T) (L : List Rt) (sz : Nat) (e : Ending) (w' : World) : Prop := ∃ b, e = .returned (.pointer (some ⟨b, 0, none⟩)) ∧ TrV w' (.pointer (some ⟨b, 0, none⟩)) (withT n L) sz ∧ Upd [] w w'
set_option maxRecDepth 100000 in
set_option maxHeartbeats 2000000 in
theorem with_ok (v lv : Value) (n : T) (M L : List Rt) (w : World) (ht : TrV w v n M.length) (hh : Has n M) (hL : Sl w 90 3 lv L.length (L.flatMap Rt.cells)) (hr : ∀ r ∈ L, Rgt r) (hz : M.length + L.length ≤ 800000) :
    Calls Tryz.prog 86 #[v, lv] w (WithQ w n L (M.length + L.length)) := by
  obtain ⟨la, lc, rfl⟩ := hL.form
  have HT := Hd.mk ht
  have HH := Hd.mk hh
  have HL := Hd.mk hL
  have HR := Hd.mk hr
  clear ht hh hL hr
  go_enter Tryz.func86, Tryz.ntmps86
  go_upto_region 2 with (fail)
  refine wp_abs (fun W => Blk W w.heap.size [.pointer none, .int .i64 0] 128 ∧ Upd [] w W) ⟨Blk.new w [.pointer none, .int .i64 0] _ _ rfl, (Upd.refl _ _).alloc _⟩ ?_
  have HOB := Hd.mk (Nat.le_refl w.heap.size)
  generalize hob : w.heap.size = ob at HOB ⊢
  rw [← hob] at HOB
  have HOB := Hd.mk (show w.heap.size ≤ ob by omega)
  clear hob
  rintro w1 ⟨b1, u1⟩
  have HW := Hd.mk (And.intro b1 u1)
  have c0 := b1.cell 0
  have c1 := b1.cell 1
  simp only [List.getElem?_cons_zero, List.getElem?_cons_succ] at c0 c1
  have f0 := b1.free 0
  have f1 := b1.free 1
  clear b1 u1
  obtain ⟨sz, hsz⟩ : ∃ sz, M.length = sz := ⟨_, rfl⟩
  rw [hsz] at HT hz ⊢
  have HSZ := Hd.mk hsz
  clear hsz
  rcases HT.out with ⟨rfl, hn, hs0⟩ | ⟨tb, rv, rfl, hb, hnd⟩
  · obtain ⟨rp, hrp⟩ : ∃ rp : Option Addr, none = rp := ⟨_, rfl⟩
    have HB := Hd.mk (show Blk w1 ob [.pointer rp, .int .i64 sz] 128 ∧ NdV w1 (fun k => k = ob) n (.pointer rp) ∧ Upd [] w w1 from ⟨by rw [← hrp, hs0]; exact HW.out.1, by rw [hn, ← hrp]; simp [NdV], HW.out.2⟩)
    clear hn hs0 hrp HW HT
    go_upto_region 4 with (fail)
    refine wp_abs (fun W => Blk W ob [.pointer rp, .int .i64 sz] 128 ∧ NdV W (fun k => k = ob) n (.pointer rp) ∧ Upd [] w W) HB.out ?_
    clear c0 c1 f0 f1 HB
    rintro w2 ⟨b1, n1, u1⟩
    have HB := Hd.mk (And.intro b1 (And.intro n1 u1))
    clear b1 n1 u1
    go_upto_region 5 with (fail)
    go_loopg [7, 8, 9, 21] L.length (fun g s7 s8 s9 ii wr => ∃ (i : Nat) (rq : Option Addr), g + i = L.length ∧ ii = .int .i64 i ∧ Hd (Blk wr ob [.pointer rq, .int .i64 ((sz + i : Nat) : Int)] 128 ∧ NdV wr (fun k => k = ob) (withT n (L.take i)) (.pointer rq) ∧ Has (withT n (L.take i)) (M ++ L.take i) ∧ Upd [] w wr))
    case atStart => exact ⟨0, rp, by omega, rfl, Hd.mk ⟨HB.out.1, HB.out.2.1, by simpa [withT] using HH.out, HB.out.2.2⟩⟩
    case round =>
      clear HB
      obtain ⟨i, rq, hg, rfl, HB⟩ := hrel
      have HG := Hd.mk hg
      clear hg
      by_cases hi : i < L.length
      · obtain ⟨b, o, c', hv, _, _, hcell⟩ := (HL.out.upd HB.out.2.2.2 (by simp)).some (by omega)
        simp only [Value.slice.injEq] at hv
        obtain ⟨rfl, _, rfl⟩ := hv
        have x0 := (hcell (i * 3 + 0) (by omega)).trans (flat_cells L i 0 hi (by omega))
        have x1 := (hcell (i * 3 + 1) (by omega)).trans (flat_cells L i 1 hi (by omega))
        have x2 := (hcell (i * 3 + 2) (by omega)).trans (flat_cells L i 2 hi (by omega))
        have hrg := HR.out _ (List.getElem_mem hi)
        have htk : L.take (i + 1) = L.take i ++ [L[i]] := List.take_succ_eq_append_getElem hi
        obtain ⟨r, hr⟩ : ∃ r, L[i] = r := ⟨_, rfl⟩
        rw [hr] at x0 x1 x2 hrg htk
        have HTK := Hd.mk htk
        have HRG := Hd.mk hrg
        simp only [Rt.cells, S, List.getElem?_cons_zero, List.getElem?_cons_succ, Nat.add_zero] at x0 x1 x2
        rw [← Nat.add_assoc] at x1 x2
        clear hcell hr htk hrg
        go_upto_region 7 with (fail)
        refine wp_abs (fun W => Blk W wr.heap.size r.cells 90 ∧ Blk W ob [.pointer rq, .int .i64 ((sz + i : Nat) : Int)] 128 ∧ NdV W (fun k => k = ob) (withT n (L.take i)) (.pointer rq) ∧ Upd [] w W) ⟨Blk.new wr r.cells _ _ rfl, HB.out.1.alloc _, HB.out.2.1.upd ((Upd.refl _ _).alloc _), HB.out.2.2.2.alloc _⟩ ?_
        have HHS := Hd.mk HB.out.2.2.1
        clear x0 x1 x2 HB
        generalize wr.heap.size = y
        rintro w3 ⟨by_, bo, nd, u3⟩
        have HB := Hd.mk (And.intro by_ (And.intro bo (And.intro nd u3)))
        have d0 := by_.cell 0
        have d1 := by_.cell 1
        have d2 := by_.cell 2
        simp only [Rt.cells, List.getElem?_cons_zero, List.getElem?_cons_succ] at d0 d1 d2
        clear by_ bo nd u3
        go_wp2_with fail
        refine (pattern_ok r.p w3 HRG.out.2).mono ?_
        rintro e w4 ⟨v4, rfl, hb4⟩
        rw [patS_segs HRG.out.1] at hb4
        rw [HRG.out.1]
        obtain ⟨va, vc, rfl⟩ := hb4.sl.form
        obtain ⟨hnm, hl8, hxz⟩ := patR_nm HRG.out.1
        have b5 := hb4.upd.blk HB.out.1 (by simp)
        have b6 := hb4.upd.blk HB.out.2.1 (by simp)
        have HB := Hd.mk (show NdV w4 (fun k => k = ob) (withT n (L.take i)) (.pointer rq) ∧ Upd [] w w4 ∧ Blk w4 ob [.pointer rq, .int .i64 ((sz + i : Nat) : Int)] 128 from ⟨HB.out.2.2.1.upd hb4.upd, HB.out.2.2.2.trans hb4.upd (by simp), b6⟩)
        have HV4 := Hd.mk hb4.sl
        have HNM := Hd.mk hnm
        have hbd := HHS.out.bd
        have hlm : (M ++ L.take i).length ≤ 800000 := by have := HSZ.out; have := List.length_take_le i L; rw [List.length_append]; omega
        have HCALL := Hd.mk (put_ok (M ++ L.take i).length (by omega) r (segsL r.p) (by omega) (fun x hx => by have := hxz x hx; have := HRG.out.2; omega) (fun k => k = ob) (withT n (L.take i)) (.pointer rq) (.slice va (segsL r.p).length vc) w4.drew (fun k hk => by rw [hk]; exact b6.lt) (HB.out.1.upd (Upd.refl [] _).drew) HHS.out.ok hbd (hb4.sl.upd (Upd.refl [] _).drew (by simp)))
        clear d0 d1 d2
        have d0 := b5.cell 0
        have d1 := b5.cell 1
        have d2 := b5.cell 2
        simp only [Rt.cells, List.getElem?_cons_zero, List.getElem?_cons_succ] at d0 d1 d2
        have e0 := b6.cell 0
        have e1 := b6.cell 1
        simp only [List.getElem?_cons_zero, List.getElem?_cons_succ] at e0 e1
        simp only [S] at d0 d1 d2
        have tok := HCALL
        clear hb4 hnm hl8 hxz b5 b6 hbd hlm
        go_upto_region 8 with (fail)
        go_region_law ((have _t := tok; refine step_func_ex rfl 122 #[.tmp 35, .tmp 36, .tmp 37] #[126, 22, 90] rfl #[.pointer rq, .slice va (segsL r.p).length vc, .agg r.cells.toArray] (by (go_simp; rfl)) (by go_simp) ?_; refine HCALL.out.mono ?_; rintro e w5 ⟨v5, he, hv5, u5⟩; obtain ⟨p5, rfl⟩ := hv5.form; refine ⟨_, he, ?_⟩; have U5 := Hd.mk (show Upd [] w4 w5 from ((Upd.refl [] w4).drew).trans u5 (by simp)); have b7 := U5.out.blk HB.out.2.2 (by simp); have y0 := b7.cell 0; have y1 := b7.cell 1; have g0 := b7.free 0; have g1 := b7.free 1; simp only [List.getElem?_cons_zero, List.getElem?_cons_succ] at y0 y1; have HV := Hd.mk (And.intro hv5 b7); clear tok _t he hv5 u5 b7))
        all_goals
          go_wp2_with fail
          go_roundg (gk - 1)
          case measure => have := HG.out; omega
          case rel =>
            refine ⟨i + 1, p5, by have := HG.out; omega, by go_num, Hd.mk ⟨Blk.as ((HV.out.2.set 0 (.pointer p5)).set 1 _) (by simp <;> omega), ?_, ?_, ((HB.out.2.1.trans U5.out (by simp)).set _ _ (by have := HOB.out; simp; omega)).set _ _ (by have := HOB.out; simp; omega)⟩⟩
            · rw [HTK.out, withT_snoc]
              exact HV.out.1.move (((Upd.refl [ob] _).set _ _ (by simp)).set _ _ (by simp)) (by simp) (fun _ h => .inl h)
            · rw [HTK.out, withT_snoc, ← List.append_assoc]
              exact HHS.out.put r HNM.out
      · obtain rfl : i = L.length := by have := HG.out; omega
        go_wp2_with fail
        go_ret
        refine ⟨ob, rfl, ?_, HB.out.2.2.2⟩
        have h1 := HB.out
        rw [List.take_length, ← HSZ.out] at h1
        exact .inr ⟨ob, _, rfl, h1.1, h1.2.1.move (Upd.refl [] _) (by simp) (fun _ h => h.elim)⟩
  · obtain ⟨rp, rfl⟩ := hnd.form
    have hb1 := HW.out.2.blk hb (by simp)
    have d0 := hb1.cell 0
    have d1 := hb1.cell 1
    simp only [List.getElem?_cons_zero, List.getElem?_cons_succ] at d0 d1
    have hne : ob ≠ tb := fun e => by have := hb.lt; have := HOB.out; omega
    have HB := Hd.mk (show Blk ((w1.setCell ⟨ob, 0, none⟩ (.pointer rp)).setCell ⟨ob, 1, none⟩ (.int .i64 sz)) ob [.pointer rp, .int .i64 sz] 128 ∧ NdV ((w1.setCell ⟨ob, 0, none⟩ (.pointer rp)).setCell ⟨ob, 1, none⟩ (.int .i64 sz)) (fun k => k = ob) n (.pointer rp) ∧ Upd [] w ((w1.setCell ⟨ob, 0, none⟩ (.pointer rp)).setCell ⟨ob, 1, none⟩ (.int .i64 sz)) from by
      have hu : Upd [] w ((w1.setCell ⟨ob, 0, none⟩ (.pointer rp)).setCell ⟨ob, 1, none⟩ (.int .i64 sz)) := (HW.out.2.set _ _ (by have := HOB.out; simp; omega)).set _ _ (by have := HOB.out; simp; omega)
      exact ⟨(HW.out.1.set 0 _).set 1 _, hnd.move hu (by simp) (fun k hk => by have := HOB.out; right; omega), hu⟩)
    clear hb hnd hb1 HT HW
    go_upto_region 4 with (fail)
    refine wp_abs (fun W => Blk W ob [.pointer rp, .int .i64 sz] 128 ∧ NdV W (fun k => k = ob) n (.pointer rp) ∧ Upd [] w W) HB.out ?_
    clear c0 c1 d0 d1 f0 f1 HB
    rintro w2 ⟨b1, n1, u1⟩
    have HB := Hd.mk (And.intro b1 (And.intro n1 u1))
    clear b1 n1 u1
    go_upto_region 5 with (fail)
    go_loopg [7, 8, 9, 21] L.length (fun g s7 s8 s9 ii wr => ∃ (i : Nat) (rq : Option Addr), g + i = L.length ∧ ii = .int .i64 i ∧ Hd (Blk wr ob [.pointer rq, .int .i64 ((sz + i : Nat) : Int)] 128 ∧ NdV wr (fun k => k = ob) (withT n (L.take i)) (.pointer rq) ∧ Has (withT n (L.take i)) (M ++ L.take i) ∧ Upd [] w wr))
    case atStart => exact ⟨0, rp, by omega, rfl, Hd.mk ⟨HB.out.1, HB.out.2.1, by simpa [withT] using HH.out, HB.out.2.2⟩⟩
    case round =>
      clear HB
      obtain ⟨i, rq, hg, rfl, HB⟩ := hrel
      have HG := Hd.mk hg
      clear hg
      by_cases hi : i < L.length
      · obtain ⟨b, o, c', hv, _, _, hcell⟩ := (HL.out.upd HB.out.2.2.2 (by simp)).some (by omega)
        simp only [Value.slice.injEq] at hv
        obtain ⟨rfl, _, rfl⟩ := hv
        have x0 := (hcell (i * 3 + 0) (by omega)).trans (flat_cells L i 0 hi (by omega))
        have x1 := (hcell (i * 3 + 1) (by omega)).trans (flat_cells L i 1 hi (by omega))
        have x2 := (hcell (i * 3 + 2) (by omega)).trans (flat_cells L i 2 hi (by omega))
        have hrg := HR.out _ (List.getElem_mem hi)
        have htk : L.take (i + 1) = L.take i ++ [L[i]] := List.take_succ_eq_append_getElem hi
        obtain ⟨r, hr⟩ : ∃ r, L[i] = r := ⟨_, rfl⟩
        rw [hr] at x0 x1 x2 hrg htk
        have HTK := Hd.mk htk
        have HRG := Hd.mk hrg
        simp only [Rt.cells, S, List.getElem?_cons_zero, List.getElem?_cons_succ, Nat.add_zero] at x0 x1 x2
        rw [← Nat.add_assoc] at x1 x2
        clear hcell hr htk hrg
        go_upto_region 7 with (fail)
        refine wp_abs (fun W => Blk W wr.heap.size r.cells 90 ∧ Blk W ob [.pointer rq, .int .i64 ((sz + i : Nat) : Int)] 128 ∧ NdV W (fun k => k = ob) (withT n (L.take i)) (.pointer rq) ∧ Upd [] w W) ⟨Blk.new wr r.cells _ _ rfl, HB.out.1.alloc _, HB.out.2.1.upd ((Upd.refl _ _).alloc _), HB.out.2.2.2.alloc _⟩ ?_
        have HHS := Hd.mk HB.out.2.2.1
        clear x0 x1 x2 HB
        generalize wr.heap.size = y
        rintro w3 ⟨by_, bo, nd, u3⟩
        have HB := Hd.mk (And.intro by_ (And.intro bo (And.intro nd u3)))
        have d0 := by_.cell 0
        have d1 := by_.cell 1
        have d2 := by_.cell 2
        simp only [Rt.cells, List.getElem?_cons_zero, List.getElem?_cons_succ] at d0 d1 d2
        clear by_ bo nd u3
        go_wp2_with fail
        refine (pattern_ok r.p w3 HRG.out.2).mono ?_
        rintro e w4 ⟨v4, rfl, hb4⟩
        rw [patS_segs HRG.out.1] at hb4
        rw [HRG.out.1]
        obtain ⟨va, vc, rfl⟩ := hb4.sl.form
        obtain ⟨hnm, hl8, hxz⟩ := patR_nm HRG.out.1
        have b5 := hb4.upd.blk HB.out.1 (by simp)
        have b6 := hb4.upd.blk HB.out.2.1 (by simp)
        have HB := Hd.mk (show NdV w4 (fun k => k = ob) (withT n (L.take i)) (.pointer rq) ∧ Upd [] w w4 ∧ Blk w4 ob [.pointer rq, .int .i64 ((sz + i : Nat) : Int)] 128 from ⟨HB.out.2.2.1.upd hb4.upd, HB.out.2.2.2.trans hb4.upd (by simp), b6⟩)
        have HV4 := Hd.mk hb4.sl
        have HNM := Hd.mk hnm
        have hbd := HHS.out.bd
        have hlm : (M ++ L.take i).length ≤ 800000 := by have := HSZ.out; have := List.length_take_le i L; rw [List.length_append]; omega
        have HCALL := Hd.mk (put_ok (M ++ L.take i).length (by omega) r (segsL r.p) (by omega) (fun x hx => by have := hxz x hx; have := HRG.out.2; omega) (fun k => k = ob) (withT n (L.take i)) (.pointer rq) (.slice va (segsL r.p).length vc) w4.drew (fun k hk => by rw [hk]; exact b6.lt) (HB.out.1.upd (Upd.refl [] _).drew) HHS.out.ok hbd (hb4.sl.upd (Upd.refl [] _).drew (by simp)))
        clear d0 d1 d2
        have d0 := b5.cell 0
        have d1 := b5.cell 1
        have d2 := b5.cell 2
        simp only [Rt.cells, List.getElem?_cons_zero, List.getElem?_cons_succ] at d0 d1 d2
        have e0 := b6.cell 0
        have e1 := b6.cell 1
        simp only [List.getElem?_cons_zero, List.getElem?_cons_succ] at e0 e1
        simp only [S] at d0 d1 d2
        have tok := HCALL
        clear hb4 hnm hl8 hxz b5 b6 hbd hlm
        go_upto_region 8 with (fail)
        go_region_law ((have _t := tok; refine step_func_ex rfl 122 #[.tmp 35, .tmp 36, .tmp 37] #[126, 22, 90] rfl #[.pointer rq, .slice va (segsL r.p).length vc, .agg r.cells.toArray] (by (go_simp; rfl)) (by go_simp) ?_; refine HCALL.out.mono ?_; rintro e w5 ⟨v5, he, hv5, u5⟩; obtain ⟨p5, rfl⟩ := hv5.form; refine ⟨_, he, ?_⟩; have U5 := Hd.mk (show Upd [] w4 w5 from ((Upd.refl [] w4).drew).trans u5 (by simp)); have b7 := U5.out.blk HB.out.2.2 (by simp); have y0 := b7.cell 0; have y1 := b7.cell 1; have g0 := b7.free 0; have g1 := b7.free 1; simp only [List.getElem?_cons_zero, List.getElem?_cons_succ] at y0 y1; have HV := Hd.mk (And.intro hv5 b7); clear tok _t he hv5 u5 b7))
        all_goals
          go_wp2_with fail
          go_roundg (gk - 1)
          case measure => have := HG.out; omega
          case rel =>
            refine ⟨i + 1, p5, by have := HG.out; omega, by go_num, Hd.mk ⟨Blk.as ((HV.out.2.set 0 (.pointer p5)).set 1 _) (by simp <;> omega), ?_, ?_, ((HB.out.2.1.trans U5.out (by simp)).set _ _ (by have := HOB.out; simp; omega)).set _ _ (by have := HOB.out; simp; omega)⟩⟩
            · rw [HTK.out, withT_snoc]
              exact HV.out.1.move (((Upd.refl [ob] _).set _ _ (by simp)).set _ _ (by simp)) (by simp) (fun _ h => .inl h)
            · rw [HTK.out, withT_snoc, ← List.append_assoc]
              exact HHS.out.put r HNM.out
      · obtain rfl : i = L.length := by have := HG.out; omega
        go_wp2_with fail
        go_ret
        refine ⟨ob, rfl, ?_, HB.out.2.2.2⟩
        have h1 := HB.out
        rw [List.take_length, ← HSZ.out] at h1
        exact .inr ⟨ob, _, rfl, h1.1, h1.2.1.move (Upd.refl [] _) (by simp) (fun _ h => h.elim)⟩
end Go.Proofs.YtndlbkiogagnaaaGreatDoor
