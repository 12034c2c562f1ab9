/- Take and New of a reorder buffer; the law's fit. -/
import Derived.Test.YtnimcjkddecdhaaR2
import Derived.Test.YtnimcjkddecdhaaMm
import Derived.Deep.Cut
namespace Go.Proofs.Ytnimcjkddecdhaa
open Go.RowKit BigFrame

/-- What Take answers where the next answer isn't there. -/
def TakeNone (w : World) (e : Ending) (w' : World) : Prop := e = .returned (.tuple #[.agg Rp.zero.cells.toArray, .bool false]) ∧ Upd [] w w'

set_option maxHeartbeats 400000 in
theorem take_none (p r n g o : Nat) (T : Nat → Option Rp) (X : List Nat) (c : List Value) (w : World) (hg : g ≤ 1000000) (hn : n ≤ 8) (h : IsB w p r n g o T X c) (ho : g = o ∨ T o = none) :
    Calls Try.prog 9 #[.pointer (some ⟨p, 0, none⟩)] w (TakeNone w) := by
  have hready : Calls Try.prog 13 #[.pointer (some ⟨p, 0, none⟩)] (w.alloc (.cells Rp.zero.cells.toArray 33)) fun e w' => e = .returned (.bool false) ∧ ∃ k, w' = (w.alloc (.cells Rp.zero.cells.toArray 33)).drewN k := by
    have h' := h.upd ((Upd.refl [] w).alloc (.cells Rp.zero.cells.toArray 33)) (by simp) (by simp) (by simp)
    by_cases e : g = o
    · subst e
      exact ready_none p r n g T X c _ hg h'
    · have := ready_open p r n g o T X c _ hg hn h' (by have := h.le; omega)
      rw [show T o = none by rcases ho with h | h; exact absurd h e; exact h] at this
      exact this
  go_enter Try.func9, Try.ntmps9
  go_wp2_with fail
  refine hready.mono ?_
  rintro e w1 ⟨rfl, k, rfl⟩
  go_wp2_with (refine wpList_store_blk rfl rfl 33 (.tmp 2) (.tmp 8) rfl w.heap.size 0 Rp.zero.cells Rp.zero.cells 33 rfl rfl ((Blk.new w Rp.zero.cells 33 _ rfl).drewN _) (by kernel_rfl) (by simp) rfl ?_)
  intro w2 g2 u2
  go_wp2_with fail
  refine bodyPost_ret (results_cell_tmp _ _ _ 2 3 33 w.heap.size Rp.zero.cells 33 rfl rfl g2 (by kernel_rfl) (by kernel_rfl)) rfl ⟨rfl, ?_⟩
  exact (((Upd.refl _ _).alloc _).drewN _).trans u2 (by intro j hj h; simp at h; omega)

set_option maxHeartbeats 1000000 in
theorem take_some (p r n g o : Nat) (T : Nat → Option Rp) (X : List Nat) (c : List Value) (w : World) (x : Rp) (hpr : p ≠ r) (hg : g ≤ 1000000) (hn : n ≤ 8) (h : IsB w p r n g o T X c) (ho : o < g) (hT : T o = some x) :
    Calls Try.prog 9 #[.pointer (some ⟨p, 0, none⟩)] w fun e w' =>
      e = .returned (.tuple #[.agg x.cells.toArray, .bool true]) ∧ (∃ c', IsB w' p r n g (o + 1) T X c') ∧ Upd [p, r] w w' := by
  have hready : Calls Try.prog 13 #[.pointer (some ⟨p, 0, none⟩)] (w.alloc (.cells Rp.zero.cells.toArray 33)) fun e w' => e = .returned (.bool true) ∧ ∃ k, w' = (w.alloc (.cells Rp.zero.cells.toArray 33)).drewN k := by
    have h' := h.upd ((Upd.refl [] w).alloc (.cells Rp.zero.cells.toArray 33)) (by simp) (by simp) (by simp)
    have := ready_open p r n g o T X c _ hg hn h' ho
    rw [hT] at this
    exact this
  have h1 := h.head
  have h2 := h.ring
  have hp := h1.lt
  have hr := h2.lt
  have hfew := h.few
  have hlen := h.len
  obtain ⟨b, h3, h4, hbX, hbp, hbr⟩ := h.there o (Nat.le_refl _) ho x hT
  have hbl := h4.lt
  have hd : ((n : Int) == 0) = false := by simp; omega
  have hd2 : ¬ n = 0 := by omega
  have b1 : 0 ≤ (o : Int) % n := Int.emod_nonneg _ (by omega)
  have b2 : (o : Int) % n < n := Int.emod_lt_of_pos _ (by omega)
  have hs := h2.cell (o % n)
  rw [h3] at hs
  have H := Hd.mk (And.intro h hT)
  clear h hT h3
  go_enter Try.func9, Try.ntmps9
  go_wp2_with fail
  refine hready.mono ?_
  clear hready
  rintro e w1 ⟨rfl, k, rfl⟩
  have c0 := h1.cell 0
  have c1 := h1.cell 1
  have c2 := h1.cell 2
  simp only [List.getElem?_cons_zero, List.getElem?_cons_succ] at c0 c1 c2
  have m0 := h4.cell 0
  have m1 := h4.cell 1
  have m2 := h4.cell 2
  have m3 := h4.cell 3
  simp only [Rp.cells, List.getElem?_cons_zero, List.getElem?_cons_succ] at m0 m1 m2 m3
  go_wp2_with fail
  go_region
  refine wp_abs (fun W => Blk W p _ _ ∧ Blk W r _ _ ∧ Blk W b _ _ ∧ Upd [] w W ∧ Blk W w.heap.size Rp.zero.cells 33 ∧ Blk W (w.heap.size + 1) x.cells 33 ∧ w.heap.size + 1 < W.heap.size) ⟨((h1.alloc _).alloc _).drewN _, ((h2.alloc _).alloc _).drewN _, ((h4.alloc _).alloc _).drewN _, (((Upd.refl _ _).alloc _).alloc _).drewN _, ((Blk.new w Rp.zero.cells 33 _ rfl).alloc _).drewN _, (Blk.new (w.alloc (.cells Rp.zero.cells.toArray 33)) x.cells 33 _ (by simp)).drewN _, by simp⟩ ?_
  rintro w2 ⟨g1, g2, gb, gu, gz, gj, gs⟩
  clear c0 c1 c2 m0 m1 m2 m3 hs
  have c0 := g1.cell 0
  have c1 := g1.cell 1
  have c2 := g1.cell 2
  simp only [List.getElem?_cons_zero, List.getElem?_cons_succ] at c0 c1 c2
  have hs := g2.at (o % n) (by rw [hlen]; exact Nat.mod_lt _ (by omega))
  have fr := g2.free (o % n)
  have f2 := g1.free 2
  have m0 := gj.cell 0
  have m1 := gj.cell 1
  have m2 := gj.cell 2
  have m3 := gj.cell 3
  simp only [Rp.cells, List.getElem?_cons_zero, List.getElem?_cons_succ] at m0 m1 m2 m3
  go_wp2
  refine wp_quiet_tail 15 (by kernel_rfl) (by kernel_rfl) ?_
  simp only [List.take_succ_cons, List.take_zero, List.drop_succ_cons, List.drop_zero]
  repeat (go_big_quiet_step (fail))
  refine wpQuiet_nil ?_
  (intro _ hw'; obtain ⟨nq, hw''⟩ := hw'; subst hw'')
  go_upto_region 6 with (fail)
  refine wp_abs (fun W => Blk W p _ _ ∧ Blk W r _ _ ∧ Upd [p, r] w W ∧ (∀ b' ds, Blk w b' ds 33 → b' ≠ p → b' ≠ r → Blk W b' ds 33) ∧ Blk W w.heap.size _ _ ∧ Blk W (w.heap.size + 1) _ _) ⟨((g1.drewN _).set_ne _ _ hpr).set 2 _, ((g2.drewN _).set _ _).set_ne _ _ hpr.symm, (((gu.mono (T := [p, r]) (by simp)).drewN _).set _ _ (by simp)).set _ _ (by simp), fun b' ds k4 k6 k7 => (((gu.blk k4 (by simp)).drewN _).set_ne _ _ k7).set_ne _ _ k6, ((gz.drewN _).set_ne _ _ (by simp; omega)).set_ne _ _ (by simp; omega), ((gj.drewN _).set_ne _ _ (by simp; omega)).set_ne _ _ (by simp; omega)⟩ ?_
  rintro w4 ⟨l1, l2, lu, lb, lz, lj⟩
  clear c0 c1 c2 m0 m1 m2 m3 hs fr f2 gu gb g1 g2 gz gj
  have m0 := lj.cell 0
  have m1 := lj.cell 1
  have m2 := lj.cell 2
  have m3 := lj.cell 3
  simp only [Rp.cells, List.getElem?_cons_zero, List.getElem?_cons_succ] at m0 m1 m2 m3
  go_wp2_with (refine wpList_store_blk rfl rfl 33 (.tmp 2) (.tmp 49) rfl w.heap.size 0 x.cells Rp.zero.cells 33 rfl rfl lz (by kernel_rfl) (by simp [Rp.len]) rfl ?_)
  intro w5 o2 ou
  go_wp2_with fail
  obtain ⟨h, hT⟩ := H.out
  have hm : o % n < n := Nat.mod_lt _ (by omega)
  refine bodyPost_ret (results_cell_tmp _ _ _ 2 3 33 w.heap.size x.cells 33 rfl rfl (o2.as (by simp [putL, Rp.cells, Rp.zero])) (by kernel_rfl) (by kernel_rfl)) rfl ⟨rfl, ⟨c.set (o % n) (.pointer none), ⟨?_, ?_, by simpa using hlen, by omega, by omega, ?_, ?_, h.new⟩⟩, lu.trans ou (by intro j hj h; simp at h; omega)⟩
  · exact (ou.blk l1 (by simp; omega)).as (by simp)
  · exact ou.blk l2 (by simp; omega)
  · intro i k1 k2 y hy
    obtain ⟨b', k3, k4, k5, k6, k7⟩ := h.there i (by omega) k2 y hy
    have hne : o % n ≠ i % n := fun e => by
      have := win_ne (o := o) (n := n) (Nat.le_refl _) (by omega : o ≤ i) (by omega) (by omega) e
      omega
    exact ⟨b', by rw [List.getElem?_set_ne hne]; exact k3, ou.blk (lb b' _ k4 k6 k7) (by have := k4.lt; simp; omega), k5, k6, k7⟩
  · intro k hk hh
    by_cases hki : o % n = k
    · subst hki; simp [hlen, hm]
    · rw [List.getElem?_set_ne hki]
      refine h.gone k hk (fun i k1 k2 k3 => ?_)
      by_cases hi : i = o
      · subst hi; exact absurd k3 hki
      · exact hh i (by omega) k2 k3

/-- What New leaves. -/
def NewB (w : World) (n : Nat) (X : List Nat) (e : Ending) (w' : World) : Prop :=
  ∃ p r c, e = .returned (.pointer (some ⟨p, 0, none⟩)) ∧ p ≠ r ∧ w.heap.size ≤ p ∧ w.heap.size ≤ r ∧ IsB w' p r n 0 0 (fun _ => none) X c ∧ Upd [] w w'

theorem new_fin (w W : World) (n : Nat) (X : List Nat) (hW : W = ((w.alloc (.cells (madeCells #[.pointer none] n) 46)).alloc (.cells #[.slice (some ⟨w.heap.size, 0, none⟩) n n, .int .i64 0, .int .i64 0] 45))) :
    NewB w n X (.returned (.pointer (some ⟨w.heap.size + 1, 0, none⟩))) W := by
  subst hW
  refine ⟨w.heap.size + 1, w.heap.size, (madeCells #[.pointer none] n).toList, rfl, by omega, by omega, Nat.le_refl _, ⟨?_, ?_, by simp [size_madeCells], by omega, by omega, by intro i h1 h2; omega, ?_, by simp⟩, ((Upd.refl _ _).alloc _).alloc _⟩
  · exact Blk.new (w.alloc _) [.slice (some ⟨w.heap.size, 0, none⟩) n n, .int .i64 0, .int .i64 0] 45 _ (by simp)
  · exact (show Blk (w.alloc (.cells (madeCells #[.pointer none] n) 46)) w.heap.size _ _ from Blk.new w (madeCells #[.pointer none] n).toList 46 _ rfl).alloc _
  · intro k hk _
    simp [madeCells, hk, Nat.mod_one]

set_option maxRecDepth 100000 in
set_option maxHeartbeats 400000 in
theorem new_ok (m : Int) (n : Nat) (X : List Nat) (w : World) (hn : (n : Int) = min (max m 1) 8) :
    Calls Try.prog 7 #[.int .i64 m] w (NewB w n X) := by
  have hmk := run_make_cells (P := Try.prog) 43 46 (.pointer none) 1 8 (by kernel_rfl) (by kernel_rfl) (by omega) n w (by omega) (by omega)
  simp only [Int.toNat_natCast, Nat.mul_one, Value.cells] at hmk
  have n1 : n ≤ 8 := by omega
  replace hn := hn.symm
  go_enter Try.func7, Try.ntmps7
  go_wp2_with (first | (refine wpList_max rfl (.tmp 3) (.const (.int .i64 1)) _ rfl m 1 rfl rfl ?_; simp only [Act.put, List.setIfInBounds_toArray, List.set_cons_succ, List.set_cons_zero]) | (refine wpList_min rfl (.tmp 4) (.const (.int .i64 8)) _ rfl (max m 1) 8 rfl rfl ?_; simp only [hn]; simp only [Act.put, List.setIfInBounds_toArray, List.set_cons_succ, List.set_cons_zero]))
  go_ret
  exact new_fin w _ n X rfl
end Go.Proofs.Ytnimcjkddecdhaa
