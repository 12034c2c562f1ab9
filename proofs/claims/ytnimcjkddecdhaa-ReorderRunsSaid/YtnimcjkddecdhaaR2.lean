/- Put, Ready, Take and New of a reorder buffer. -/
import Derived.Test.YtnimcjkddecdhaaR1
namespace Go.Proofs.Ytnimcjkddecdhaa
open Go.RowKit BigFrame

theorem IsB.slot {w : World} {p r n g o : Nat} {T : Nat → Option Rp} {X : List Nat} {c : List Value} (h : IsB w p r n g o T X c) {i : Nat} (h1 : o ≤ i) (h2 : i < g) (hn : T i = none) : c[i % n]? = some (.pointer none) := by
  have := h.few
  refine h.gone _ (Nat.mod_lt _ (by omega)) (fun j h3 h4 h5 => ?_)
  have : j = i := win_ne (o := o) (n := n) h3 h1 (by omega) (by omega) h5
  rw [this]; exact hn

set_option maxHeartbeats 400000 in
theorem ready_none (p r n g : Nat) (T : Nat → Option Rp) (X : List Nat) (c : List Value) (w : World) (hg : g ≤ 1000000) (h : IsB w p r n g g T X c) :
    Calls Try.prog 13 #[.pointer (some ⟨p, 0, none⟩)] w fun e w' => e = .returned (.bool false) ∧ ∃ k, w' = w.drewN k := by
  have HOP := Hd.mk (fun k => open_ok p r n g g T X c (w.drewN k) hg (h.upd ((Upd.refl [] w).drewN k) (by simp) (by simp) (by simp)))
  have h1 := h.head
  have c0 := h1.cell 0
  have c1 := h1.cell 1
  have c2 := h1.cell 2
  simp only [List.getElem?_cons_zero, List.getElem?_cons_succ] at c0 c1 c2
  clear h h1
  go_enter Try.func13, Try.ntmps13
  go_wp2
  refine wp_region_quiet_lit (by kernel_rfl) (by kernel_rfl) ?_
  repeat (go_big_quiet_step ((go_at_call 11; exact Calls.quiet_of (HOP.out _))))
  refine wpQuiet_nil ?_
  (intro _ hw'; obtain ⟨nq, hw''⟩ := hw'; subst hw'')
  go_wp2
  go_ret
  exact ⟨rfl, nq, rfl⟩

/-- Numbers are open: is the next one's answer there? -/
theorem ready_open (p r n g o : Nat) (T : Nat → Option Rp) (X : List Nat) (c : List Value) (w : World) (hg : g ≤ 1000000) (hn : n ≤ 8) (h : IsB w p r n g o T X c) (ho : o < g) :
    Calls Try.prog 13 #[.pointer (some ⟨p, 0, none⟩)] w fun e w' => e = .returned (.bool (T o).isSome) ∧ ∃ k, w' = w.drewN k := by
  have HOP := Hd.mk (fun k => open_ok p r n g o T X c (w.drewN k) hg (h.upd ((Upd.refl [] w).drewN k) (by simp) (by simp) (by simp)))
  have hfew := h.few
  have h1 := h.head
  have h2 := h.ring
  have c0 := h1.cell 0
  have c1 := h1.cell 1
  have c2 := h1.cell 2
  simp only [List.getElem?_cons_zero, List.getElem?_cons_succ] at c0 c1 c2
  have hd : ((n : Int) == 0) = false := by simp; omega
  have hgt : decide ((0 : Int) < (g : Int) - o) = true := by simp; omega
  have b1 : 0 ≤ (o : Int) % n := Int.emod_nonneg _ (by omega)
  have b2 : (o : Int) % n < n := Int.emod_lt_of_pos _ (by omega)
  have hs := h2.cell (o % n)
  cases hT : T o with
  | none =>
    rw [h.slot (Nat.le_refl _) ho hT] at hs
    clear h h1 h2 hT
    go_enter Try.func13, Try.ntmps13
    go_wp2
    refine wp_region_quiet_lit (by kernel_rfl) (by kernel_rfl) ?_
    repeat (go_big_quiet_step ((go_at_call 11; exact Calls.quiet_of (HOP.out _))))
    refine wpQuiet_nil ?_
    (intro _ hw'; obtain ⟨nq, hw''⟩ := hw'; subst hw'')
    go_wp2
    go_ret
    exact ⟨rfl, nq, rfl⟩
  | some x =>
    obtain ⟨b, h3, -⟩ := h.there o (Nat.le_refl _) ho x hT
    rw [h3] at hs
    clear h h1 h2 hT h3
    go_enter Try.func13, Try.ntmps13
    go_wp2
    refine wp_region_quiet_lit (by kernel_rfl) (by kernel_rfl) ?_
    repeat (go_big_quiet_step ((go_at_call 11; exact Calls.quiet_of (HOP.out _))))
    refine wpQuiet_nil ?_
    (intro _ hw'; obtain ⟨nq, hw''⟩ := hw'; subst hw'')
    go_wp2
    go_ret
    exact ⟨rfl, nq, rfl⟩

set_option maxHeartbeats 1000000 in
/-- A number that isn't open, or has its answer. -/
theorem put_no (p r n g o : Nat) (T : Nat → Option Rp) (X : List Nat) (c : List Value) (w : World) (i : Int) (x : Rp) (hg : g ≤ 1000000) (hn : n ≤ 8) (h : IsB w p r n g o T X c)
    (hi : i < o ∨ g ≤ i ∨ ∃ j : Nat, i = j ∧ o ≤ j ∧ j < g ∧ (T j).isSome) :
    Calls Try.prog 10 #[.pointer (some ⟨p, 0, none⟩), .int .i64 i, .agg x.cells.toArray] w fun e w' => e = .returned (.bool false) ∧ Upd [] w w' := by
  have h1 := h.head
  have h2 := h.ring
  have hp := h1.lt
  have hr := h2.lt
  have c0 := h1.cell 0
  have c1 := h1.cell 1
  have c2 := h1.cell 2
  simp only [List.getElem?_cons_zero, List.getElem?_cons_succ] at c0 c1 c2
  by_cases i1 : i < o
  · have e1 : decide (i < (o : Int)) = true := by simpa using i1
    clear h h1 h2 hi
    go_enter Try.func10, Try.ntmps10
    go_wp2
    refine wp_region_quiet_lit (by kernel_rfl) (by kernel_rfl) ?_
    repeat (go_big_quiet_step (fail))
    refine wpQuiet_nil ?_
    (intro _ hw'; obtain ⟨nq, hw''⟩ := hw'; subst hw'')
    go_wp2
    go_ret
    exact ⟨rfl, ((Upd.refl _ _).alloc _).drewN _⟩
  · have e1 : decide (i < (o : Int)) = false := by simpa using i1
    by_cases i2 : (g : Int) ≤ i
    · have e2 : decide ((g : Int) ≤ i) = true := by simpa using i2
      clear h h1 h2 hi
      go_enter Try.func10, Try.ntmps10
      go_wp2
      refine wp_region_quiet_lit (by kernel_rfl) (by kernel_rfl) ?_
      repeat (go_big_quiet_step (fail))
      refine wpQuiet_nil ?_
      (intro _ hw'; obtain ⟨nq, hw''⟩ := hw'; subst hw'')
      go_wp2
      go_ret
      exact ⟨rfl, ((Upd.refl _ _).alloc _).drewN _⟩
    · obtain ⟨j, rfl, j1, j2, j3⟩ : ∃ j : Nat, i = j ∧ o ≤ j ∧ j < g ∧ (T j).isSome := by
        rcases hi with h | h | h
        · exact absurd h i1
        · exact absurd h i2
        · exact h
      obtain ⟨y, hy⟩ := Option.isSome_iff_exists.1 j3
      obtain ⟨b, h3, -⟩ := h.there j j1 j2 y hy
      have e2 : decide (g ≤ j) = false := by simp; omega
      have e3 : decide (j < o) = false := by simp; omega
      clear e1
      have hs := h2.cell (j % n)
      rw [h3] at hs
      have hd : ((n : Int) == 0) = false := by have := h.few; simp; omega
      have b1 : 0 ≤ (j : Int) % n := Int.emod_nonneg _ (by have := h.few; omega)
      have b2 : (j : Int) % n < n := Int.emod_lt_of_pos _ (by have := h.few; omega)
      clear h h1 h2 hi hy j3 h3 i1 i2
      go_enter Try.func10, Try.ntmps10
      go_wp2
      refine wp_region_quiet_lit (by kernel_rfl) (by kernel_rfl) ?_
      repeat (go_big_quiet_step (fail))
      refine wpQuiet_nil ?_
      (intro _ hw'; obtain ⟨nq, hw''⟩ := hw'; subst hw'')
      go_wp2
      go_ret
      exact ⟨rfl, ((Upd.refl _ _).alloc _).drewN _⟩

set_option maxHeartbeats 1000000 in
theorem put_yes (p r n g o : Nat) (T : Nat → Option Rp) (X : List Nat) (c : List Value) (w : World) (i : Nat) (x : Rp) (hpr : p ≠ r) (hX : ∀ b ∈ X, b < w.heap.size) (hg : g ≤ 1000000) (hn : n ≤ 8) (h : IsB w p r n g o T X c)
    (j1 : o ≤ i) (j2 : i < g) (j3 : T i = none) :
    Calls Try.prog 10 #[.pointer (some ⟨p, 0, none⟩), .int .i64 i, .agg x.cells.toArray] w fun e w' =>
      e = .returned (.bool true) ∧ (∃ c', IsB w' p r n g o (fun j => if j = i then some x else T j) X c') ∧ Upd [r] w w' := by
  have h1 := h.head
  have h2 := h.ring
  have hp := h1.lt
  have hr := h2.lt
  have hfew := h.few
  have hlen := h.len
  have e1 : decide (i < o) = false := by simp; omega
  have e2 : decide (g ≤ i) = false := by simp; omega
  have h3 := h.slot j1 j2 j3
  have hd : ((n : Int) == 0) = false := by simp; omega
  have b1 : 0 ≤ (i : Int) % n := Int.emod_nonneg _ (by omega)
  have b2 : (i : Int) % n < n := Int.emod_lt_of_pos _ (by omega)
  have H := Hd.mk (And.intro h j3)
  clear h j3
  go_enter Try.func10, Try.ntmps10
  have hs := h2.cell (i % n)
  rw [h3] at hs
  have c0 := h1.cell 0
  have c1 := h1.cell 1
  have c2 := h1.cell 2
  simp only [List.getElem?_cons_zero, List.getElem?_cons_succ] at c0 c1 c2
  clear h3
  go_wp2
  refine wp_region_quiet_lit (by kernel_rfl) (by kernel_rfl) ?_
  repeat (go_big_quiet_step (fail))
  refine wpQuiet_nil ?_
  (intro _ hw'; obtain ⟨nq, hw''⟩ := hw'; subst hw'')
  refine wp_abs (fun W => Blk W p _ _ ∧ Blk W r _ _ ∧ Upd [] w W ∧ ∃ b, Blk W b x.cells 33 ∧ b = w.heap.size) ⟨(h1.alloc _).drewN _, (h2.alloc _).drewN _, ((Upd.refl _ _).alloc _).drewN _, _, (Blk.new _ _ _ _ rfl).drewN _, rfl⟩ ?_
  rintro w2 ⟨g1, g2, gu, b, gb, hb⟩
  clear c0 c1 c2 hs
  have HB := Hd.mk hb
  clear hb
  have c0 := g1.cell 0
  have c1 := g1.cell 1
  have c2 := g1.cell 2
  simp only [List.getElem?_cons_zero, List.getElem?_cons_succ] at c0 c1 c2
  have hs := g2.at (i % n) (by rw [hlen]; exact Nat.mod_lt _ (by omega))
  have fr := g2.free (i % n)
  go_wp2
  refine wp_quiet_tail 12 (by kernel_rfl) (by kernel_rfl) ?_
  simp only [List.take_succ_cons, List.take_zero, List.drop_succ_cons, List.drop_zero]
  repeat (go_big_quiet_step (fail))
  refine wpQuiet_nil ?_
  (intro _ hw'; obtain ⟨nq, hw''⟩ := hw'; subst hw'')
  go_wp2
  go_ret
  obtain ⟨h, j3⟩ := H.out
  have hm : i % n < n := Nat.mod_lt _ (by omega)
  have hbw := HB.out
  refine ⟨rfl, ⟨c.set (i % n) (.pointer (some ⟨b, 0, none⟩)), ⟨(g1.drewN _).set_ne _ _ hpr, ?_, by simpa using hlen, h.le, h.few, ?_, ?_, ?_⟩⟩, ((gu.mono (by simp)).drewN _).set _ _ (by simp)⟩
  · rw [hbw]; exact (g2.drewN _).set _ _
  · intro j k1 k2 y hy
    by_cases hj : j = i
    · subst hj
      simp only [if_true, Option.some.injEq] at hy
      subst hy
      refine ⟨b, by simp [hlen, hm], (gb.drewN _).set_ne _ _ (by simp; omega), fun e => ?_, by omega, by omega⟩
      have := hX b e
      omega
    · simp only [hj, if_false] at hy
      obtain ⟨b', k3, k4, k5, k6, k7⟩ := h.there j k1 k2 y hy
      have hne : i % n ≠ j % n := fun e => hj (win_ne (o := o) (n := n) k1 j1 (by omega) (by omega) e.symm)
      exact ⟨b', by rw [List.getElem?_set_ne hne]; exact k3, ((gu.blk k4 (by simp)).drewN _).set_ne _ _ k7, k5, k6, k7⟩
  · intro k hk hh
    by_cases hki : i % n = k
    · have := hh i j1 j2 hki
      simp at this
    · rw [List.getElem?_set_ne hki]
      refine h.gone k hk (fun j k1 k2 k3 => ?_)
      have := hh j k1 k2 k3
      by_cases hj : j = i
      · subst hj; exact absurd k3 hki
      · simpa [hj] using this
  · intro j hj
    have : j ≠ i := by omega
    simp only [this, if_false]
    exact h.new j hj
end Go.Proofs.Ytnimcjkddecdhaa
