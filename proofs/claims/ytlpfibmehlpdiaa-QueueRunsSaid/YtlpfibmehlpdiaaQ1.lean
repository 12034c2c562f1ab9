/- A queue in memory: what New, Put, Take, Len and Room do to it. -/
import Derived.Test.YtlpfibmehlpdiaaRows
import Derived.Test.YtlpfibmehlpdiaaQt
import Derived.Test.YtlpfibmehlpdiaaOps
namespace Go.Proofs.Ytlpfibmehlpdiaa
open Go.RowKit BigFrame

/-- A job, cell by cell. -/
structure Job where
  conn : Int
  seq : Int
  method : ByteArray
  target : ByteArray
  fa : Option Addr
  fl : Nat
  fc : Nat
  body : ByteArray
  close : Bool

def Job.cells (j : Job) : List Value := [.int .i64 j.conn, .int .i64 j.seq, .string j.method, .string j.target, .slice j.fa j.fl j.fc, .string j.body, .bool j.close]
def Job.zero : Job := ⟨0, 0, ⟨#[]⟩, ⟨#[]⟩, none, 0, 0, ⟨#[]⟩, false⟩

theorem Job.len (j : Job) : j.cells.length = 7 := rfl

/-- The queue at p, its ring at r of n places, holds these jobs, the first one first. -/
def IsQ (w : World) (p r n : Nat) (q : List Job) : Prop :=
  ∃ (f : Nat) (c : List Value), Blk w p [.slice (some ⟨r, 0, none⟩) n n, .int .i64 f, .int .i64 q.length] 40 ∧ Blk w r c 31 ∧ c.length = n * 7 ∧ f < n ∧ q.length ≤ n ∧
    ∀ i j, q[i]? = some j → ∀ k, k < 7 → c[(f + i) % n * 7 + k]? = j.cells[k]?

theorem IsQ.upd {w w' : World} {p r n : Nat} {q : List Job} {S : List Nat} (h : IsQ w p r n q) (hu : Upd S w w') (hp : p ∉ S) (hr : r ∉ S) : IsQ w' p r n q := by
  obtain ⟨f, c, h1, h2, h3⟩ := h
  exact ⟨f, c, hu.blk h1 hp, hu.blk h2 hr, h3⟩

theorem IsQ.lt {w : World} {p r n : Nat} {q : List Job} (h : IsQ w p r n q) : p < w.heap.size ∧ r < w.heap.size := by
  obtain ⟨f, c, h1, h2, -⟩ := h
  exact ⟨h1.lt, h2.lt⟩

set_option maxHeartbeats 400000 in
theorem len_ok (p r n : Nat) (q : List Job) (w : World) (h : IsQ w p r n q) :
    Calls Try.prog 10 #[.pointer (some ⟨p, 0, none⟩)] w fun e w' => e = .returned (.int .i64 q.length) ∧ w = w' := by
  obtain ⟨f, c, h1, -⟩ := h
  have c2 := h1.cell 2
  simp at c2
  go_enter Try.func10, Try.ntmps10
  go_wp2
  go_ret
  exact ⟨rfl, rfl⟩

set_option maxHeartbeats 400000 in
theorem room_ok (p r n : Nat) (q : List Job) (w : World) (hn : n ≤ 16) (h : IsQ w p r n q) :
    Calls Try.prog 11 #[.pointer (some ⟨p, 0, none⟩)] w fun e w' => e = .returned (.int .i64 (n - q.length)) ∧ ∃ k, w' = w.drewN k := by
  obtain ⟨f, c, h1, -, -, -, h5, -⟩ := h
  have c0 := h1.cell 0
  have c2 := h1.cell 2
  simp at c0 c2
  go_enter Try.func11, Try.ntmps11
  go_wp2
  go_quiet (fail)
  go_wp2
  go_ret
  exact ⟨rfl, nq, rfl⟩

set_option maxHeartbeats 400000 in
theorem put_full (p r n : Nat) (q : List Job) (j : Job) (w : World) (h : IsQ w p r n q) (hf : q.length = n) :
    Calls Try.prog 8 #[.pointer (some ⟨p, 0, none⟩), .agg j.cells.toArray] w fun e w' => e = .returned (.bool false) ∧ Upd [] w w' := by
  obtain ⟨f, c, h1, -, -, -, h5, -⟩ := h
  have hp := h1.lt
  have c0 := h1.cell 0
  have c2 := h1.cell 2
  simp at c0 c2
  have hc : ((q.length : Int) == (n : Int)) = true := by simp; omega
  clear h1 hf
  unfold Job.cells
  go_enter Try.func8, Try.ntmps8
  go_wp2
  go_quiet (fail)
  go_wp2
  go_ret
  exact ⟨rfl, ((Upd.refl _ _).alloc _).drewN _⟩

theorem ring_ne {f n i s : Nat} (hf : f < n) (hi : i < s) (hs : s < n) : (f + i) % n ≠ (f + s) % n := by
  intro e
  rcases Nat.lt_or_ge (f + i) n with a | a <;> rcases Nat.lt_or_ge (f + s) n with b | b
  · rw [Nat.mod_eq_of_lt a, Nat.mod_eq_of_lt b] at e; omega
  · rw [Nat.mod_eq_of_lt a, Nat.mod_eq_sub_mod b, Nat.mod_eq_of_lt (by omega)] at e; omega
  · omega
  · rw [Nat.mod_eq_sub_mod a, Nat.mod_eq_sub_mod b, Nat.mod_eq_of_lt (by omega), Nat.mod_eq_of_lt (by omega)] at e; omega

set_option maxHeartbeats 400000 in
theorem put_room (p r n : Nat) (q : List Job) (j : Job) (w : World) (hpr : p ≠ r) (hn : n ≤ 16) (h : IsQ w p r n q) (hf : q.length < n) :
    Calls Try.prog 8 #[.pointer (some ⟨p, 0, none⟩), .agg j.cells.toArray] w fun e w' => e = .returned (.bool true) ∧ IsQ w' p r n (q ++ [j]) ∧ Upd [p, r] w w' := by
  obtain ⟨f, c, h1, h2, h3, h4, h5, h6⟩ := h
  have hp := h1.lt
  have hr := h2.lt
  have c0 := h1.cell 0
  have c1 := h1.cell 1
  have c2 := h1.cell 2
  simp at c0 c1 c2
  have hc : ((q.length : Int) == (n : Int)) = false := by simp; omega
  have hd : (((n : Int)) == 0) = false := by simp; omega
  have b1 : 0 ≤ ((f : Int) + q.length) % n := Int.emod_nonneg _ (by omega)
  have b2 : ((f : Int) + q.length) % n < n := Int.emod_lt_of_pos _ (by omega)
  have b3 : (f + q.length) % n * 7 + 7 ≤ c.length := by
    have := Nat.mod_lt (f + q.length) (show 0 < n by omega)
    omega

  go_enter Try.func8, Try.ntmps8
  go_wp2
  refine wp_region_quiet_lit (by kernel_rfl) (by kernel_rfl) ?_
  repeat (go_big_quiet_step (fail))
  refine wpQuiet_nil ?_
  (intro _ hw'; obtain ⟨nq, hw''⟩ := hw'; subst hw'')
  refine wp_abs (fun W => Blk W p _ _ ∧ Blk W r _ _ ∧ Upd [] w W ∧ ∃ b, Blk W b j.cells 31 ∧ b = w.heap.size) ⟨(h1.alloc _).drewN _, (h2.alloc _).drewN _, ((Upd.refl _ _).alloc _).drewN _, _, (Blk.new _ _ _ _ rfl).drewN _, rfl⟩ ?_
  rintro w2 ⟨g1, g2, gu, b, gb, rfl⟩
  clear c0 c1 c2
  have c0 := g1.cell 0
  have c1 := g1.cell 1
  have c2 := g1.cell 2
  simp only [List.getElem?_cons_zero, List.getElem?_cons_succ] at c0 c1 c2
  have m0 := gb.cell 0
  have m1 := gb.cell 1
  have m2 := gb.cell 2
  have m3 := gb.cell 3
  have m4 := gb.cell 4
  have m5 := gb.cell 5
  have m6 := gb.cell 6
  simp only [Job.cells, List.getElem?_cons_zero, List.getElem?_cons_succ] at m0 m1 m2 m3 m4 m5 m6
  go_wp2
  refine wp_quiet_tail 21 (by kernel_rfl) (by kernel_rfl) ?_
  simp only [List.take_succ_cons, List.take_zero, List.drop_succ_cons, List.drop_zero]
  repeat (go_big_quiet_step (fail))
  refine wpQuiet_nil ?_
  (intro _ hw'; obtain ⟨nq, hw''⟩ := hw'; subst hw'')
  refine wpList_store_blk rfl rfl 31 (.tmp 35) (.tmp 34) rfl r ((f + q.length) % n * 7) j.cells c 31 rfl rfl (g2.drewN _) (by kernel_rfl) b3 rfl ?_
  intro w3 k2 ku
  have k1 := ku.blk (g1.drewN _) (by simpa using hpr)
  have d2 := k1.cell 2
  have e2 := k1.free 2
  simp at d2
  clear c0 c1 c2
  go_wp2
  go_ret
  refine ⟨rfl, ⟨f, putL c ((f + q.length) % n * 7) j.cells, (k1.set 2 _).as (by simp), k2.set_ne _ _ hpr.symm, by rw [putL_len _ _ _ b3]; exact h3, h4, by simp; omega, ?_⟩, ?_⟩
  · intro i x hx k hk
    by_cases hi : i < q.length
    · rw [List.getElem?_append_left hi] at hx
      have hne := ring_ne h4 hi hf
      have l1 := Nat.mod_lt (f + i) (show 0 < n by omega)
      rw [putL_out _ _ _ b3 _ (by simp only [Job.len]; omega)]
      exact h6 i x hx k hk
    · have hi' : i = q.length := by
        have := (List.getElem?_eq_some_iff.1 hx).1
        simp at this; omega
      subst hi'
      simp at hx
      subst hx
      exact putL_in _ _ _ b3 k hk
  · refine Upd.set ?_ _ _ (by simp)
    exact ((gu.mono (T := [p, r]) (by simp)).drewN _).trans ku (by intro k _ hk; simp at hk ⊢; omega)

theorem take_none (p r n : Nat) (w : World) (h : IsQ w p r n []) :
    Calls Try.prog 9 #[.pointer (some ⟨p, 0, none⟩)] w fun e w' => e = .returned (.tuple #[.agg Job.zero.cells.toArray, .bool false]) ∧ Upd [] w w' := by
  obtain ⟨f, c, h1, -⟩ := h
  have hp := h1.lt
  have c0 := h1.cell 0
  have c1 := h1.cell 1
  have c2 := h1.cell 2
  simp only [List.getElem?_cons_zero, List.getElem?_cons_succ] at c0 c1 c2
  simp at c2
  clear h1
  go_enter Try.func9, Try.ntmps9
  go_wp2
  exact bodyPost_ret (results_cell_tmp _ _ _ 2 3 31 w.heap.size Job.zero.cells 31 rfl rfl (Blk.new w Job.zero.cells 31 _ rfl) (by kernel_rfl) (by kernel_rfl)) rfl ⟨rfl, (Upd.refl _ _).alloc _⟩

set_option maxHeartbeats 1000000 in
theorem take_some (p r n : Nat) (j : Job) (q : List Job) (w : World) (hpr : p ≠ r) (hn : n ≤ 16) (h : IsQ w p r n (j :: q)) :
    Calls Try.prog 9 #[.pointer (some ⟨p, 0, none⟩)] w fun e w' => e = .returned (.tuple #[.agg j.cells.toArray, .bool true]) ∧ IsQ w' p r n q ∧ Upd [p, r] w w' := by
  obtain ⟨f, c, h1, h2, h3, h4, h5, h6⟩ := h
  have hp := h1.lt
  have hr := h2.lt
  have c0 := h1.cell 0
  have c1 := h1.cell 1
  have c2 := h1.cell 2
  simp only [List.getElem?_cons_zero, List.getElem?_cons_succ] at c0 c1 c2
  have hc : ((q.length : Int) + 1 == 0) = false := by simp; omega
  have b3 : f * 7 + 7 ≤ c.length := by omega
  have h60 := h6 0 j rfl
  rw [show (f + 0) % n = f from Nat.mod_eq_of_lt (by omega)] at h60
  have r0 := h2.cell (f * 7 + 0)
  have r1 := h2.cell (f * 7 + 1)
  have r2 := h2.cell (f * 7 + 2)
  have r3 := h2.cell (f * 7 + 3)
  have r4 := h2.cell (f * 7 + 4)
  have r5 := h2.cell (f * 7 + 5)
  have r6 := h2.cell (f * 7 + 6)
  rw [h60 0 (by omega)] at r0
  rw [h60 1 (by omega)] at r1
  rw [h60 2 (by omega)] at r2
  rw [h60 3 (by omega)] at r3
  rw [h60 4 (by omega)] at r4
  rw [h60 5 (by omega)] at r5
  rw [h60 6 (by omega)] at r6
  simp only [Job.cells, Nat.add_zero, List.getElem?_cons_zero, List.getElem?_cons_succ] at r0 r1 r2 r3 r4 r5 r6
  go_enter Try.func9, Try.ntmps9
  go_wp2
  go_region
  refine wp_abs (fun W => Blk W p _ _ ∧ Blk W r _ _ ∧ Upd [] w W ∧ Blk W w.heap.size Job.zero.cells 31 ∧ Blk W (w.heap.size + 1) j.cells 31 ∧ w.heap.size + 1 < W.heap.size) ⟨(h1.alloc _).alloc _, (h2.alloc _).alloc _, (((Upd.refl _ _).alloc _).alloc _).drew, (Blk.new w Job.zero.cells 31 _ rfl).alloc _, Blk.new (w.alloc (.cells Job.zero.cells.toArray 31)) j.cells 31 _ (by simp), by simp⟩ ?_
  rintro w2 ⟨g1, g2, gu, gz, gj, gs⟩
  clear c0 c1 c2 r0 r1 r2 r3 r4 r5 r6
  have c0 := g1.cell 0
  have c1 := g1.cell 1
  have c2 := g1.cell 2
  simp only [List.getElem?_cons_zero, List.getElem?_cons_succ] at c0 c1 c2
  go_wp2
  refine wp_quiet_tail 10 (by kernel_rfl) (by kernel_rfl) ?_
  simp only [List.take_succ_cons, List.take_zero, List.drop_succ_cons, List.drop_zero]
  repeat (go_big_quiet_step (fail))
  refine wpQuiet_nil ?_
  (intro _ hw'; obtain ⟨nq, hw''⟩ := hw'; subst hw'')
  refine wpList_store_blk rfl rfl 31 (.tmp 30) (.tmp 29) rfl r (f * 7) Job.zero.cells c 31 rfl rfl (g2.drewN _) (by kernel_rfl) b3 rfl ?_
  intro w3 k2 ku
  have k1 := ku.blk (g1.drewN _) (by simpa using hpr)
  have kj := ku.blk (gj.drewN _) (by simp; omega)
  have kz := ku.blk (gz.drewN _) (by simp; omega)
  have ks := ku.size
  clear c0 c1 c2
  have c0 := k1.cell 0
  have c1 := k1.cell 1
  have c2 := k1.cell 2
  simp only [List.getElem?_cons_zero, List.getElem?_cons_succ] at c0 c1 c2
  have e1 := k1.free 1
  have e2 := k1.free 2
  have hd : ((n : Int) == 0) = false := by simp; omega
  have b1 : 0 ≤ ((f : Int) + 1) % n := Int.emod_nonneg _ (by omega)
  have b2 : ((f : Int) + 1) % n < n := Int.emod_lt_of_pos _ (by omega)
  go_wp2
  go_region
  refine wp_abs (fun W => Blk W p _ _ ∧ Blk W r _ _ ∧ Upd [p] w3 W ∧ Blk W w.heap.size _ _ ∧ Blk W (w.heap.size + 1) _ _) ⟨(k1.set 1 _).set 2 _, (k2.set_ne _ _ hpr.symm).set_ne _ _ hpr.symm, ((((Upd.refl _ _).set _ _ (by simp)).set _ _ (by simp))).drew, (kz.set_ne _ _ (by simp; omega)).set_ne _ _ (by simp; omega), (kj.set_ne _ _ (by simp; omega)).set_ne _ _ (by simp; omega)⟩ ?_
  rintro w4 ⟨l1, l2, lu, lz, lj⟩
  clear c0 c1 c2
  have m0 := lj.cell 0
  have m1 := lj.cell 1
  have m2 := lj.cell 2
  have m3 := lj.cell 3
  have m4 := lj.cell 4
  have m5 := lj.cell 5
  have m6 := lj.cell 6
  simp only [Job.cells, List.getElem?_cons_zero, List.getElem?_cons_succ] at m0 m1 m2 m3 m4 m5 m6
  go_wp2_with (refine wpList_store_blk rfl rfl 31 (.tmp 2) (.tmp 53) rfl w.heap.size 0 j.cells Job.zero.cells 31 rfl rfl lz (by kernel_rfl) (by simp [Job.len]) rfl ?_)
  intro w5 o2 ou
  go_wp2
  refine bodyPost_ret (results_cell_tmp _ _ _ 2 3 31 w.heap.size j.cells 31 rfl rfl (o2.as (by simp [putL, Job.cells, Job.zero])) (by kernel_rfl) (by kernel_rfl)) rfl ⟨rfl, ⟨(f + 1) % n, putL c (f * 7) Job.zero.cells, (ou.blk l1 (by simp; omega)).as ?_, ou.blk l2 (by simp; omega), by rw [putL_len _ _ _ b3]; exact h3, Nat.mod_lt _ (by omega), by simp at h5; omega, ?_⟩, ?_⟩
  · simp at h5
    simp
    unfold wrap64
    omega
  · intro i x hx k hk
    have l3 : i < q.length := (List.getElem?_eq_some_iff.1 hx).1
    have l4 := Nat.mod_lt (f + (i + 1)) (show 0 < n by omega)
    have hne : (f + (i + 1)) % n ≠ f := by
      intro e
      simp at h5
      rcases Nat.lt_or_ge (f + (i + 1)) n with a | a
      · rw [Nat.mod_eq_of_lt a] at e; omega
      · rw [Nat.mod_eq_sub_mod a, Nat.mod_eq_of_lt (by omega)] at e; omega
    rw [show ((f + 1) % n + i) % n = (f + (i + 1)) % n by rw [Nat.mod_add_mod]; congr 1; omega]
    rw [putL_out _ _ _ b3 _ (by simp only [Job.len]; omega)]
    exact h6 (i + 1) x (by simpa using hx) k hk
  · exact ((((gu.mono (T := [p, r]) (by simp)).drewN _).trans ku (by intro k _ hk; simp at hk ⊢; omega)).trans lu (by intro k _ hk; simp at hk ⊢; omega)).trans ou (by intro k hk1 hk; simp at hk; omega)

/-- What New leaves. -/
def NewQ (w : World) (n : Nat) (e : Ending) (w' : World) : Prop :=
  ∃ p r, e = .returned (.pointer (some ⟨p, 0, none⟩)) ∧ p ≠ r ∧ w.heap.size ≤ p ∧ w.heap.size ≤ r ∧ IsQ w' p r n [] ∧ Upd [] w w'

theorem new_fin (w W : World) (n k : Nat) (h1 : 1 ≤ n) (hk : k = n * 7) (hW : W = ((w.alloc (.cells (madeCells Job.zero.cells.toArray k) 31)).alloc (.cells #[.slice (some ⟨w.heap.size, 0, none⟩) n n, .int .i64 0, .int .i64 0] 40))) :
    NewQ w n (.returned (.pointer (some ⟨w.heap.size + 1, 0, none⟩))) W := by
  subst hW
  refine ⟨w.heap.size + 1, w.heap.size, rfl, by omega, by omega, Nat.le_refl _, ⟨0, (madeCells Job.zero.cells.toArray k).toList, ?_, ?_, by simp [size_madeCells, hk], by omega, by simp, by simp⟩, ((Upd.refl _ _).alloc _).alloc _⟩
  · exact Blk.new (w.alloc _) [.slice (some ⟨w.heap.size, 0, none⟩) n n, .int .i64 0, .int .i64 0] 40 _ (by simp)
  · exact (show Blk (w.alloc (.cells (madeCells Job.zero.cells.toArray k) 31)) w.heap.size _ _ from Blk.new w (madeCells Job.zero.cells.toArray k).toList 31 _ rfl).alloc _

set_option maxHeartbeats 400000 in
theorem new_ok (m : Int) (n : Nat) (w : World) (hn : (n : Int) = min (max m 1) 16) :
    Calls Try.prog 7 #[.int .i64 m] w (NewQ w n) := by
  have hmk := fun (c : Int) (W : World) => run_make_cells (P := Try.prog) 38 31 (.agg Job.zero.cells.toArray) 7 96 (by kernel_rfl) (by kernel_rfl) (by omega) c W
  by_cases a : m < 1
  · obtain rfl : n = 1 := by omega
    clear hn
    go_enter Try.func7, Try.ntmps7
    go_wp2
    go_ret
    exact new_fin w _ 1 7 (by omega) rfl rfl
  · by_cases b : m ≤ 16
    · obtain rfl : m = n := by omega
      have a : 1 ≤ n := by omega
      have b : n ≤ 16 := by omega
      clear hn
      have hmk := fun W => hmk n W (by omega) (by omega)
      simp only [Int.toNat_natCast] at hmk
      go_enter Try.func7, Try.ntmps7
      go_wp2
      go_ret
      exact new_fin w _ n (n * 7) (by omega) rfl rfl
    · obtain rfl : n = 16 := by omega
      clear hn
      have b : 16 < m := by omega
      go_enter Try.func7, Try.ntmps7
      go_wp2
      go_ret
      exact new_fin w _ 16 112 (by omega) rfl rfl
end Go.Proofs.Ytlpfibmehlpdiaa
