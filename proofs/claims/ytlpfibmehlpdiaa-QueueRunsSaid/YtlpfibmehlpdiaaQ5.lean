/- QueueRuns: jobs come out in the order in which they came in. -/
import Derived.Test.YtlpfibmehlpdiaaQ2
import Derived.Test.YtlpfibmehlpdiaaBits
import Derived.Test.YtlpfibmehlpdiaaMm
import Derived.Test.YtlpfibmehlpdiaaSl
import Derived.Test.YtlpfibmehlpdiaaArgs
import Derived.Deep.LoopGhost
namespace Go.Proofs.Ytlpfibmehlpdiaa
open Go.RowKit BigFrame

/-- The job that the law puts for number i. -/
def jr (i : Nat) : Job := jb i (-i) ⟨#[98]⟩

set_option maxHeartbeats 800000 in
set_option maxRecDepth 100000 in
theorem runs_walk (m : Int) (a : Option Addr) (len cap : Nat) (zs : List Int) (w : World) (hz : IsRow .i64 w a len cap zs) :
    Calls Try.prog 3 #[.int .i64 m, .slice a len cap] w fun e w' => e = .returned (.bool true) ∧ Upd [] w w' := by
  obtain ⟨n, hn⟩ : ∃ n : Nat, (n : Int) = min (max m 1) 16 := ⟨(min (max m 1) 16).toNat, by omega⟩
  have HN := Hd.mk hn
  have n1 : 1 ≤ n := by omega
  have n2 : n ≤ 16 := by omega
  clear hn
  by_cases hl : 300 < len
  · go_enter Try.func3, Try.ntmps3
    go_wp2_with fail
    refine (fit_ok w).mono ?_
    rintro e w1 ⟨rfl, u1⟩
    go_wp2_with fail
    go_ret
    exact ⟨rfl, u1⟩
  have hl : len ≤ 300 := by omega
  have ho : 0 < len → ∃ b off, a = some ⟨b, off, none⟩ ∧ b < w.heap.size ∧ ∀ i, i < len → w.cell? ⟨b, off + i, none⟩ = some (.int .i64 (zs.getD i 0)) := fun h => by
    obtain ⟨b, off, h1, h2, h3, h4, h5, h6⟩ := hz.open h
    exact ⟨b, off, h1, h2, h5⟩
  have HO := Hd.mk ho
  clear ho hz
  go_enter Try.func3, Try.ntmps3
  go_wp2_with fail
  refine (fit_ok w).mono ?_
  rintro e w1 ⟨rfl, u1⟩
  go_wp2_with fail
  refine (new_ok m n w1 HN.out).mono ?_
  rintro e w2 ⟨p, r, rfl, hpr, hp, hr, q2, u2⟩
  have v2 := u1.trans u2 (by simp)
  have z1 : w.heap.size ≤ p := by have := u1.size; omega
  have z2 : w.heap.size ≤ r := by have := u1.size; omega
  clear hp hr u2 u1
  have hn := HN.out.symm
  go_wp2_with (first | (refine wpList_max rfl (.tmp 20) (.const (.int .i64 1)) _ rfl m 1 rfl rfl ?_) | (refine wpList_min rfl (.tmp 21) (.const (.int .i64 16)) _ rfl (max m 1) 16 rfl rfl ?_))
  clear hn
  have Y := Hd.mk (And.intro z1 z2)
  clear z1 z2
  go_loopg [7, 25] len (fun g v i wr => ∃ (k : Nat) (ms : List Nat), k + g = len ∧ i = .int .i64 k ∧ ms.length ≤ n ∧ IsQ wr p r n (ms.map jr) ∧ Sl wr 3 1 v ms.length (ms.map fun (x : Nat) => Value.int .i64 x) ∧ (∀ b, b ∈ ownB v → w.heap.size ≤ b ∧ b ≠ p ∧ b ≠ r) ∧ (ms.length ≤ k ∧ ∀ i ∈ ms, i < len) ∧ Upd [] w wr)
  case atStart => exact ⟨0, [], by omega, rfl, by simp, q2, Sl.nil _ _ _, by simp [ownB], by simp, v2⟩
  case round =>
    obtain ⟨k, ms, hk, rfl, hm, q, sl, ow, ⟨mk, mi⟩, tv⟩ := hrel
    clear q2 v2
    by_cases hlt : k < len
    · obtain ⟨b, off, ha, hb, hc⟩ := HO.out (by omega)
      subst ha
      have hck := hc k hlt
      clear hc
      have hcr : wr.cell? ⟨b, off + k, none⟩ = some (.int .i64 (zs.getD k 0)) := (tv.cell (p := ⟨b, off + k, none⟩) hb (by simp)).trans hck
      clear hck
      generalize zs.getD k 0 = x at hcr
      obtain ⟨a', c', rfl⟩ := sl.form
      by_cases hx : x % 2 = 0
      · by_cases hroom : ms.length < n
        · go_wp2_with fail
          refine (put_room p r n _ (jr k) wr hpr n2 q (by simpa using hroom)).mono ?_
          rintro e w4 ⟨rfl, q4, u4⟩
          have sl4 := sl.upd u4 (by intro j hj; have := ow j hj; simp; omega)
          go_wp2_with (first | (at_builtin; go_loud (refine wpList_append_sl rfl (.tmp 47) (.tmp 49) 22 rfl 3 (.int .i64 0) 1 8 Try.underlying22 (by kernel_rfl) rfl _ ms.length _ rfl (sl4.alloc _) ⟨w4.heap.size, 0, none⟩ 1 1 [.int .i64 k] rfl rfl (Blk.news (Blk.new w4 _ _ _ rfl)) rfl (by omega) (by unfold maxLen; omega) (by omega) ?_)))
          intro g o' cp w5 s5 u5 hg hg2
          obtain ⟨z1, z2⟩ := Y.out
          have l4 := q4.lt
          have q5 : IsQ w5 p r n ((ms ++ [k]).map jr) := by
            rw [List.map_append]
            exact (q4.upd ((Upd.refl [] _).alloc _) (by simp) (by simp)).upd u5 (fun h => (ow p h).2.1 rfl) (fun h => (ow r h).2.2 rfl)
          have tv5 : Upd [] w w5 := ((tv.trans u4 (by intro j hj h; simp at h; omega)).alloc _).trans u5 (by intro j hj h; have := (ow j h).1; omega)
          have ow5 : w.heap.size ≤ g ∧ g ≠ p ∧ g ≠ r := by
            rcases hg with h | h
            · exact ow g h
            · have := tv.size; have := u4.size; omega
          have hl5 : (ms ++ [k]).length = ms.length + 1 := by simp
          clear z1 z2 u5 hg hg2 sl4 sl l4
          go_wp2_with fail
          refine (len_ok p r n _ w5 q5).mono ?_
          rintro e wl ⟨rfl, rfl⟩
          simp only [List.length_map, List.length_append, List.length_cons, List.length_nil, Int.natCast_add, Nat.zero_add, Int.natCast_one]
          go_wp2_with fail
          refine (room_ok p r n _ w5 n2 q5).mono ?_
          rintro e wl ⟨rfl, ⟨kd, rfl⟩⟩
          simp only [List.length_map, List.length_append, List.length_cons, List.length_nil, Int.natCast_add, Nat.zero_add, Int.natCast_one]
          go_wp2_with fail
          go_roundg (gk - 1)
          case measure => omega
          case rel => exact ⟨k + 1, ms ++ [k], by omega, by simp, by simp; omega, q5.upd ((Upd.refl [] _).drewN _) (by simp) (by simp), by rw [hl5, List.map_append]; exact s5.drewN _, by intro j hj; simp [ownB] at hj; subst hj; exact ow5, ⟨by simp; omega, by intro i hi; simp at hi; rcases hi with h | rfl; exact mi i h; exact hlt⟩, tv5.drewN _⟩
        · have HF := Hd.mk (show (ms.map jr).length = n by simp; omega)
          clear hroom
          have hge : ¬ ms.length < n := by have := HF.out; simp at this; omega
          go_wp2_with fail
          refine (put_full p r n _ (jr k) wr q HF.out).mono ?_
          rintro e w4 ⟨rfl, u4⟩
          have q4 := q.upd u4 (by simp) (by simp)
          have sl4 := sl.upd u4 (by simp)
          have tv4 := tv.trans u4 (by simp)
          go_wp2_with fail
          refine (len_ok p r n _ w4 q4).mono ?_
          rintro e wl ⟨rfl, rfl⟩
          simp only [List.length_map]
          go_wp2_with fail
          refine (room_ok p r n _ w4 n2 q4).mono ?_
          rintro e wl ⟨rfl, ⟨kd, rfl⟩⟩
          simp only [List.length_map]
          go_wp2_with fail
          go_roundg (gk - 1)
          case measure => omega
          case rel => exact ⟨k + 1, ms, by omega, by simp, hm, q4.upd ((Upd.refl [] _).drewN _) (by simp) (by simp), sl4.drewN _, ow, ⟨by omega, mi⟩, tv4.drewN _⟩
      · cases ms with
        | nil =>
          go_wp2_with fail
          refine (take_none p r n wr q).mono ?_
          rintro e w4 ⟨rfl, u4⟩
          have q4 := (q.upd u4 (by simp) (by simp)).upd ((Upd.refl [] w4).alloc (.cells Job.zero.cells.toArray 31)) (by simp) (by simp)
          have sl4 := (sl.upd u4 (by simp)).alloc (.cells Job.zero.cells.toArray 31)
          have tv4 := (tv.trans u4 (by simp)).alloc (.cells Job.zero.cells.toArray 31)
          simp only [Job.zero, Job.cells]
          go_wp2_with fail
          refine (len_ok p r n _ _ q4).mono ?_
          rintro e wl ⟨rfl, rfl⟩
          simp only [List.map_nil, List.length_nil]
          go_wp2_with fail
          refine (room_ok p r n _ _ n2 q4).mono ?_
          rintro e wl ⟨rfl, ⟨kd, rfl⟩⟩
          simp only [List.map_nil, List.length_nil]
          go_wp2_with fail
          go_roundg (gk - 1)
          case measure => omega
          case rel => exact ⟨k + 1, [], by omega, by simp, hm, q4.upd ((Upd.refl [] _).drewN _) (by simp) (by simp), sl4.drewN _, ow, by simp, tv4.drewN _⟩
        | cons i0 ms =>
          obtain ⟨g, o', cp, ha, hgc, hgm, hcell⟩ := sl.some (by simp)
          simp only [Value.slice.injEq] at ha
          obtain ⟨rfl, -, rfl⟩ := ha
          have hc0 := hcell 0 (by simp)
          simp only [Nat.add_zero, List.map_cons, List.getElem?_cons_zero] at hc0
          clear hcell
          obtain ⟨v', hrun, sl', hob⟩ := run_from_sl (P := Try.prog) 22 3 1 Try.underlying22 (by kernel_rfl) wr _ _ _ sl 1 (by simp) (by simp at hm ⊢; omega)
          have hrun : ∀ W, (Instr.slice 22 (.slice (some ⟨g, o', none⟩) (i0 :: ms).length c') (some (.int .i64 1)) none none).run Try.prog W = .ok v' W := hrun
          simp only [List.length_cons, List.map_cons] at sl hrun sl' hm mk
          rw [Nat.add_sub_cancel] at sl'
          simp only [Nat.one_mul, List.drop_one, List.tail_cons] at sl'
          obtain ⟨a2, c2, rfl⟩ := sl'.form
          have hob : ∀ b, b ∈ ownB (.slice a2 ms.length c2) → b = g := by rw [hob]; simp [ownB]
          have hi0 := mi i0 (by simp)
          have mi : ∀ i ∈ ms, i < len := fun i h => mi i (by simp [h])
          have hgb : g < wr.heap.size := sl.lt g (by simp [ownB])
          have howg := ow g (by simp [ownB])
          go_wp2_with fail
          refine (take_some p r n _ _ wr hpr n2 q).mono ?_
          rintro e w4 ⟨rfl, q4, u4⟩
          have hc4 : w4.cell? ⟨g, o', none⟩ = some (.int .i64 i0) := (u4.cell (p := ⟨g, o', none⟩) hgb (by simp; omega)).trans hc0
          have hg4 : g < w4.heap.size := by have := u4.size; omega
          simp only [jr, jb, Job.cells]
          go_wp2_with fail
          refine wp_region_quiet_lit (by kernel_rfl) (by kernel_rfl) ?_
          repeat (go_big_quiet_step (fail))
          refine wpQuiet_nil ?_
          (intro _ hw'; obtain ⟨nq, hw''⟩ := hw'; subst hw'')
          have q5 := q4.upd (((Upd.refl [] w4).alloc (.cells (jr i0).cells.toArray 31)).drewN nq) (by simp) (by simp)
          have s5 := ((sl'.upd u4 (by intro b hb; have := hob b hb; subst this; simp; omega)).alloc (.cells (jr i0).cells.toArray 31)).drewN nq
          have tv5 := ((tv.trans u4 (by obtain ⟨z1, z2⟩ := Y.out; intro j hj h; simp at h; omega)).alloc (.cells (jr i0).cells.toArray 31)).drewN nq
          clear sl' sl q tv u4
          go_wp2_with fail
          refine (len_ok p r n _ _ q5).mono ?_
          rintro e wl ⟨rfl, rfl⟩
          simp only [List.length_map]
          go_wp2_with fail
          refine (room_ok p r n _ _ n2 q5).mono ?_
          rintro e wl ⟨rfl, ⟨kd, rfl⟩⟩
          simp only [List.length_map]
          go_wp2_with fail
          go_roundg (gk - 1)
          case measure => omega
          case rel => rw [← World.drewN_drewN]; exact ⟨k + 1, ms, by omega, by simp, by omega, q5.upd ((Upd.refl [] _).drewN _) (by simp) (by simp), s5.drewN _, by intro b hb; have := hob b hb; subst this; exact howg, ⟨by omega, mi⟩, tv5.drewN _⟩
    · have hk2 : k = len := by omega
      clear hlt
      subst hk2
      go_wp2_with fail
      go_ret
      exact ⟨rfl, tv⟩

theorem runs_row (m : Int) (a : Option Addr) (len cap : Nat) (zs : List Int) (w : World) (_ : (Lit.int .i64 m).wf = true) (hz : IsRow .i64 w a len cap zs) :
    Calls Try.prog 3 #[.int .i64 m, .slice a len cap] w fun e w' => e = .returned (.bool true) ∧ Below w.heap.size w w' :=
  (runs_walk m a len cap zs w hz).mono fun _ _ h => ⟨h.1, h.2.nil_below⟩
end Go.Proofs.Ytlpfibmehlpdiaa
