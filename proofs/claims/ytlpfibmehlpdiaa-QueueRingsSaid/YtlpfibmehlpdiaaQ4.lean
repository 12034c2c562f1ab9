/- QueueRings: a queue that was filled and emptied is as a new one. -/
import Derived.Test.YtlpfibmehlpdiaaQ2
import Derived.Test.YtlpfibmehlpdiaaBits
import Derived.Deep.LoopGhost
namespace Go.Proofs.Ytlpfibmehlpdiaa
open Go.RowKit BigFrame

set_option maxHeartbeats 800000 in
theorem rings_walk (m a b : Int) (w : World) : Calls Try.prog 4 #[.int .i64 m, .int .i64 a, .int .i64 b] w fun e w' => e = .returned (.bool true) ∧ Upd [] w w' := by
  obtain ⟨n, hn⟩ : ∃ n : Nat, (n : Int) = min (max m 1) 16 := ⟨(min (max m 1) 16).toNat, by omega⟩
  have HN := Hd.mk hn
  have n1 : 1 ≤ n := by omega
  have n2 : n ≤ 16 := by omega
  clear hn
  obtain ⟨ka, hka⟩ : ∃ k : Nat, a % 64 = k := ⟨(a % 64).toNat, by omega⟩
  obtain ⟨kb, hkb⟩ : ∃ k : Nat, b % 16 = k := ⟨(b % 16).toNat, by omega⟩
  have ka1 : ka ≤ 64 := by omega
  have kb1 : kb ≤ 16 := by omega
  go_enter Try.func4, Try.ntmps4
  go_wp2_with fail
  refine (fit_ok w).mono ?_
  rintro e w1 ⟨rfl, u1⟩
  go_wp2_with fail
  refine (new_ok m n w1 HN.out).mono ?_
  rintro e w2 ⟨p, r, rfl, hpr, hp, hr, q2, u2⟩
  have v2 := u1.trans u2 (by simp)
  have l2 := q2.lt
  go_wp2_with fail
  refine (new_ok m n w2 HN.out).mono ?_
  rintro e w3 ⟨p', r', rfl, hpr', hp', hr', q3, u3⟩
  have v3 := v2.trans u3 (by simp)
  have q2 := q2.upd u3 (by simp) (by simp)
  have d1 : p ≠ p' := by omega
  have d2 : p ≠ r' := by omega
  have d3 : r ≠ p' := by omega
  have d4 : r ≠ r' := by omega
  have z1 : w.heap.size ≤ p := by have := u1.size; omega
  have z2 : w.heap.size ≤ r := by have := u1.size; omega
  have z3 : w.heap.size ≤ p' := by have := v2.size; omega
  have z4 : w.heap.size ≤ r' := by have := v2.size; omega
  clear hp hr hp' hr' l2 u1 u2 v2 u3
  have Z := Hd.mk (And.intro d1 (And.intro d2 (And.intro d3 d4)))
  have Y := Hd.mk (And.intro z1 (And.intro z2 (And.intro z3 z4)))
  clear d1 d2 d3 d4 z1 z2 z3 z4
  go_wp2_with fail
  go_loopg [28] ka (fun g i wr => ∃ k : Nat, k + g = ka ∧ i = .int .i64 k ∧ IsQ wr p r n [] ∧ IsQ wr p' r' n [] ∧ Upd [] w wr)
  case atStart => exact ⟨0, by omega, rfl, q2, q3, v3⟩
  case round =>
    obtain ⟨k, hk, rfl, t2, t3, tv⟩ := hrel
    by_cases hlt : k < ka
    · go_wp2_with fail
      refine (put_room p r n [] (jb 0 k ⟨#[]⟩) wr hpr n2 t2 (by simp; omega)).mono ?_
      rintro e w4 ⟨rfl, q4, u4⟩
      go_wp2_with fail
      refine (take_some p r n _ [] w4 hpr n2 q4).mono ?_
      rintro e w5 ⟨rfl, q5, u5⟩
      simp only [jb, Job.cells]
      go_wp2_with fail
      obtain ⟨d1, d2, d3, d4⟩ := Z.out
      obtain ⟨z1, z2, z3, z4⟩ := Y.out
      have uu := u4.trans u5 (by simp)
      go_roundg (gk - 1)
      case measure => omega
      case rel => exact ⟨k + 1, by omega, by simp, q5, t3.upd uu (by simp; omega) (by simp; omega), tv.trans uu (by intro j hj h; simp at h; omega)⟩
    · have hk2 : k = ka := by omega
      subst hk2
      clear hlt
      go_wp2_with fail
      go_loopg [39] kb (fun g i wr => ∃ (k : Nat) (q : List Job), k + g = kb ∧ i = .int .i64 k ∧ q.length ≤ k ∧ IsQ wr p r n q ∧ IsQ wr p' r' n q ∧ Upd [] w wr)
      case atStart => exact ⟨0, [], by omega, rfl, by simp, t2, t3, tv⟩
      case round =>
        clear t2 t3 tv q2 q3 v3
        obtain ⟨j, q, hj, rfl, hq, t2, t3, tv⟩ := hrel
        by_cases hlt : j < kb
        · by_cases hroom : q.length < n
          · go_wp2_with fail
            refine (put_room p r n q (jb j 0 ⟨#[]⟩) wr hpr n2 t2 hroom).mono ?_
            rintro e w4 ⟨rfl, q4, u4⟩
            obtain ⟨d1, d2, d3, d4⟩ := Z.out
            have t3 := t3.upd u4 (by simp; omega) (by simp; omega)
            clear d1 d2 d3 d4
            go_wp2_with fail
            refine (put_room p' r' n q (jb j 0 ⟨#[]⟩) w4 hpr' n2 t3 hroom).mono ?_
            rintro e w5 ⟨rfl, q5, u5⟩
            obtain ⟨d1, d2, d3, d4⟩ := Z.out
            have t4 := q4.upd u5 (by simp; omega) (by simp; omega)
            clear d1 d2 d3 d4
            go_wp2_with fail
            obtain ⟨z1, z2, z3, z4⟩ := Y.out
            go_roundg (gk - 1)
            case measure => omega
            case rel => exact ⟨j + 1, q ++ [jb j 0 ⟨#[]⟩], by omega, by simp, by simp; omega, t4, q5, (tv.trans u4 (by intro j hj h; simp at h; omega)).trans u5 (by intro j hj h; simp at h; omega)⟩
          · have HL := Hd.mk (show q.length = n by obtain ⟨f, c, h1, h2, h3, h4, h5, h6⟩ := t2; omega)
            clear hroom
            go_wp2_with fail
            refine (put_full p r n q (jb j 0 ⟨#[]⟩) wr t2 HL.out).mono ?_
            rintro e w4 ⟨rfl, u4⟩
            have t2 := t2.upd u4 (by simp) (by simp)
            have t3 := t3.upd u4 (by simp) (by simp)
            go_wp2_with fail
            refine (put_full p' r' n q (jb j 0 ⟨#[]⟩) w4 t3 HL.out).mono ?_
            rintro e w5 ⟨rfl, u5⟩
            have t2 := t2.upd u5 (by simp) (by simp)
            have t3 := t3.upd u5 (by simp) (by simp)
            go_wp2_with fail
            go_roundg (gk - 1)
            case measure => omega
            case rel => exact ⟨j + 1, q, by omega, by simp, by omega, t2, t3, (tv.trans u4 (by simp)).trans u5 (by simp)⟩
        · have hj2 : j = kb := by omega
          subst hj2
          clear hlt hj
          go_wp2_with fail
          go_loopg [56] (j + 1) (fun g i wr => ∃ (k : Nat) (q : List Job), k + g = j + 1 ∧ i = .int .i64 k ∧ q.length + k ≤ j + k ∧ q.length ≤ j - k ∧ IsQ wr p r n q ∧ IsQ wr p' r' n q ∧ Upd [] w wr)
          case atStart => exact ⟨0, q, by omega, rfl, by omega, by omega, t2, t3, tv⟩
          case round =>
            clear t2 t3 tv hq q
            obtain ⟨i, q, hi, rfl, hq1, hq, t2, t3, tv⟩ := hrel
            by_cases hlt : i < j + 1
            · cases q with
              | nil =>
                go_wp2_with fail
                refine (take_none p r n wr t2).mono ?_
                rintro e w4 ⟨rfl, u4⟩
                have t2 := t2.upd u4 (by simp) (by simp)
                have t3 := t3.upd u4 (by simp) (by simp)
                simp only [Job.zero, Job.cells]
                go_wp2_with fail
                refine (take_none p' r' n _ (t3.upd ((Upd.refl [] _).alloc _) (by simp) (by simp))).mono ?_
                rintro e w5 ⟨rfl, u5⟩
                have nb := u5.blk (Blk.new w4 Job.zero.cells 31 w4.heap.size rfl) (by simp)
                have hs := nb.lt
                have nb0 := nb.cell 0
                have nb1 := nb.cell 1
                simp only [Job.zero, Job.cells, List.getElem?_cons_zero, List.getElem?_cons_succ] at nb0 nb1
                clear nb
                simp only [Job.zero, Job.cells]
                go_wp2_with fail
                have uu := (((Upd.refl [] w4).alloc (.cells Job.zero.cells.toArray 31)).trans u5 (by simp)).alloc (.cells Job.zero.cells.toArray 31)
                go_roundg (gk - 1)
                case measure => omega
                case rel => exact ⟨i + 1, [], by omega, by simp, by simp, by simp, t2.upd uu (by simp) (by simp), t3.upd uu (by simp) (by simp), (tv.trans u4 (by simp)).trans uu (by simp)⟩
              | cons x q =>
                simp only [List.length_cons] at hq hq1
                go_wp2_with fail
                refine (take_some p r n x q wr hpr n2 t2).mono ?_
                rintro e w4 ⟨rfl, t2, u4⟩
                obtain ⟨d1, d2, d3, d4⟩ := Z.out
                have t3 := t3.upd u4 (by simp; omega) (by simp; omega)
                clear d1 d2 d3 d4
                have l3 := t3.lt
                simp only [Job.cells]
                go_wp2_with fail
                refine (take_some p' r' n x q _ hpr' n2 (t3.upd ((Upd.refl [] _).alloc _) (by simp) (by simp))).mono ?_
                rintro e w5 ⟨rfl, t3, u5⟩
                have nb := u5.blk (Blk.new w4 x.cells 31 w4.heap.size rfl) (by simp; omega)
                have hs := nb.lt
                have nb0 := nb.cell 0
                have nb1 := nb.cell 1
                simp only [Job.cells, List.getElem?_cons_zero, List.getElem?_cons_succ] at nb0 nb1
                clear nb
                simp only [Job.cells]
                go_wp2_with fail
                obtain ⟨d1, d2, d3, d4⟩ := Z.out
                obtain ⟨z1, z2, z3, z4⟩ := Y.out
                have uu := ((Upd.refl [p', r'] w4).alloc (.cells x.cells.toArray 31)).trans u5 (by simp)
                have ua := uu.alloc (.cells x.cells.toArray 31)
                have ub := (Upd.refl [] w5).alloc (.cells x.cells.toArray 31)
                go_roundg (gk - 1)
                case measure => omega
                case rel => exact ⟨i + 1, q, by omega, by simp, by omega, by omega, t2.upd ua (by simp; omega) (by simp; omega), t3.upd ub (by simp) (by simp), (tv.trans u4 (by intro j hj h; simp at h; omega)).trans ua (by intro j hj h; simp at h; omega)⟩
            · have hi2 : i = j + 1 := by omega
              have hq0 : q = [] := by apply List.eq_nil_of_length_eq_zero; omega
              subst hq0
              clear hlt hi hq hq1
              subst hi2
              go_wp2_with fail
              refine (len_ok p r n [] wr t2).mono ?_
              rintro e w4 ⟨rfl, rfl⟩
              go_wp2_with fail
              refine (room_ok p r n [] wr n2 t2).mono ?_
              rintro e w4 ⟨rfl, ⟨n4, rfl⟩⟩
              have t3 := t3.upd ((Upd.refl [] _).drewN n4) (by simp) (by simp)
              go_wp2_with fail
              refine (room_ok p' r' n [] _ n2 t3).mono ?_
              rintro e w5 ⟨rfl, ⟨n5, rfl⟩⟩
              go_wp2_with fail
              go_ret
              exact ⟨rfl, tv.drewN _⟩

theorem rings_row (m a b : Int) (w : World) (_ : (Lit.int .i64 m).wf = true) (_ : (Lit.int .i64 a).wf = true) (_ : (Lit.int .i64 b).wf = true) :
    Calls Try.prog 4 #[.int .i64 m, .int .i64 a, .int .i64 b] w fun e w' => e = .returned (.bool true) ∧ Below w.heap.size w w' :=
  (rings_walk m a b w).mono fun _ _ h => ⟨h.1, h.2.nil_below⟩
end Go.Proofs.Ytlpfibmehlpdiaa
