/- QueueSizes: as many jobs go in as there are places. -/
import Derived.Test.YtlpfibmehlpdiaaQ2
import Derived.Deep.LoopGhost
namespace Go.Proofs.Ytlpfibmehlpdiaa
open Go.RowKit BigFrame

set_option maxHeartbeats 400000 in
theorem sizes_walk (m : Int) (w : World) : Calls Try.prog 5 #[.int .i64 m] w fun e w' => e = .returned (.bool true) ∧ Upd [] w w' := by
  obtain ⟨n, hn⟩ : ∃ n : Nat, (n : Int) = min (max m 1) 16 := ⟨(min (max m 1) 16).toNat, by omega⟩
  have HN := Hd.mk hn
  have n1 : 1 ≤ n := by omega
  have n2 : n ≤ 16 := by omega
  clear hn
  go_enter Try.func5, Try.ntmps5
  go_wp2_with fail
  refine (fit_ok w).mono ?_
  rintro e w1 ⟨rfl, u1⟩
  go_wp2_with fail
  refine (new_ok m n w1 HN.out).mono ?_
  rintro e w2 ⟨p, r, rfl, hpr, hp, hr, q2, u2⟩
  have v2 := u1.trans u2 (by simp)
  go_wp2_with fail
  go_loopg [4] n (fun g k wr => ∃ q : List Job, q.length + g = n ∧ k = .int .i64 q.length ∧ IsQ wr p r n q ∧ Upd [] w wr)
  case atStart => exact ⟨[], by simp, rfl, q2, v2⟩
  case round =>
    obtain ⟨q, hq, rfl, q3, v3⟩ := hrel
    by_cases hlt : q.length < n
    · have hge : ¬ n ≤ q.length := by omega
      go_wp2_with fail
      refine (put_room p r n q (jb 0 q.length ⟨#[]⟩) wr hpr n2 q3 hlt).mono ?_
      rintro e w4 ⟨rfl, q4, u4⟩
      go_wp2_with fail
      go_roundg (gk - 1)
      case measure => omega
      case rel => exact ⟨q ++ [jb 0 q.length ⟨#[]⟩], by simp; omega, by simp, q4, v3.trans u4 (by intro k hk h; have := v2.size; have := u1.size; simp at h; omega)⟩
    · have HL := Hd.mk (show q.length = n by omega)
      clear hlt hq
      go_wp2_with fail
      refine (put_full p r n q (jb 0 q.length ⟨#[]⟩) wr q3 HL.out).mono ?_
      rintro e w4 ⟨rfl, u4⟩
      have q4 := q3.upd u4 (by simp) (by simp)
      have v4 := v3.trans u4 (by simp)
      obtain ⟨c, hc, hcm⟩ : ∃ c : Int, Hd ((q.length : Int) = c) ∧ (m < 1 ∧ c = 1 ∨ (1 ≤ m ∧ m ≤ 16) ∧ c = m ∨ 16 < m ∧ c = 16) := ⟨q.length, Hd.mk rfl, by have := HL.out; have := HN.out; omega⟩
      have d2 : ((n : Int) - q.length == 0) = true := by have := HL.out; simp; omega
      rcases hcm with ⟨a, rfl⟩ | ⟨⟨a, b⟩, rfl⟩ | ⟨a, rfl⟩
      all_goals
        have d1 := hc.out
        have d1 := beq_iff_eq.2 d1
        go_wp2_with fail
        refine (len_ok p r n q w4 q4).mono ?_
        rintro e w5 ⟨rfl, rfl⟩
        go_wp2_with fail
        refine (room_ok p r n q w4 n2 q4).mono ?_
        rintro e w5 ⟨rfl, ⟨kd, rfl⟩⟩
        go_wp2_with fail
        go_ret
        refine ⟨?_, v4.drewN _⟩
        have h1 := hc.out
        have h2 := HL.out
        clear d1 d2
        simp
        omega

theorem sizes_row (m : Int) (w : World) (_ : (Lit.int .i64 m).wf = true) : Calls Try.prog 5 #[.int .i64 m] w fun e w' => e = .returned (.bool true) ∧ Below w.heap.size w w' :=
  (sizes_walk m w).mono fun _ _ h => ⟨h.1, h.2.nil_below⟩
end Go.Proofs.Ytlpfibmehlpdiaa
