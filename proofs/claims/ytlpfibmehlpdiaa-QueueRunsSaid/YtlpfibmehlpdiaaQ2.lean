/- The queue's laws walk: fit, QueueSizes. -/
import Derived.Test.YtlpfibmehlpdiaaQ1
namespace Go.Proofs.Ytlpfibmehlpdiaa
open Go.RowKit BigFrame

/-- A job that tells a connection and a number alone. -/
def jb (c s : Int) (b : ByteArray) : Job := ⟨c, s, ⟨#[]⟩, ⟨#[]⟩, none, 0, 0, b, false⟩

set_option maxHeartbeats 400000 in
theorem fit_ok (w : World) : Calls Try.prog 6 #[] w fun e w' => e = .returned (.bool true) ∧ Upd [] w w' := by
  go_enter Try.func6, Try.ntmps6
  go_wp2_with fail
  refine (new_ok 2 2 w (by decide)).mono ?_
  rintro e w1 ⟨p, r, rfl, hpr, hp, hr, q1, u1⟩
  go_wp2_with fail
  refine (put_room p r 2 [] (jb 1 0 ⟨#[]⟩) w1 hpr (by decide) q1 (by decide)).mono ?_
  rintro e w2 ⟨rfl, q2, u2⟩
  go_wp2_with fail
  refine (put_room p r 2 _ (jb 2 0 ⟨#[]⟩) w2 hpr (by decide) q2 (by decide)).mono ?_
  rintro e w3 ⟨rfl, q3, u3⟩
  go_wp2_with fail
  refine (put_full p r 2 _ (jb 3 0 ⟨#[]⟩) w3 q3 (by decide)).mono ?_
  rintro e w4 ⟨rfl, u4⟩
  have q4 := q3.upd u4 (by simp) (by simp)
  go_wp2_with fail
  refine (take_some p r 2 _ _ w4 hpr (by decide) q4).mono ?_
  rintro e w5 ⟨rfl, q5, u5⟩
  simp only [jb, Job.cells]
  go_wp2_with fail
  refine (len_ok p r 2 _ _ (q5.upd ((Upd.refl [] _).alloc _) (by simp) (by simp))).mono ?_
  rintro e w6 ⟨rfl, rfl⟩
  go_wp2_with fail
  go_ret
  refine ⟨rfl, ?_⟩
  refine Upd.alloc ?_ _
  have v1 : Upd [p, r] w w1 := u1.mono (by simp)
  have v2 := (((v1.trans u2 (by simp)).trans u3 (by simp)).trans u4 (by simp)).trans u5 (by simp)
  exact v2.mono (by intro k hk h; simp at h; omega)
end Go.Proofs.Ytlpfibmehlpdiaa
