/- NetCloses: a connection that is closed, or gone, takes no bytes from either side. -/
import Derived.Test.YtpjkckhgkaefdaaN8
namespace Go.Proofs.Ytpjkckhgkaefdaa
set_option linter.unusedSimpArgs false
set_option linter.unusedVariables false
set_option linter.unnecessarySimpa false
open Go.RowKit BigFrame

theorem empty_size : (⟨#[]⟩ : ByteArray).size = 0 := rfl
theorem empty_app (s : ByteArray) : ⟨#[]⟩ ++ s = s := by
  apply ByteArray.ext; simp

set_option maxHeartbeats 1000000 in
theorem closes_walk (s : ByteArray) (how : Int) (w : World) (_ : s.size ≤ 9223372036854775807) :
    Calls Try.prog 4 #[.string s, .int .i64 how] w fun e w' => e = .returned (.bool true) ∧ Upd [] w w' := by
  cases he : s.toList.isEmpty
  case true =>
    go_enter Try.func4, Try.ntmps4
    go_wp2_with fail
    refine (fit_ok w).mono ?_
    rintro e w1 ⟨rfl, u1⟩
    go_wp2_with fail
    go_ret
    exact ⟨rfl, u1⟩
  by_cases hl : 100 < s.size
  · go_enter Try.func4, Try.ntmps4
    go_wp2_with fail
    refine (fit_ok w).mono ?_
    rintro e w1 ⟨rfl, u1⟩
    go_wp2_with fail
    go_ret
    exact ⟨rfl, u1⟩
  have hl : s.size ≤ 100 := by omega
  have M2 : how % 2 = 0 ∨ how % 2 = 1 := by omega
  rcases M2 with m2 | m2
  · go_enter Try.func4, Try.ntmps4
    go_wp2_with fail
    refine (fit_ok w).mono ?_
    rintro e w1 ⟨rfl, u1⟩
    have HE := Hd.mk he
    go_wp2_with fail
    clear he
    have q0 := Own.new u1
    generalize hp : w1.heap.size = p at q0
    refine (o_dial w p 0 _ [] _ q0 (by omega) (by simp)).mono ?_
    rintro e w2 ⟨rfl, q1⟩
    clear q0 u1 hp
    have F1 : Hd (dialTo (fun _ => Cn.new) 0 0 = Cn.new) := Hd.mk rfl
    generalize dialTo (fun _ => Cn.new) 0 = M1 at q1 F1
    go_wp2_with fail
    refine (t_write w p 1 M1 [0] _ 0 s q1 (by rw [show ((0 : Int)) = ((0 : Nat) : Int) from rfl, nth_in (by omega), F1.out]; try (simp [Cn.new, inn, sendOk, Cn.open3, Cn.open2, HE.out, empty_app, empty_size] <;> omega))).mono ?_
    rintro e w2 ⟨rfl, q2⟩
    have f2 := F1.out
    replace f2 : apM M1 1 0 (Cn.mwrite s) 0 = { Cn.new with written := s } := by rw [show ((0 : Int)) = ((0 : Nat) : Int) from rfl, apM_self _ (by omega), f2]; simp [Cn.send, Cn.mwrite, Cn.mclose, Cn.mreset, Cn.mread, Cn.mshut, sendOk, Cn.open2, Cn.open3, Cn.new, HE.out, empty_app]
    have F2 := Hd.mk f2
    clear f2 F1 q1
    generalize apM M1 1 0 (Cn.mwrite s) = M2 at q2 F2
    go_wp2_with fail
    refine (t_send w p 1 M2 [0] _ 0 s true q2 (by rw [show ((0 : Int)) = ((0 : Nat) : Int) from rfl, nth_in (by omega), F2.out]; try (simp [Cn.new, inn, sendOk, Cn.open3, Cn.open2, HE.out, empty_app, empty_size] <;> omega)) (by rw [show ((0 : Int)) = ((0 : Nat) : Int) from rfl, nth_in (by omega), F2.out]; try (simp [Cn.new, inn, sendOk, Cn.open3, Cn.open2, HE.out, empty_app, empty_size] <;> omega)) (by rw [show ((0 : Int)) = ((0 : Nat) : Int) from rfl, nth_in (by omega), F2.out]; try (simp [Cn.new, inn, sendOk, Cn.open3, Cn.open2, HE.out, empty_app, empty_size] <;> omega))).mono ?_
    rintro e w3 ⟨rfl, q3⟩
    have f3 := F2.out
    replace f3 : apM M2 1 0 (Cn.send s) 0 = { Cn.new with written := s, inn := [s], came := s.size } := by rw [show ((0 : Int)) = ((0 : Nat) : Int) from rfl, apM_self _ (by omega), f3]; simp [Cn.send, Cn.mwrite, Cn.mclose, Cn.mreset, Cn.mread, Cn.mshut, sendOk, Cn.open2, Cn.open3, Cn.new, HE.out, empty_app]
    have F3 := Hd.mk f3
    clear f3 F2 q2
    generalize apM M2 1 0 (Cn.send s) = M3 at q3 F3
    go_wp2_with fail
    refine (t_close w p 1 M3 [0] _ 0 q3 ).mono ?_
    rintro e w4 ⟨rfl, q4⟩
    have f4 := F3.out
    replace f4 : apM M3 1 0 (Cn.mclose) 0 = { Cn.new with written := s, inn := [s], came := s.size, closed := true } := by rw [show ((0 : Int)) = ((0 : Nat) : Int) from rfl, apM_self _ (by omega), f4]; simp [Cn.send, Cn.mwrite, Cn.mclose, Cn.mreset, Cn.mread, Cn.mshut, sendOk, Cn.open2, Cn.open3, Cn.new, HE.out, empty_app]
    have F4 := Hd.mk f4
    clear f4 F3 q3
    generalize apM M3 1 0 (Cn.mclose) = M4 at q4 F4
    go_wp2_with fail
    refine (t_write w p 1 M4 [0] _ 0 s q4 (by rw [show ((0 : Int)) = ((0 : Nat) : Int) from rfl, nth_in (by omega), F4.out]; try (simp [Cn.new, inn, sendOk, Cn.open3, Cn.open2, HE.out, empty_app, empty_size] <;> omega))).mono ?_
    rintro e w5 ⟨rfl, q5⟩
    have f5 := F4.out
    replace f5 : apM M4 1 0 (Cn.mwrite s) 0 = { Cn.new with written := s, inn := [s], came := s.size, closed := true } := by rw [show ((0 : Int)) = ((0 : Nat) : Int) from rfl, apM_self _ (by omega), f5]; simp [Cn.send, Cn.mwrite, Cn.mclose, Cn.mreset, Cn.mread, Cn.mshut, sendOk, Cn.open2, Cn.open3, Cn.new, HE.out, empty_app]
    have F5 := Hd.mk f5
    clear f5 F4 q4
    generalize apM M4 1 0 (Cn.mwrite s) = M5 at q5 F5
    go_wp2_with fail
    refine (t_send w p 1 M5 [0] _ 0 s false q5 (by rw [show ((0 : Int)) = ((0 : Nat) : Int) from rfl, nth_in (by omega), F5.out]; try (simp [Cn.new, inn, sendOk, Cn.open3, Cn.open2, HE.out, empty_app, empty_size] <;> omega)) (by rw [show ((0 : Int)) = ((0 : Nat) : Int) from rfl, nth_in (by omega), F5.out]; try (simp [Cn.new, inn, sendOk, Cn.open3, Cn.open2, HE.out, empty_app, empty_size] <;> omega)) (by rw [show ((0 : Int)) = ((0 : Nat) : Int) from rfl, nth_in (by omega), F5.out]; try (simp [Cn.new, inn, sendOk, Cn.open3, Cn.open2, HE.out, empty_app, empty_size] <;> omega))).mono ?_
    rintro e w6 ⟨rfl, q6⟩
    have f6 := F5.out
    replace f6 : apM M5 1 0 (Cn.send s) 0 = { Cn.new with written := s, inn := [s], came := s.size, closed := true } := by rw [show ((0 : Int)) = ((0 : Nat) : Int) from rfl, apM_self _ (by omega), f6]; simp [Cn.send, Cn.mwrite, Cn.mclose, Cn.mreset, Cn.mread, Cn.mshut, sendOk, Cn.open2, Cn.open3, Cn.new, HE.out, empty_app]
    have F6 := Hd.mk f6
    clear f6 F5 q5
    generalize apM M5 1 0 (Cn.send s) = M6 at q6 F6
    go_wp2_with fail
    refine (t_shut w p 1 M6 [0] _ 0 false q6 (by rw [show ((0 : Int)) = ((0 : Nat) : Int) from rfl, nth_in (by omega), F6.out]; try (simp [Cn.new, inn, sendOk, Cn.open3, Cn.open2, HE.out, empty_app, empty_size] <;> omega))).mono ?_
    rintro e w7 ⟨rfl, q7⟩
    have f7 := F6.out
    replace f7 : apM M6 1 0 (Cn.mshut) 0 = { Cn.new with written := s, inn := [s], came := s.size, closed := true } := by rw [show ((0 : Int)) = ((0 : Nat) : Int) from rfl, apM_self _ (by omega), f7]; simp [Cn.send, Cn.mwrite, Cn.mclose, Cn.mreset, Cn.mread, Cn.mshut, sendOk, Cn.open2, Cn.open3, Cn.new, HE.out, empty_app]
    have F7 := Hd.mk f7
    clear f7 F6 q6
    generalize apM M6 1 0 (Cn.mshut) = M7 at q7 F7
    go_wp2_with fail
    refine (t_read w p 1 M7 [0] _ 0 s true q7 (by rw [show ((0 : Int)) = ((0 : Nat) : Int) from rfl, nth_in (by omega), F7.out]; try (simp [Cn.new, inn, sendOk, Cn.open3, Cn.open2, HE.out, empty_app, empty_size] <;> omega)) (by rw [show ((0 : Int)) = ((0 : Nat) : Int) from rfl, nth_in (by omega), F7.out]; try (simp [Cn.new, inn, sendOk, Cn.open3, Cn.open2, HE.out, empty_app, empty_size] <;> omega)) (by rw [show ((0 : Int)) = ((0 : Nat) : Int) from rfl, nth_in (by omega), F7.out]; try (simp [Cn.new, inn, sendOk, Cn.open3, Cn.open2, HE.out, empty_app, empty_size] <;> omega))).mono ?_
    rintro e w8 ⟨rfl, q8⟩
    have f8 := F7.out
    replace f8 : apM M7 1 0 (Cn.mread) 0 = { Cn.new with written := s, inn := [], came := s.size, closed := true } := by rw [show ((0 : Int)) = ((0 : Nat) : Int) from rfl, apM_self _ (by omega), f8]; simp [Cn.send, Cn.mwrite, Cn.mclose, Cn.mreset, Cn.mread, Cn.mshut, sendOk, Cn.open2, Cn.open3, Cn.new, HE.out, empty_app]
    have F8 := Hd.mk f8
    clear f8 F7 q7
    generalize apM M7 1 0 (Cn.mread) = M8 at q8 F8
    go_wp2_with fail
    refine (t_reset w p 1 M8 [0] _ 0 false q8 (by rw [show ((0 : Int)) = ((0 : Nat) : Int) from rfl, nth_in (by omega), F8.out]; try (simp [Cn.new, inn, sendOk, Cn.open3, Cn.open2, HE.out, empty_app, empty_size] <;> omega))).mono ?_
    rintro e w9 ⟨rfl, q9⟩
    have f9 := F8.out
    replace f9 : apM M8 1 0 (Cn.mreset) 0 = { Cn.new with written := s, inn := [], came := s.size, closed := true } := by rw [show ((0 : Int)) = ((0 : Nat) : Int) from rfl, apM_self _ (by omega), f9]; simp [Cn.send, Cn.mwrite, Cn.mclose, Cn.mreset, Cn.mread, Cn.mshut, sendOk, Cn.open2, Cn.open3, Cn.new, HE.out, empty_app]
    have F9 := Hd.mk f9
    clear f9 F8 q8
    generalize apM M8 1 0 (Cn.mreset) = M9 at q9 F9
    go_wp2_with fail
    have c1 := Hd.mk (q9.q_written 0 s (by rw [show ((0 : Int)) = ((0 : Nat) : Int) from rfl, nth_in (by omega), F9.out]; try (simp [Cn.new, inn, sendOk, Cn.open3, Cn.open2, HE.out, empty_app, empty_size] <;> omega)))
    have c2 := Hd.mk (q9.q_came 0 s.size (by rw [show ((0 : Int)) = ((0 : Nat) : Int) from rfl, nth_in (by omega), F9.out]; try (simp [Cn.new, inn, sendOk, Cn.open3, Cn.open2, HE.out, empty_app, empty_size] <;> omega)))
    have c3 := Hd.mk (q9.q_closed 0 true (by rw [show ((0 : Int)) = ((0 : Nat) : Int) from rfl, nth_in (by omega), F9.out]; try (simp [Cn.new, inn, sendOk, Cn.open3, Cn.open2, HE.out, empty_app, empty_size] <;> omega)))
    have c4 := Hd.mk (q9.q_gone 0 false (by rw [show ((0 : Int)) = ((0 : Nat) : Int) from rfl, nth_in (by omega), F9.out]; try (simp [Cn.new, inn, sendOk, Cn.open3, Cn.open2, HE.out, empty_app, empty_size] <;> omega)))
    have u9 := Hd.mk q9.out
    clear q9 F9
    refine (c1.out 0).mono ?_
    rintro e v0 ⟨rfl, k0, rfl⟩
    go_wp2_with fail
    refine (c2.out _).mono ?_
    rintro e v1 ⟨rfl, k1, rfl⟩
    go_wp2_with fail
    refine (c3.out _).mono ?_
    rintro e v2 ⟨rfl, k2, rfl⟩
    go_wp2_with fail
    refine (c4.out _).mono ?_
    rintro e v3 ⟨rfl, k3, rfl⟩
    go_wp2_with fail
    go_ret
    exact ⟨rfl, u9.out.drewN _⟩
  · go_enter Try.func4, Try.ntmps4
    go_wp2_with fail
    refine (fit_ok w).mono ?_
    rintro e w1 ⟨rfl, u1⟩
    have HE := Hd.mk he
    go_wp2_with fail
    clear he
    have q0 := Own.new u1
    generalize hp : w1.heap.size = p at q0
    refine (o_dial w p 0 _ [] _ q0 (by omega) (by simp)).mono ?_
    rintro e w2 ⟨rfl, q1⟩
    clear q0 u1 hp
    have F1 : Hd (dialTo (fun _ => Cn.new) 0 0 = Cn.new) := Hd.mk rfl
    generalize dialTo (fun _ => Cn.new) 0 = M1 at q1 F1
    go_wp2_with fail
    refine (t_write w p 1 M1 [0] _ 0 s q1 (by rw [show ((0 : Int)) = ((0 : Nat) : Int) from rfl, nth_in (by omega), F1.out]; try (simp [Cn.new, inn, sendOk, Cn.open3, Cn.open2, HE.out, empty_app, empty_size] <;> omega))).mono ?_
    rintro e w2 ⟨rfl, q2⟩
    have f2 := F1.out
    replace f2 : apM M1 1 0 (Cn.mwrite s) 0 = { Cn.new with written := s } := by rw [show ((0 : Int)) = ((0 : Nat) : Int) from rfl, apM_self _ (by omega), f2]; simp [Cn.send, Cn.mwrite, Cn.mclose, Cn.mreset, Cn.mread, Cn.mshut, sendOk, Cn.open2, Cn.open3, Cn.new, HE.out, empty_app]
    have F2 := Hd.mk f2
    clear f2 F1 q1
    generalize apM M1 1 0 (Cn.mwrite s) = M2 at q2 F2
    go_wp2_with fail
    refine (t_send w p 1 M2 [0] _ 0 s true q2 (by rw [show ((0 : Int)) = ((0 : Nat) : Int) from rfl, nth_in (by omega), F2.out]; try (simp [Cn.new, inn, sendOk, Cn.open3, Cn.open2, HE.out, empty_app, empty_size] <;> omega)) (by rw [show ((0 : Int)) = ((0 : Nat) : Int) from rfl, nth_in (by omega), F2.out]; try (simp [Cn.new, inn, sendOk, Cn.open3, Cn.open2, HE.out, empty_app, empty_size] <;> omega)) (by rw [show ((0 : Int)) = ((0 : Nat) : Int) from rfl, nth_in (by omega), F2.out]; try (simp [Cn.new, inn, sendOk, Cn.open3, Cn.open2, HE.out, empty_app, empty_size] <;> omega))).mono ?_
    rintro e w3 ⟨rfl, q3⟩
    have f3 := F2.out
    replace f3 : apM M2 1 0 (Cn.send s) 0 = { Cn.new with written := s, inn := [s], came := s.size } := by rw [show ((0 : Int)) = ((0 : Nat) : Int) from rfl, apM_self _ (by omega), f3]; simp [Cn.send, Cn.mwrite, Cn.mclose, Cn.mreset, Cn.mread, Cn.mshut, sendOk, Cn.open2, Cn.open3, Cn.new, HE.out, empty_app]
    have F3 := Hd.mk f3
    clear f3 F2 q2
    generalize apM M2 1 0 (Cn.send s) = M3 at q3 F3
    go_wp2_with fail
    refine (t_reset w p 1 M3 [0] _ 0 true q3 (by rw [show ((0 : Int)) = ((0 : Nat) : Int) from rfl, nth_in (by omega), F3.out]; try (simp [Cn.new, inn, sendOk, Cn.open3, Cn.open2, HE.out, empty_app, empty_size] <;> omega))).mono ?_
    rintro e w4 ⟨rfl, q4⟩
    have f4 := F3.out
    replace f4 : apM M3 1 0 (Cn.mreset) 0 = { Cn.new with written := s, inn := [], came := s.size, reset := true } := by rw [show ((0 : Int)) = ((0 : Nat) : Int) from rfl, apM_self _ (by omega), f4]; simp [Cn.send, Cn.mwrite, Cn.mclose, Cn.mreset, Cn.mread, Cn.mshut, sendOk, Cn.open2, Cn.open3, Cn.new, HE.out, empty_app]
    have F4 := Hd.mk f4
    clear f4 F3 q3
    generalize apM M3 1 0 (Cn.mreset) = M4 at q4 F4
    go_wp2_with fail
    refine (t_write w p 1 M4 [0] _ 0 s q4 (by rw [show ((0 : Int)) = ((0 : Nat) : Int) from rfl, nth_in (by omega), F4.out]; try (simp [Cn.new, inn, sendOk, Cn.open3, Cn.open2, HE.out, empty_app, empty_size] <;> omega))).mono ?_
    rintro e w5 ⟨rfl, q5⟩
    have f5 := F4.out
    replace f5 : apM M4 1 0 (Cn.mwrite s) 0 = { Cn.new with written := s, inn := [], came := s.size, reset := true } := by rw [show ((0 : Int)) = ((0 : Nat) : Int) from rfl, apM_self _ (by omega), f5]; simp [Cn.send, Cn.mwrite, Cn.mclose, Cn.mreset, Cn.mread, Cn.mshut, sendOk, Cn.open2, Cn.open3, Cn.new, HE.out, empty_app]
    have F5 := Hd.mk f5
    clear f5 F4 q4
    generalize apM M4 1 0 (Cn.mwrite s) = M5 at q5 F5
    go_wp2_with fail
    refine (t_send w p 1 M5 [0] _ 0 s false q5 (by rw [show ((0 : Int)) = ((0 : Nat) : Int) from rfl, nth_in (by omega), F5.out]; try (simp [Cn.new, inn, sendOk, Cn.open3, Cn.open2, HE.out, empty_app, empty_size] <;> omega)) (by rw [show ((0 : Int)) = ((0 : Nat) : Int) from rfl, nth_in (by omega), F5.out]; try (simp [Cn.new, inn, sendOk, Cn.open3, Cn.open2, HE.out, empty_app, empty_size] <;> omega)) (by rw [show ((0 : Int)) = ((0 : Nat) : Int) from rfl, nth_in (by omega), F5.out]; try (simp [Cn.new, inn, sendOk, Cn.open3, Cn.open2, HE.out, empty_app, empty_size] <;> omega))).mono ?_
    rintro e w6 ⟨rfl, q6⟩
    have f6 := F5.out
    replace f6 : apM M5 1 0 (Cn.send s) 0 = { Cn.new with written := s, inn := [], came := s.size, reset := true } := by rw [show ((0 : Int)) = ((0 : Nat) : Int) from rfl, apM_self _ (by omega), f6]; simp [Cn.send, Cn.mwrite, Cn.mclose, Cn.mreset, Cn.mread, Cn.mshut, sendOk, Cn.open2, Cn.open3, Cn.new, HE.out, empty_app]
    have F6 := Hd.mk f6
    clear f6 F5 q5
    generalize apM M5 1 0 (Cn.send s) = M6 at q6 F6
    go_wp2_with fail
    refine (t_shut w p 1 M6 [0] _ 0 false q6 (by rw [show ((0 : Int)) = ((0 : Nat) : Int) from rfl, nth_in (by omega), F6.out]; try (simp [Cn.new, inn, sendOk, Cn.open3, Cn.open2, HE.out, empty_app, empty_size] <;> omega))).mono ?_
    rintro e w7 ⟨rfl, q7⟩
    have f7 := F6.out
    replace f7 : apM M6 1 0 (Cn.mshut) 0 = { Cn.new with written := s, inn := [], came := s.size, reset := true } := by rw [show ((0 : Int)) = ((0 : Nat) : Int) from rfl, apM_self _ (by omega), f7]; simp [Cn.send, Cn.mwrite, Cn.mclose, Cn.mreset, Cn.mread, Cn.mshut, sendOk, Cn.open2, Cn.open3, Cn.new, HE.out, empty_app]
    have F7 := Hd.mk f7
    clear f7 F6 q6
    generalize apM M6 1 0 (Cn.mshut) = M7 at q7 F7
    go_wp2_with fail
    refine (t_read w p 1 M7 [0] _ 0 ⟨#[]⟩ false q7 (by rw [show ((0 : Int)) = ((0 : Nat) : Int) from rfl, nth_in (by omega), F7.out]; try (simp [Cn.new, inn, sendOk, Cn.open3, Cn.open2, HE.out, empty_app, empty_size] <;> omega)) (by rw [show ((0 : Int)) = ((0 : Nat) : Int) from rfl, nth_in (by omega), F7.out]; try (simp [Cn.new, inn, sendOk, Cn.open3, Cn.open2, HE.out, empty_app, empty_size] <;> omega)) (by rw [show ((0 : Int)) = ((0 : Nat) : Int) from rfl, nth_in (by omega), F7.out]; try (simp [Cn.new, inn, sendOk, Cn.open3, Cn.open2, HE.out, empty_app, empty_size] <;> omega))).mono ?_
    rintro e w8 ⟨rfl, q8⟩
    have f8 := F7.out
    replace f8 : apM M7 1 0 (Cn.mread) 0 = { Cn.new with written := s, inn := [], came := s.size, reset := true } := by rw [show ((0 : Int)) = ((0 : Nat) : Int) from rfl, apM_self _ (by omega), f8]; simp [Cn.send, Cn.mwrite, Cn.mclose, Cn.mreset, Cn.mread, Cn.mshut, sendOk, Cn.open2, Cn.open3, Cn.new, HE.out, empty_app]
    have F8 := Hd.mk f8
    clear f8 F7 q7
    generalize apM M7 1 0 (Cn.mread) = M8 at q8 F8
    go_wp2_with fail
    refine (t_reset w p 1 M8 [0] _ 0 false q8 (by rw [show ((0 : Int)) = ((0 : Nat) : Int) from rfl, nth_in (by omega), F8.out]; try (simp [Cn.new, inn, sendOk, Cn.open3, Cn.open2, HE.out, empty_app, empty_size] <;> omega))).mono ?_
    rintro e w9 ⟨rfl, q9⟩
    have f9 := F8.out
    replace f9 : apM M8 1 0 (Cn.mreset) 0 = { Cn.new with written := s, inn := [], came := s.size, reset := true } := by rw [show ((0 : Int)) = ((0 : Nat) : Int) from rfl, apM_self _ (by omega), f9]; simp [Cn.send, Cn.mwrite, Cn.mclose, Cn.mreset, Cn.mread, Cn.mshut, sendOk, Cn.open2, Cn.open3, Cn.new, HE.out, empty_app]
    have F9 := Hd.mk f9
    clear f9 F8 q8
    generalize apM M8 1 0 (Cn.mreset) = M9 at q9 F9
    go_wp2_with fail
    have c1 := Hd.mk (q9.q_written 0 s (by rw [show ((0 : Int)) = ((0 : Nat) : Int) from rfl, nth_in (by omega), F9.out]; try (simp [Cn.new, inn, sendOk, Cn.open3, Cn.open2, HE.out, empty_app, empty_size] <;> omega)))
    have c2 := Hd.mk (q9.q_came 0 s.size (by rw [show ((0 : Int)) = ((0 : Nat) : Int) from rfl, nth_in (by omega), F9.out]; try (simp [Cn.new, inn, sendOk, Cn.open3, Cn.open2, HE.out, empty_app, empty_size] <;> omega)))
    have c3 := Hd.mk (q9.q_closed 0 false (by rw [show ((0 : Int)) = ((0 : Nat) : Int) from rfl, nth_in (by omega), F9.out]; try (simp [Cn.new, inn, sendOk, Cn.open3, Cn.open2, HE.out, empty_app, empty_size] <;> omega)))
    have c4 := Hd.mk (q9.q_gone 0 true (by rw [show ((0 : Int)) = ((0 : Nat) : Int) from rfl, nth_in (by omega), F9.out]; try (simp [Cn.new, inn, sendOk, Cn.open3, Cn.open2, HE.out, empty_app, empty_size] <;> omega)))
    have u9 := Hd.mk q9.out
    clear q9 F9
    refine (c1.out 0).mono ?_
    rintro e v0 ⟨rfl, k0, rfl⟩
    go_wp2_with fail
    refine (c2.out _).mono ?_
    rintro e v1 ⟨rfl, k1, rfl⟩
    go_wp2_with fail
    refine (c3.out _).mono ?_
    rintro e v2 ⟨rfl, k2, rfl⟩
    go_wp2_with fail
    refine (c4.out _).mono ?_
    rintro e v3 ⟨rfl, k3, rfl⟩
    go_wp2_with fail
    go_ret
    exact ⟨rfl, u9.out.drewN _⟩

theorem closes_row (s : ByteArray) (how : Int) (w : World) (hs : s.size ≤ 9223372036854775807) (_ : (Lit.int .i64 how).wf = true) : Calls Try.prog 4 #[.string s, .int .i64 how] w fun e w' => e = .returned (.bool true) ∧ Below w.heap.size w w' :=
  (closes_walk s how w hs).mono fun _ _ h => ⟨h.1, h.2.nil_below⟩
end Go.Proofs.Ytpjkckhgkaefdaa
