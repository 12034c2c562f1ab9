/- Chain: the law's own digits. -/
import Derived.Test.YtghjdjbjdjbkkaaDoorK5
import Derived.Test.YtghjdjbjdjbkkaaDoorBs
namespace Go.Proofs.YtghjdjbjdjbkkaaDoor
set_option linter.unusedSimpArgs false
set_option linter.unusedVariables false
set_option linter.unnecessarySimpa false
open Go.RowKit BigFrame

theorem conv1 (W : World) (b d : Nat) (h : Blk W b [B8 d] 5) : (convert 50 9 (.slice (some ⟨b, 0, none⟩) 1 1)).run Tryd.prog W = .ok (.string ⟨#[UInt8.ofNat d]⟩) W :=
  run_string_sl (P := Tryd.prog) 50 5 Tryd.underlying50 Tryd.underlying5 (l := [d]) (h.sl 1 1 rfl (by unfold maxLen; omega)) 9 Tryd.underlying9
theorem dec_len (n k : Nat) (hk : 0 < k) (h : n < 10 ^ k) : (Lib.decDigits n).length ≤ k := by
  induction k generalizing n with
  | zero => omega
  | succ k ih =>
    by_cases h2 : n < 10
    · rw [dec1 n h2]; simp
    · rw [Lib.decDigits, dif_neg h2, List.length_append]
      have hk0 : 0 < k := by
        rcases Nat.eq_zero_or_pos k with e | e
        · subst e; simp at h; omega
        · exact e
      have := ih (n / 10) hk0 (Nat.div_lt_of_lt_mul (by rw [Nat.mul_comm, ← Nat.pow_succ]; exact h))
      simp
      omega
def decB (n : Nat) : ByteArray := ⟨(Lib.decDigits n).toArray⟩
theorem decB_size (n : Nat) (h : n ≤ 9223372036854775807) : (decB n).size ≤ 19 := by
  have := dec_len n 19 (by omega) (by omega)
  show (Lib.decDigits n).toArray.size ≤ 19
  simpa using this
set_option maxHeartbeats 1000000 in
theorem digits_nat (n : Nat) (hn : n ≤ 9223372036854775807) (w : World) : Calls Tryd.prog 10 #[.int .i64 n] w fun e w' => e = .returned (.string (decB n)) ∧ Upd [] w w' := by
  induction n using Nat.strongRecOn generalizing w with
  | ind n ih =>
    by_cases h : n < 10
    · have HD := Hd.mk (show decB n = ⟨#[UInt8.ofNat (48 + n)]⟩ by unfold decB; rw [dec1 n h])
      have hcv : (convert 50 9 (.slice (some ⟨w.heap.size, 0, none⟩) 1 1)).run Tryd.prog (w.alloc (.cells #[.int .u8 (48 + (n : Int))] 5)) = .ok (.string ⟨#[UInt8.ofNat (48 + n)]⟩) (w.alloc (.cells #[.int .u8 (48 + (n : Int))] 5)) := by
        have h := conv1 (w.alloc (.cells #[B8 (48 + n)] 5)) w.heap.size (48 + n) (Blk.new w [B8 (48 + n)] 5 _ rfl)
        simp only [B8, show ((48 + n : Nat) : Int) = 48 + (n : Int) by omega] at h
        exact h
      clear ih
      generalize (⟨#[UInt8.ofNat (48 + n)]⟩ : ByteArray) = t at hcv HD
      go_enter Tryd.func10, Tryd.ntmps10
      go_wp2_with fail
      go_ret
      exact ⟨by rw [HD.out]; rfl, (Upd.refl _ _).alloc _⟩
    · have h1 := fun W => ih (n / 10) (by omega) (by omega) W
      have h2 := fun W => ih (n % 10) (by omega) (by omega) W
      have z1 := decB_size (n / 10) (by omega)
      have z2 := decB_size (n % 10) (by omega)
      have HD := Hd.mk (show decB n = decB (n / 10) ++ decB (n % 10) by
        apply ByteArray.ext
        apply Array.toList_inj.1
        unfold decB
        rw [Lib.decDigits, dif_neg h, dec1 (n % 10) (by omega)]
        simp)
      rw [show ((n / 10 : Nat) : Int) = (n : Int) / 10 by omega] at h1
      rw [show ((n % 10 : Nat) : Int) = (n : Int) % 10 by omega] at h2
      have H1 := Hd.mk h1
      have H2 := Hd.mk h2
      obtain ⟨t1, ht1⟩ : ∃ t, decB (n / 10) = t := ⟨_, rfl⟩
      obtain ⟨t2, ht2⟩ : ∃ t, decB (n % 10) = t := ⟨_, rfl⟩
      rw [ht1] at z1 H1 HD
      rw [ht2] at z2 H2 HD
      clear ih h1 h2 ht1 ht2
      go_enter Tryd.func10, Tryd.ntmps10
      go_wp2_with fail
      refine (H1.out w).mono ?_
      rintro e w1 ⟨rfl, u1⟩
      go_wp2_with fail
      refine (H2.out w1).mono ?_
      rintro e w2 ⟨rfl, u2⟩
      go_wp2_with fail
      go_ret
      exact ⟨by rw [HD.out]; rfl, u1.trans u2 (by simp)⟩
theorem digits_ok (z : Int) (h0 : -4611686018427387904 < z) (h1 : z ≤ 9223372036854775807) (w : World) : Calls Tryd.prog 10 #[.int .i64 z] w fun e w' => e = .returned (.string (itoaB z)) ∧ Upd [] w w' := by
  by_cases hz : 0 ≤ z
  · obtain ⟨n, rfl⟩ : ∃ n : Nat, z = n := ⟨z.toNat, by omega⟩
    have h := digits_nat n (by omega) w
    unfold itoaB
    rw [Lib.itoa_nonneg]
    exact h
  · obtain ⟨n, hn⟩ : ∃ n : Nat, -z = n := ⟨(-z).toNat, by omega⟩
    have h := digits_nat n (by omega) w
    have hd := decB_size n (by omega)
    have HD := Hd.mk (show itoaB z = ⟨#[45]⟩ ++ decB n by
      unfold itoaB Lib.itoa decB
      rw [if_pos (by omega), show z.natAbs = n by omega]
      apply ByteArray.ext
      simp)
    rw [← hn] at h
    have H := Hd.mk h
    clear h hn
    have hl : decide (z < 0) = true := decide_eq_true (by omega)
    go_enter Tryd.func10, Tryd.ntmps10
    go_wp2_with fail
    refine H.out.mono ?_
    rintro e w1 ⟨rfl, u1⟩
    go_wp2_with fail
    go_ret
    exact ⟨by rw [HD.out]; rfl, u1⟩
end Go.Proofs.YtghjdjbjdjbkkaaDoor
