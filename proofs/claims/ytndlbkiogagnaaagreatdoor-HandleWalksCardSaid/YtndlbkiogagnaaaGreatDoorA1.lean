/- ascii: letter, mark, Token, digit, Number, Trim. -/
import Derived.Test.YtndlbkiogagnaaaGreatDoorProg
import Derived.Test.YtndlbkiogagnaaaGreatDoorQt
import Derived.Test.YtndlbkiogagnaaaGreatDoorA0
import Derived.Test.YtndlbkiogagnaaaGreatDoorStr
import Derived.Test.YtndlbkiogagnaaaGreatDoorBits
import Derived.Deep.DeepCutAuto
import Derived.Deep.RegionWith
namespace Go.Proofs.YtndlbkiogagnaaaGreatDoor
set_option linter.unusedSimpArgs false
set_option linter.unusedVariables false
set_option linter.unnecessarySimpa false
open Go.RowKit BigFrame

theorem u8_or (a b : Nat) (ha : a < 256) (hb : b < 256) : bits .or .u8 (a : Int) (b : Int) = ((a ||| b : Nat) : Int) := by
  have h1 : (BitVec.ofInt 8 (a : Int)).toNat = a := by rw [BitVec.toNat_ofInt]; omega
  have h2 : (BitVec.ofInt 8 (b : Int)).toNat = b := by rw [BitVec.toNat_ofInt]; omega
  have h3 : a ||| b < 2 ^ 8 := Nat.or_lt_two_pow (by omega) (by omega)
  show IntKind.u8.wrap ((BitVec.ofInt 8 (a : Int) ||| BitVec.ofInt 8 (b : Int)).toNat : Nat) = _
  rw [BitVec.toNat_or, h1, h2, IntKind.wrap_u8]
  omega
theorem low (n : Nat) (hn : n < 256) : bits .or .u8 (n : Int) 32 = ((n ||| 32 : Nat) : Int) ∧ n ||| 32 < 256 := ⟨u8_or n 32 hn (by omega), Nat.or_lt_two_pow (n := 8) (by omega) (by omega)⟩

def letB (n : Nat) : Bool := decide (97 ≤ n ||| 32) && decide (n ||| 32 ≤ 122)
def marks : List Nat := [33, 35, 36, 37, 38, 39, 42, 43, 45, 46, 94, 95, 124, 126, 96]
def markB (n : Nat) : Bool := marks.contains n || (letB n || (decide (48 ≤ n) && decide (n ≤ 57)))

theorem letter_ok (n : Nat) (w : World) (hn : n < 256) :
    Calls Tryz.prog 163 #[.int .u8 n] w fun e w' => e = .returned (.bool (letB n)) ∧ Upd [] w w' := by
  obtain ⟨ho, h1⟩ := low n hn
  have HB := Hd.mk (show letB n = (decide (97 ≤ n ||| 32) && decide (n ||| 32 ≤ 122)) from rfl)
  generalize letB n = lb at *
  generalize n ||| 32 = m at *
  by_cases c1 : 97 ≤ m
  · by_cases c2 : m ≤ 122
    · go_enter Tryz.func163, Tryz.ntmps163
      go_wp2_with fail
      go_ret
      exact ⟨rb (by rw [HB.out, Bool.eq_iff_iff]; simp <;> omega), Upd.refl _ _⟩
    · go_enter Tryz.func163, Tryz.ntmps163
      go_wp2_with fail
      go_ret
      exact ⟨rb (by rw [HB.out, Bool.eq_iff_iff]; simp <;> omega), Upd.refl _ _⟩
  · go_enter Tryz.func163, Tryz.ntmps163
    go_wp2_with fail
    go_ret
    exact ⟨rb (by rw [HB.out, Bool.eq_iff_iff]; simp <;> omega), Upd.refl _ _⟩

theorem mark_ok (n : Nat) (w : World) (hn : n < 256) :
    Calls Tryz.prog 139 #[.int .u8 n] w fun e w' => e = .returned (.bool (markB n)) ∧ Upd [] w w' := by
  by_cases hm : n = 33 ∨ n = 35 ∨ n = 36 ∨ n = 37 ∨ n = 38 ∨ n = 39 ∨ n = 42 ∨ n = 43 ∨ n = 45 ∨ n = 46 ∨ n = 94 ∨ n = 95 ∨ n = 124 ∨ n = 126 ∨ n = 96
  · have HB : Hd (markB n = true) := Hd.mk (by
      have : marks.contains n = true := by
        rw [List.contains_iff_mem]
        unfold marks
        simp only [List.mem_cons, List.not_mem_nil, or_false]
        exact hm
      unfold markB
      rw [this]
      rfl)
    rcases hm with rfl | rfl | rfl | rfl | rfl | rfl | rfl | rfl | rfl | rfl | rfl | rfl | rfl | rfl | rfl
    all_goals
      go_enter Tryz.func139, Tryz.ntmps139
      go_wp2_with fail
      go_ret
      exact ⟨rb HB.out.symm, Upd.refl _ _⟩
  · have HB : Hd (markB n = (letB n || (decide (48 ≤ n) && decide (n ≤ 57)))) := Hd.mk (by
      have : marks.contains n = false := by
        rw [← Bool.not_eq_true, List.contains_iff_mem]
        unfold marks
        simp only [List.mem_cons, List.not_mem_nil, or_false]
        exact hm
      unfold markB
      rw [this]
      rfl)
    have a1 : ¬ n = 33 := by omega
    have a2 : ¬ n = 35 := by omega
    have a3 : ¬ n = 36 := by omega
    have a4 : ¬ n = 37 := by omega
    have a5 : ¬ n = 38 := by omega
    have a6 : ¬ n = 39 := by omega
    have a7 : ¬ n = 42 := by omega
    have a8 : ¬ n = 43 := by omega
    have a9 : ¬ n = 45 := by omega
    have a10 : ¬ n = 46 := by omega
    have a11 : ¬ n = 94 := by omega
    have a12 : ¬ n = 95 := by omega
    have a13 : ¬ n = 124 := by omega
    have a14 : ¬ n = 126 := by omega
    have a15 : ¬ n = 96 := by omega
    clear hm
    go_enter Tryz.func139, Tryz.ntmps139
    go_wp2_with fail
    refine (letter_ok n w hn).mono ?_
    rintro e w1 ⟨rfl, u1⟩
    generalize letB n = b at *
    cases b with
    | true =>
      go_wp2_with fail
      go_ret
      exact ⟨rb (by rw [HB.out]; rfl), u1⟩
    | false =>
      by_cases d1 : 48 ≤ n
      · by_cases d2 : n ≤ 57
        · go_wp2_with fail
          go_ret
          exact ⟨rb (by rw [HB.out, Bool.eq_iff_iff]; simp <;> omega), u1⟩
        · go_wp2_with fail
          go_ret
          exact ⟨rb (by rw [HB.out, Bool.eq_iff_iff]; simp <;> omega), u1⟩
      · go_wp2_with fail
        go_ret
        exact ⟨rb (by rw [HB.out, Bool.eq_iff_iff]; simp <;> omega), u1⟩

def digI (c : UInt8) : Int := match dig c with | some d => d | none => -1
theorem digit_ok (c : UInt8) (w : World) :
    Calls Tryz.prog 121 #[.int .u8 c.toNat, .int .i64 10] w fun e w' => e = .returned (.int .i64 (digI c)) ∧ Upd [] w w' := by
  have hn : c.toNat < 256 := c.toNat_lt
  have hd : digI c = if 48 ≤ c.toNat ∧ c.toNat ≤ 57 then (c.toNat : Int) - 48 else -1 := by
    unfold digI dig
    split <;> rename_i h
    · split at h
      · rename_i h2; rw [if_pos h2]; simp at h; omega
      · cases h
    · split at h
      · cases h
      · rename_i h2; rw [if_neg h2]
  rw [hd]
  clear hd
  generalize c.toNat = n at *
  obtain ⟨ho, h1⟩ := low n hn
  generalize n ||| 32 = m at *
  by_cases c1 : 48 ≤ n
  · by_cases c2 : n ≤ 57
    · rw [if_pos ⟨c1, c2⟩]
      go_enter Tryz.func121, Tryz.ntmps121
      go_wp2_with fail
      go_ret
      exact ⟨rfl, Upd.refl _ _⟩
    · rw [if_neg (by omega)]
      by_cases d1 : 97 ≤ m
      · by_cases d2 : m ≤ 102
        · go_enter Tryz.func121, Tryz.ntmps121
          go_wp2_with fail
          go_ret
          exact ⟨rfl, Upd.refl _ _⟩
        · go_enter Tryz.func121, Tryz.ntmps121
          go_wp2_with fail
          go_ret
          exact ⟨rfl, Upd.refl _ _⟩
      · go_enter Tryz.func121, Tryz.ntmps121
        go_wp2_with fail
        go_ret
        exact ⟨rfl, Upd.refl _ _⟩
  · rw [if_neg (by omega)]
    by_cases d1 : 97 ≤ m
    · by_cases d2 : m ≤ 102
      · go_enter Tryz.func121, Tryz.ntmps121
        go_wp2_with fail
        go_ret
        exact ⟨rfl, Upd.refl _ _⟩
      · go_enter Tryz.func121, Tryz.ntmps121
        go_wp2_with fail
        go_ret
        exact ⟨rfl, Upd.refl _ _⟩
    · go_enter Tryz.func121, Tryz.ntmps121
      go_wp2_with fail
      go_ret
      exact ⟨rfl, Upd.refl _ _⟩
end Go.Proofs.YtndlbkiogagnaaaGreatDoor
