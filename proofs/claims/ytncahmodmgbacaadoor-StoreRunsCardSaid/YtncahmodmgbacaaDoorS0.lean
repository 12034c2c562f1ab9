/- Store: what a tag is: plain. -/
import Derived.Test.YtncahmodmgbacaaDoorStr
import Derived.Test.YtncahmodmgbacaaDoorBits
import Derived.Test.YtncahmodmgbacaaDoorIt
namespace Go.Proofs.YtncahmodmgbacaaDoor
set_option linter.unusedSimpArgs false
set_option linter.unusedVariables false
set_option linter.unnecessarySimpa false
open Go.RowKit

def fnvS (n c : Nat) : Nat := (n ^^^ c) * 16777619 % 4294967296
def fnv (l : List UInt8) : Nat := l.foldl (fun n c => fnvS n c.toNat) 2166136261
theorem fnvS_lt (n c : Nat) : fnvS n c < 4294967296 := by unfold fnvS; omega
theorem fnv_snoc (l : List UInt8) (c : UInt8) : fnv (l ++ [c]) = fnvS (fnv l) c.toNat := by unfold fnv; rw [List.foldl_append, List.foldl_cons, List.foldl_nil]
theorem foldr_lt (f : UInt8 → Nat → Nat) (B a : Nat) (ha : a < B) (hf : ∀ x n, f x n < B) : ∀ l : List UInt8, List.foldr f a l < B
  | [] => ha
  | x :: t => hf x _
theorem fnv_foldr (l : List UInt8) : List.foldr (fun (c : UInt8) n => fnvS n c.toNat) 2166136261 l < 4294967296 := foldr_lt _ _ _ (by omega) (fun _ _ => fnvS_lt _ _) l
theorem fnv_lt (l : List UInt8) : fnv l < 4294967296 := by
  unfold fnv
  rw [← List.foldr_reverse]
  exact fnv_foldr _
theorem fnv_take {l : List UInt8} {i : Nat} (h : i < l.length) : fnv (l.take (i + 1)) = fnvS (fnv (l.take i)) l[i].toNat := by
  rw [List.take_succ_eq_append_getElem h, fnv_snoc]

def hexC (d : Nat) : UInt8 := UInt8.ofNat (if d < 10 then 48 + d else 87 + d)
def hexD (n : Nat) : List UInt8 := if h : n < 16 then [hexC n] else hexD (n / 16) ++ [hexC (n % 16)]
termination_by n
decreasing_by omega
theorem hexD_step (n : Nat) : hexD n = (if n < 16 then [] else hexD (n / 16)) ++ [hexC (n % 16)] := by
  by_cases h : n < 16
  · rw [hexD, dif_pos h, if_pos h, Nat.mod_eq_of_lt h]; rfl
  · rw [hexD, dif_neg h, if_neg h]
theorem hexC_toNat (d : Nat) (h : d < 16) : (hexC d).toNat = if d < 10 then 48 + d else 87 + d := by
  unfold hexC
  show (if d < 10 then 48 + d else 87 + d) % 256 = _
  split <;> omega
theorem hexC_dash (d : Nat) (h : d < 16) : hexC d ≠ 45 := by
  intro e
  have h1 := congrArg UInt8.toNat e
  rw [hexC_toNat d h] at h1
  have h2 : (45 : UInt8).toNat = 45 := rfl
  rw [h2] at h1
  split at h1 <;> omega
theorem hexD_dash (n : Nat) : (45 : UInt8) ∉ hexD n := by
  induction n using Nat.strongRecOn with
  | ind n ih =>
    rw [hexD_step]
    intro h
    rcases List.mem_append.1 h with h | h
    · split at h
      · simp at h
      · exact ih (n / 16) (by omega) h
    · simp at h
      exact hexC_dash _ (by omega) h.symm
theorem hexD_len (n k : Nat) (hk : 0 < k) (h : n < 16 ^ k) : (hexD n).length ≤ k := by
  induction k generalizing n with
  | zero => omega
  | succ k ih =>
    rw [hexD_step]
    by_cases h2 : n < 16
    · simp [h2]
    · rw [if_neg h2, List.length_append]
      have hk0 : 0 < k := by
        rcases Nat.eq_zero_or_pos k with e | e
        · subst e; simp at h; omega
        · exact e
      have := ih (n / 16) hk0 (Nat.div_lt_of_lt_mul (by rw [Nat.mul_comm, ← Nat.pow_succ]; exact h))
      simp
      omega
theorem hexD_pos (n : Nat) : 0 < (hexD n).length := by rw [hexD_step]; simp

theorem dash_split : ∀ {l l' x y : List UInt8}, 45 ∉ l → 45 ∉ l' → l ++ 45 :: x = l' ++ 45 :: y → l = l' ∧ x = y
  | [], [], _, _, _, _, h => by simpa using h
  | [], b :: l', _, _, _, h2, h => by
    simp at h h2
    exact absurd h.1 h2.1
  | a :: l, [], _, _, h1, _, h => by
    simp at h h1
    exact absurd h.1.symm h1.1
  | a :: l, b :: l', x, y, h1, h2, h => by
    simp at h1 h2 h
    obtain ⟨e1, e2⟩ := dash_split h1.2 h2.2 h.2
    exact ⟨by rw [h.1, e1], e2⟩

theorem decD_step (n : Nat) : Lib.decDigits n = (if n < 10 then [] else Lib.decDigits (n / 10)) ++ [UInt8.ofNat (48 + n % 10)] := by
  by_cases h : n < 10
  · rw [Lib.decDigits, dif_pos h, if_pos h, Nat.mod_eq_of_lt h]
    rfl
  · rw [Lib.decDigits, dif_neg h, if_neg h]
def unD (l : List UInt8) : Nat := l.foldl (fun n c => n * 10 + (c.toNat - 48)) 0
theorem unD_dec (n : Nat) : unD (Lib.decDigits n) = n := by
  induction n using Nat.strongRecOn with
  | ind n ih =>
    rw [decD_step]
    have hc : (UInt8.ofNat (48 + n % 10)).toNat = 48 + n % 10 := by
      show (48 + n % 10) % 256 = _
      omega
    unfold unD at ih ⊢
    rw [List.foldl_append]
    by_cases h : n < 10
    · rw [if_pos h]
      simp only [List.foldl_cons, List.foldl_nil, hc]
      omega
    · rw [if_neg h, ih (n / 10) (by omega)]
      simp only [List.foldl_cons, List.foldl_nil, hc]
      omega
def tagL (l : List UInt8) : List UInt8 := hexD (fnv l) ++ 45 :: Lib.decDigits l.length
theorem tagL_ne {a b : List UInt8} (h : a.length ≠ b.length) : tagL a ≠ tagL b := by
  intro e
  have := (dash_split (hexD_dash _) (hexD_dash _) e).2
  have h2 := congrArg unD this
  rw [unD_dec, unD_dec] at h2
  exact h h2
theorem tagL_nil : tagL [] = [56, 49, 49, 99, 57, 100, 99, 53, 45, 48] := by
  unfold tagL fnv
  simp only [List.foldl_nil, List.length_nil]
  simp [hexD_step, hexC, decD_step]
/-- The remainder that tells a key's shard. -/
def shl (l : List UInt8) : Nat := l.foldl (fun n c => (n * 31 + c.toNat) % 997) 0
theorem shl_lt (l : List UInt8) : shl l < 997 := by
  unfold shl
  rw [← List.foldr_reverse]
  cases l.reverse with
  | nil => simp
  | cons x t => exact Nat.mod_lt _ (by omega)
theorem shl_take {l : List UInt8} {i : Nat} (h : i < l.length) : shl (l.take (i + 1)) = (shl (l.take i) * 31 + l[i].toNat) % 997 := by
  unfold shl
  rw [List.take_succ_eq_append_getElem h, List.foldl_append]
  rfl
end Go.Proofs.YtncahmodmgbacaaDoor
