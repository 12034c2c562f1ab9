/- AnswerMany: answers one behind the other are read one behind the other. -/
import Derived.Test.YtlhkckgfhlflkaaDoorA14
namespace Go.Proofs.YtlhkckgfhlflkaaDoor
set_option linter.unusedSimpArgs false
set_option linter.unusedVariables false
set_option linter.unnecessarySimpa false
open Go.RowKit BigFrame

structure Rw where
  k : Int
  fs : List (Bs × Bs)
  body : Bs
  cl : Bool
  a : Option Addr
  cap : Nat
def Rw.cells (r : Rw) : List Value := rcells r.k r.fs r.body r.cl r.a r.cap
def Rw.rs (r : Rw) : Rs := ⟨r.k.toNat, r.fs, r.body, r.cl⟩
/-- Responses that can be read at a. -/
def Many (w : World) (a : Option Addr) (n : Nat) (R : Nat → Rw) : Prop := 0 < n → ∃ b off, a = some ⟨b, off, none⟩ ∧ b < w.heap.size ∧ ∀ i, i < n → Came w (R i).k (R i).fs (R i).body (R i).a ∧ ∀ j, j < 4 → w.cell? ⟨b, off + (i * 4 + j), none⟩ = (R i).cells[j]?
theorem Many.upd {w w' : World} {a : Option Addr} {n : Nat} {R : Nat → Rw} (h : Many w a n R) (hu : Upd [] w w') : Many w' a n R := by
  intro h0
  obtain ⟨b, off, rfl, hb, hc⟩ := h h0
  exact ⟨b, off, rfl, Nat.lt_of_lt_of_le hb hu.size, fun i hi => ⟨(hc i hi).1.upd hu, fun j hj => (hu.cell (p := ⟨b, _, none⟩) hb (by simp)).trans ((hc i hi).2 j hj)⟩⟩
theorem Many.at {w : World} {a : Option Addr} {n : Nat} {R : Nat → Rw} (h : Many w a n R) {i : Nat} (hi : i < n) : ∃ b off, a = some ⟨b, off, none⟩ ∧ b < w.heap.size ∧ Came w (R i).k (R i).fs (R i).body (R i).a ∧
    w.cell? ⟨b, off + i * 4, none⟩ = some (.int .i64 (R i).k) ∧ w.cell? ⟨b, off + i * 4 + 1, none⟩ = some (.slice (R i).a (R i).fs.length (R i).cap) ∧ w.cell? ⟨b, off + i * 4 + 2, none⟩ = some (S (R i).body) ∧ w.cell? ⟨b, off + i * 4 + 3, none⟩ = some (.bool (R i).cl) := by
  obtain ⟨b, off, rfl, hb, hc⟩ := h (by omega)
  exact ⟨b, off, rfl, hb, (hc i hi).1, (hc i hi).2 0 (by omega), (hc i hi).2 1 (by omega), (hc i hi).2 2 (by omega), (hc i hi).2 3 (by omega)⟩
theorem leaf_many {w : World} {a : Option Addr} {n cap : Nat} (h : Leaf.ok w (.sl [.int .i64, .sl [.str, .str], .str, .bool]) (.slice a n cap)) : ∃ R, Many w a n R := by
  by_cases h0 : 0 < n
  · obtain ⟨b, off, V, rfl, hb, hm, hV⟩ := Leaf.open h h0 (by simp)
    have hx : ∀ i : Nat, ∃ r : Rw, i < n → V i = r.cells ∧ Came w r.k r.fs r.body r.a := by
      intro i
      by_cases hi : i < n
      · obtain ⟨k, fs, body, cl, a, cap, he, hc⟩ := leaf_rs (hV i hi).1
        exact ⟨⟨k, fs, body, cl, a, cap⟩, fun _ => ⟨he, hc⟩⟩
      · exact ⟨⟨0, [], [], false, none, 0⟩, fun h => absurd h hi⟩
    obtain ⟨R, hR⟩ := Classical.axiomOfChoice hx
    refine ⟨R, fun _ => ⟨b, off, rfl, hb, fun i hi => ⟨(hR i hi).2, fun j hj => ?_⟩⟩⟩
    rw [← (hR i hi).1]
    exact (hV i hi).2 j (by simpa using hj)
  · exact ⟨fun _ => ⟨0, [], [], false, none, 0⟩, fun h => absurd h h0⟩
/-- The bytes of the first i of them; of those from i on. -/
def encTo (R : Nat → Rw) (i : Nat) : Bs := (List.range i).flatMap fun j => encL (R j).rs
def encFrom (R : Nat → Rw) (i n : Nat) : Bs := (List.range' i (n - i)).flatMap fun j => encL (R j).rs
theorem encTo_succ (R : Nat → Rw) (i : Nat) : encTo R (i + 1) = encTo R i ++ encL (R i).rs := by
  unfold encTo
  rw [List.range_succ, List.flatMap_append]
  simp
theorem encFrom_zero (R : Nat → Rw) (n : Nat) : encFrom R 0 n = encTo R n := by
  unfold encFrom encTo
  rw [Nat.sub_zero, List.range_eq_range']
theorem encFrom_step (R : Nat → Rw) {i n : Nat} (h : i < n) : encFrom R i n = encL (R i).rs ++ encFrom R (i + 1) n := by
  unfold encFrom
  rw [show n - i = (n - (i + 1)) + 1 by omega, List.range'_succ]
  simp
theorem encFrom_end (R : Nat → Rw) (n : Nat) : encFrom R n n = [] := by unfold encFrom; simp
theorem encFrom_len (R : Nat → Rw) (n : Nat) (hR : ∀ j, j < n → (encL (R j).rs).length ≤ 9000) : ∀ k i, n = i + k → (encFrom R i n).length ≤ 9000 * k
  | 0, i, h => by
    obtain rfl : n = i := by omega
    rw [encFrom_end]; simp
  | k + 1, i, h => by
    rw [encFrom_step R (by omega), List.length_append]
    have := encFrom_len R n hR k (i + 1) (by omega)
    have := hR i (by omega)
    omega

end Go.Proofs.YtlhkckgfhlflkaaDoor
