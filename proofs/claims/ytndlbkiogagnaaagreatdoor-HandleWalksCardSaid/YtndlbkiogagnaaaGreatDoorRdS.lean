/- Slices that can be read, wherever they lie: of them no more is known than their elements' cells. -/
import Derived.Test.YtndlbkiogagnaaaGreatDoorAp
namespace Go.Proofs.YtndlbkiogagnaaaGreatDoor
set_option linter.unusedSimpArgs false
set_option linter.unusedVariables false
set_option linter.unnecessarySimpa false
open Go.RowKit
section
variable {P : Program}

/-- The slice value v reads as n elements of sz cells each, xs all their cells. -/
def RdS (w : World) (sz : Nat) (v : Value) (n : Nat) (xs : List Value) : Prop :=
  xs.length = n * sz ∧ ∃ a cap, v = .slice a n cap ∧ n ≤ cap ∧ cap ≤ maxLen ∧ (0 < n → ∃ b o, a = some ⟨b, o, none⟩ ∧ b < w.heap.size ∧ ∀ j, j < n * sz → w.cell? ⟨b, o + j, none⟩ = xs[j]?)
theorem Sl.rs {w : World} {e : TypeId} {sz : Nat} {v : Value} {n : Nat} {xs : List Value} (h : Sl w e sz v n xs) : RdS w sz v n xs := by
  refine ⟨h.1, ?_⟩
  have h0 := h
  rcases h.2 with ⟨rfl, rfl⟩ | ⟨g, o, cap, cur, rfl, hb, h3, h4, _⟩
  · exact ⟨none, 0, rfl, by omega, by simp [maxLen], fun h => by omega⟩
  · exact ⟨_, cap, rfl, h3, h4, fun _ => ⟨g, o, rfl, hb.lt, fun j hj => h0.cell j hj⟩⟩
theorem RdS.nil (w : World) (sz : Nat) : RdS w sz (.slice none 0 0) 0 [] := ⟨by simp, none, 0, rfl, by omega, by simp [maxLen], fun h => by omega⟩
theorem RdS.form {w : World} {sz : Nat} {v : Value} {n : Nat} {xs : List Value} (h : RdS w sz v n xs) : ∃ a cap, v = .slice a n cap := by
  obtain ⟨-, a, cap, rfl, -⟩ := h
  exact ⟨a, cap, rfl⟩
theorem RdS.some {w : World} {sz : Nat} {v : Value} {n : Nat} {xs : List Value} (h : RdS w sz v n xs) (hn : 0 < n) : ∃ g o cap, v = .slice (some ⟨g, o, none⟩) n cap ∧ n ≤ cap ∧ cap ≤ maxLen ∧ ∀ j, j < n * sz → w.cell? ⟨g, o + j, none⟩ = xs[j]? := by
  obtain ⟨-, a, cap, rfl, h3, h4, h5⟩ := h
  obtain ⟨b, o, rfl, -, h6⟩ := h5 hn
  exact ⟨b, o, cap, rfl, h3, h4, h6⟩
theorem RdS.lt {w : World} {sz : Nat} {v : Value} {n : Nat} {xs : List Value} (h : RdS w sz v n xs) (hn : 0 < n) : ∀ k, k ∈ ownB v → k < w.heap.size := by
  obtain ⟨-, a, cap, rfl, h3, h4, h5⟩ := h
  obtain ⟨b, o, rfl, h6, -⟩ := h5 hn
  intro k hk
  simp [ownB] at hk
  subst hk
  exact h6
theorem RdS.upd {w w' : World} {S : List Nat} {sz : Nat} {v : Value} {n : Nat} {xs : List Value} (h : RdS w sz v n xs) (hu : Upd S w w') (hS : ∀ k, k ∈ ownB v → k ∉ S) : RdS w' sz v n xs := by
  obtain ⟨h1, a, cap, rfl, h3, h4, h5⟩ := h
  refine ⟨h1, a, cap, rfl, h3, h4, fun hn => ?_⟩
  obtain ⟨b, o, rfl, h6, h7⟩ := h5 hn
  have := hu.size
  exact ⟨b, o, rfl, by omega, fun j hj => (hu.cell (p := ⟨b, _, none⟩) h6 (hS b (by simp [ownB]))).trans (h7 j hj)⟩
theorem run_from_rs (t e : TypeId) (size : Nat) (ht : P.underlying t = .some (.slice e)) (hi : (P.info? e).map (·.size) = .some size) (w : World) (v : Value) (n : Nat) (xs : List Value) (h : RdS w size v n xs) (k : Nat) (hn : 0 < n) (hk : k ≤ n) (hk2 : n ≤ 4611686018427387904) :
    ∃ v', (∀ W, (Instr.slice t v (.some (.int .i64 k)) none none).run P W = .ok v' W) ∧ RdS w size v' (n - k) (xs.drop (k * size)) := by
  have hs : ∀ W, (sizeOf e).run P W = .ok size W := by
    intro W
    cases hq : P.info? e with
    | none => simp [hq] at hi
    | some i => have : i.size = size := by simpa [hq] using hi
                simp [sizeOf, typeInfo, hq, this]
  have hw : IntKind.i64.wrap (k : Int) = k := by rw [IntKind.wrap_i64]; omega
  have hlen : (xs.drop (k * size)).length = (n - k) * size := by rw [List.length_drop, h.1, Nat.sub_mul]
  obtain ⟨h1, a, cap, rfl, h3, h4, h5⟩ := h
  obtain ⟨g, o, rfl, h6, h7⟩ := h5 hn
  refine ⟨.slice (.some (if cap = k then ⟨g, o, none⟩ else ⟨g, o + k * size, none⟩)) (n - k) (cap - k), fun W => ?_, ⟨hlen, _, _, rfl, by omega, by omega, fun hn' => ⟨g, o + k * size, ?_, h6, fun j hj => ?_⟩⟩⟩
  · by_cases hc : cap = k
    · simp [Instr.slice, run_underlying ht, Instr.sliceBounds, Instr.sliceBound, asIntOf, hs, hc, hk]
    · simp [Instr.slice, run_underlying ht, Instr.sliceBounds, Instr.sliceBound, asIntOf, hs, hc, hk, Addr.add_lit]
  · rw [if_neg (by omega)]
  · rw [Nat.sub_mul] at hj
    rw [Nat.add_assoc, h7 _ (by omega), List.getElem?_drop]
end
end Go.Proofs.YtndlbkiogagnaaaGreatDoor
