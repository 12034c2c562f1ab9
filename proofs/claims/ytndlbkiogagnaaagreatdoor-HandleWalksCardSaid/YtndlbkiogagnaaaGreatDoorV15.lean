/- Tries: methods gathered, and sorted. -/
import Derived.Test.YtndlbkiogagnaaaGreatDoorV14
import Derived.Test.YtndlbkiogagnaaaGreatDoorShelf
import Derived.Sort.Walk0
namespace Go.Proofs.YtndlbkiogagnaaaGreatDoor
set_option linter.unusedSimpArgs false
set_option linter.unusedVariables false
set_option linter.unnecessarySimpa false
open Go.RowKit BigFrame

/-- Texts that can be read. -/
def RdL (w : World) (v : Value) (L : List Bs) : Prop := ∃ a c, v = .slice a L.length c ∧ (0 < L.length → ∃ b o, a = some ⟨b, o, none⟩ ∧ b < w.heap.size ∧ ∀ j (h : j < L.length), w.cell? ⟨b, o + j, none⟩ = some (S L[j]))
theorem RdL.upd {w w' : World} {v : Value} {L : List Bs} (h : RdL w v L) (hu : Upd [] w w') : RdL w' v L := by
  obtain ⟨a, c, h1, h2⟩ := h
  refine ⟨a, c, h1, fun h0 => ?_⟩
  obtain ⟨b, o, h3, h4, h5⟩ := h2 h0
  exact ⟨b, o, h3, Nat.lt_of_lt_of_le h4 hu.size, fun j hj => (hu.cell (p := ⟨b, _, none⟩) h4 (by simp)).trans (h5 j hj)⟩
theorem RdL.upd' {w w' : World} {S : List Nat} {v : Value} {L : List Bs} (h : RdL w v L) (hu : Upd S w w') (hn : ∀ k, k ∈ ownB v → k ∉ S) : RdL w' v L := by
  obtain ⟨a, c, h1, h2⟩ := h
  refine ⟨a, c, h1, fun h0 => ?_⟩
  obtain ⟨b, o, h3, h4, h5⟩ := h2 h0
  have hb : b ∉ S := hn b (by rw [h1, h3]; simp [ownB])
  exact ⟨b, o, h3, Nat.lt_of_lt_of_le h4 hu.size, fun j hj => (hu.cell (p := ⟨b, _, none⟩) h4 hb).trans (h5 j hj)⟩
theorem Sl.rdl {w : World} {v : Value} {L : List Bs} (h : Sl w 9 1 v L.length (Ss L)) : RdL w v L := by
  obtain ⟨a, c, rfl⟩ := h.form
  refine ⟨a, c, rfl, fun h0 => ?_⟩
  obtain ⟨b, o, c', hv, _, _, hc⟩ := h.some h0
  simp only [Value.slice.injEq] at hv
  have hlt := h.lt b (by rw [hv.1]; simp [ownB])
  refine ⟨b, o, hv.1, hlt, fun j hj => ?_⟩
  rw [hc j (by omega)]
  simp [Ss, hj]
theorem contains_ok (L : List Bs) (v : Value) (x : Bs) (w : World) (h : Sl w 9 1 v L.length (Ss L)) (hz : L.length ≤ 1000000) :
    Calls Tryz.prog 57 #[v, S x] w fun e w' => e = .returned (.bool (decide (x ∈ L))) ∧ w' = w := by
  rcases Nat.eq_zero_or_pos L.length with h0 | h0
  · have hL := List.eq_nil_of_length_eq_zero h0
    subst hL
    obtain ⟨a, c, rfl⟩ := h.form
    exact (Tryz.slices_Contains_string_empty a c ⟨x.toArray⟩ w).mono fun e w' h => ⟨h.1.trans (by simp), h.2⟩
  · obtain ⟨b, o, c, rfl, _, _, hc⟩ := h.some h0
    refine (Tryz.slices_Contains_string b o L.length c (L.map fun l => (⟨l.toArray⟩ : ByteArray)) ⟨x.toArray⟩ w (by simp) (by omega) (fun j hj => ?_)).mono fun e w' h => ⟨h.1.trans ?_, h.2⟩
    · rw [List.length_map] at hj
      rw [hc j (by omega)]
      simp [Ss, hj, S, List.getD]
    · rw [List.take_of_length_le (by simp)]
      congr 2
      rw [Bool.eq_iff_iff, Go.Lib.containsS_iff, decide_eq_true_iff, List.mem_map]
      constructor
      · rintro ⟨l, hl, e⟩
        have := congrArg (fun t : ByteArray => t.data.toList) e
        simp at this
        rw [← this]; exact hl
      · intro hx; exact ⟨x, hx, rfl⟩
def sortL (L : List Bs) : List Bs := L.mergeSort fun x y => decide (x ≤ y)
theorem sortL_len (L : List Bs) : (sortL L).length = L.length := (List.mergeSort_perm L _).length_eq
theorem sort_ok (L : List Bs) (v : Value) (w : World) (h : Sl w 9 1 v L.length (Ss L)) (hz : L.length ≤ 1000000) :
    Calls Tryz.prog 58 #[v] w fun e w' => e = .returned (.tuple #[]) ∧ RdL w' v (sortL L) ∧ Upd (ownB v) w w' := by
  rcases Nat.eq_zero_or_pos L.length with h0 | h0
  · have hL := List.eq_nil_of_length_eq_zero h0
    subst hL
    obtain ⟨a, c, rfl⟩ := h.form
    exact (Tryz.slices_Sort_string_none a c w).mono fun e w' h => ⟨h.1, by rw [h.2]; exact ⟨a, c, by simp [sortL], fun h => by simp [sortL] at h⟩, by rw [h.2]; exact Upd.refl _ _⟩
  · have hlt := h.lt
    obtain ⟨g, off, cap, rfl, _, _, hc⟩ := h.some h0
    have hgb : g < w.heap.size := hlt g (by simp [ownB])
    have hH : Go.Sort.Holds encStr w g off L.toArray := by
      intro j hj
      simp only [List.size_toArray] at hj
      refine ⟨?_, h.free _⟩
      rw [hc j (by omega)]
      simp [hj, encStr, Ss, S]
    refine (Tryz.slices_Sort_string g off cap L w hH hgb (by omega)).mono ?_
    rintro e w' ⟨he, nn, os, hw⟩
    refine ⟨he, ?_⟩
    have hsl : (L.mergeSort fun x y => decide (x ≤ y)).length = L.length := (List.mergeSort_perm L _).length_eq
    have hH2 : Go.Sort.Holds encStr (Go.Sort.ahead w nn) g off L.toArray := hH
    have hsz : w'.heap.size = w.heap.size + os.size := by rw [hw]; simp [Go.Sort.ahead]
    have hu2 : Upd [g] w w' := by
      refine ⟨by rw [hw]; rfl, by rw [hw]; rfl, by rw [hw]; rfl, by omega, fun k hk hkg => ?_⟩
      rw [hw, Go.Sort.heap_grow_old _ _ (by simpa [Go.Sort.ahead] using hk)]
      rw [List.mem_singleton] at hkg
      have hne : ¬ g = k := fun e => hkg e.symm
      show ((Go.Sort.ahead w nn).heap.modify g _)[k]? = _
      rw [Array.getElem?_modify, if_neg hne]
      rfl
    refine ⟨⟨_, cap, by rw [sortL_len], fun _ => ⟨g, off, rfl, by omega, fun j hj => ?_⟩⟩, hu2⟩
    unfold sortL at hj ⊢
    generalize hss : (L.mergeSort fun x y => decide (x ≤ y)) = ss at *
    rw [hw, Go.Sort.cell?_grow _ _ _ (by simpa [Go.Sort.ahead] using hgb), Go.Sort.cell?_putRow encStr _ g off _ _ hH2 (by simp [hsl]) j (by simpa using hj)]
    simp [hj, encStr, S]
/-- Methods, each once, in the order in which they come. -/
def dm : List Rt → List Bs → List Bs
  | [], acc => acc
  | r :: L, acc => dm L (if r.m ∈ acc then acc else acc ++ [r.m])
theorem dm_app (A B : List Rt) (acc : List Bs) : dm (A ++ B) acc = dm B (dm A acc) := by
  induction A generalizing acc with
  | nil => rfl
  | cons r A ih => rw [List.cons_append, dm, dm, ih]
theorem dm_len (A : List Rt) (acc : List Bs) : (dm A acc).length ≤ acc.length + A.length := by
  induction A generalizing acc with
  | nil => exact Nat.le_refl _
  | cons r A ih =>
    rw [dm]
    have := ih (if r.m ∈ acc then acc else acc ++ [r.m])
    have h2 : (if r.m ∈ acc then acc else acc ++ [r.m]).length ≤ acc.length + 1 := by split <;> simp
    simp only [List.length_cons]
    omega
end Go.Proofs.YtndlbkiogagnaaaGreatDoor
