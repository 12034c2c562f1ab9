/- Tries: texts and routes that come in; light; the shapes that a path has, one by one. -/
import Derived.Test.YtndlbkiogagnaaaGreatDoorV23
import Derived.Test.YtndlbkiogagnaaaGreatDoorFlat
namespace Go.Proofs.YtndlbkiogagnaaaGreatDoor
set_option linter.unusedSimpArgs false
set_option linter.unusedVariables false
set_option linter.unnecessarySimpa false
open Go.RowKit BigFrame

theorem S_ex (x : Bs) : ∃ s : ByteArray, S x = .string s ∧ s.data.toList = x ∧ s.size = x.length := ⟨⟨x.toArray⟩, rfl, by simp, by simp [ByteArray.size]⟩
theorem S_of' (s : ByteArray) : Value.string s = S s.data.toList := by unfold S; rw [mk_data]
/-- Texts that came in. -/
theorem leaf_texts {w : World} {a : Option Addr} {n cap : Nat} (h : Leaf.ok w (.sl [.str]) (.slice a n cap)) :
    ∃ l : List Bs, l.length = n ∧ RdS w 1 (.slice a l.length cap) l.length (l.map S) ∧ n ≤ 140737488351232 ∧ ∀ x ∈ l, x.length ≤ 140737488351232 := by
  have hn : n ≤ cap ∧ cap ≤ maxLen ∧ n ≤ 140737488351232 := by
    simp only [Leaf.ok] at h
    obtain ⟨_, _, _, _, e, h1, h2, hz, -⟩ := h
    simp only [Value.slice.injEq] at e
    omega
  by_cases h0 : 0 < n
  · obtain ⟨b, off, V, rfl, hb, hm, hV⟩ := Leaf.open h h0 (by simp)
    have hx : ∀ i : Nat, ∃ x : Bs, i < n → V i = [S x] ∧ x.length ≤ 140737488351232 := by
      intro i
      by_cases hi : i < n
      · have := (hV i hi).1
        simp only [Leaf.oks, Leaf.ok] at this
        obtain ⟨_, _, hv, ⟨x, rfl, h1⟩, rfl⟩ := this
        exact ⟨x.data.toList, fun _ => ⟨by rw [hv, S_of'], by rw [Array.length_toList]; exact h1⟩⟩
      · exact ⟨[], fun h => absurd h hi⟩
    obtain ⟨F, hF⟩ := Classical.axiomOfChoice hx
    refine ⟨(List.range n).map F, by simp, ?_, hn.2.2, fun f hf => ?_⟩
    · rw [show ((List.range n).map F).length = n by simp]
      refine ⟨by simp, _, _, rfl, hn.1, hn.2.1, fun _ => ⟨b, off, rfl, hb, fun i hi => ?_⟩⟩
      have hi : i < n := by simpa using hi
      have h1 := (hV i hi).2 0 (by simp)
      rw [(hF i hi).1] at h1
      simp only [List.length_cons, List.length_nil, Nat.zero_add, List.getElem?_cons_zero, Nat.add_zero, Nat.mul_one] at h1
      rw [h1]
      simp [hi]
    · obtain ⟨i, hi, rfl⟩ := List.mem_map.1 hf
      exact (hF i (by simpa using hi)).2
  · obtain rfl : n = 0 := by omega
    exact ⟨[], rfl, ⟨by simp, _, _, rfl, by simp, hn.2.1, fun h => by simp at h⟩, hn.2.2, by simp⟩
theorem cells3_len (L : List Rt) : (L.flatMap Rt.cells).length = L.length * 3 := by
  induction L with
  | nil => rfl
  | cons r L ih => rw [List.flatMap_cons, List.length_append, ih]; simp [Rt.cells]; omega
/-- Routes that came in. -/
theorem leaf_routes {w : World} {a : Option Addr} {n cap : Nat} (h : Leaf.ok w (.sl [.str, .str, .str]) (.slice a n cap)) :
    ∃ L : List Rt, L.length = n ∧ RdS w 3 (.slice a L.length cap) L.length (L.flatMap Rt.cells) ∧ n ≤ 140737488351232 ∧ ∀ r ∈ L, r.m.length ≤ 140737488351232 ∧ r.p.length ≤ 140737488351232 ∧ r.h.length ≤ 140737488351232 := by
  have hn : n ≤ cap ∧ cap ≤ maxLen ∧ n ≤ 140737488351232 := by
    simp only [Leaf.ok] at h
    obtain ⟨_, _, _, _, e, h1, h2, hz, -⟩ := h
    simp only [Value.slice.injEq] at e
    omega
  by_cases h0 : 0 < n
  · obtain ⟨b, off, V, rfl, hb, hm, hV⟩ := Leaf.open h h0 (by simp)
    have hx : ∀ i : Nat, ∃ x : Rt, i < n → V i = x.cells ∧ x.m.length ≤ 140737488351232 ∧ x.p.length ≤ 140737488351232 ∧ x.h.length ≤ 140737488351232 := by
      intro i
      by_cases hi : i < n
      · have := (hV i hi).1
        simp only [Leaf.oks, Leaf.ok] at this
        obtain ⟨_, _, hv, ⟨x, rfl, h1⟩, _, _, rfl, ⟨y, rfl, h2⟩, _, _, rfl, ⟨z, rfl, h3⟩, rfl⟩ := this
        exact ⟨⟨x.data.toList, y.data.toList, z.data.toList⟩, fun _ => ⟨by rw [hv, S_of', S_of', S_of']; rfl, by rw [Array.length_toList]; exact h1, by rw [Array.length_toList]; exact h2, by rw [Array.length_toList]; exact h3⟩⟩
      · exact ⟨⟨[], [], []⟩, fun h => absurd h hi⟩
    obtain ⟨F, hF⟩ := Classical.axiomOfChoice hx
    have hl : ((List.range n).map F).length = n := by simp
    refine ⟨(List.range n).map F, hl, ?_, hn.2.2, fun f hf => ?_⟩
    · refine ⟨cells3_len _, _, _, rfl, by rw [hl]; exact hn.1, hn.2.1, fun _ => ⟨b, off, rfl, hb, fun i hi => ?_⟩⟩
      rw [hl] at hi
      have hq : i / 3 < n := by omega
      have h1 := (hV (i / 3) hq).2 (i % 3) (by simp; omega)
      rw [(hF (i / 3) hq).1] at h1
      have h2 := flat_cells ((List.range n).map F) (i / 3) (i % 3) (by simpa using hq) (by omega)
      simp only [List.length_cons, List.length_nil] at h1
      rw [show i / 3 * (0 + 1 + 1 + 1) + i % 3 = i by omega] at h1
      rw [show i / 3 * 3 + i % 3 = i by omega] at h2
      rw [h1, h2]
      simp
    · obtain ⟨i, hi, rfl⟩ := List.mem_map.1 hf
      exact (hF i (by simpa using hi)).2
  · obtain rfl : n = 0 := by omega
    exact ⟨[], rfl, ⟨by simp, _, _, rfl, by simp, hn.2.1, fun h => by simp at h⟩, hn.2.2, by simp⟩
def sumB (l : List Bs) : Nat := (l.map List.length).sum
theorem sumB_snoc (l : List Bs) (i : Nat) (hi : i < l.length) : sumB (l.take (i + 1)) = sumB (l.take i) + l[i].length := by
  unfold sumB
  rw [List.take_succ_eq_append_getElem hi, List.map_append, List.sum_append]
  simp
theorem sumB_le (l : List Bs) (i : Nat) (h : ∀ x ∈ l, x.length ≤ 140737488351232) : sumB (l.take i) ≤ 140737488351232 * i := by
  induction i with
  | zero => simp [sumB]
  | succ i ih =>
    by_cases hi : i < l.length
    · rw [sumB_snoc l i hi]
      have := h _ (List.getElem_mem hi)
      omega
    · rw [List.take_of_length_le (by omega)]
      rw [List.take_of_length_le (by omega)] at ih
      omega
theorem sumL_B (l : List Bs) : sumL l = sumB l + l.length := rfl
/-- What light tells. -/
def LightQ (l : List Bs) (w : World) (e : Ending) (w' : World) : Prop := ∃ b, e = .returned (.bool b) ∧ (b = true → sumB l ≤ 1000 ∧ l.length ≤ 12) ∧ w' = w
/-- Has a shape this path? -/
def hasS : List Sg → List Bs → Bool
  | [], [] => true
  | [], _ :: _ => false
  | _ :: _, [] => false
  | .word x :: ps, s :: l => decide (s ≠ [] ∧ x = s) && hasS ps l
  | .any :: ps, s :: l => decide (s ≠ []) && hasS ps l
  | .all :: ps, _ :: _ => decide (ps = [])
theorem mem_cands : ∀ (l : List Bs) (pat : List Sg), pat ∈ cands l ↔ hasS pat l = true
  | [], pat => by cases pat <;> simp [cands, hasS]
  | s :: l, pat => by
    rw [cands]
    by_cases hs : s = []
    · rw [if_pos hs, List.nil_append, List.mem_singleton]
      cases pat with
      | nil => simp [hasS]
      | cons x ps => cases x <;> simp [hasS, hs]
    · rw [if_neg hs]
      simp only [List.mem_append, List.mem_map, List.mem_singleton]
      cases pat with
      | nil => simp [hasS]
      | cons x ps => cases x with
        | word y =>
          simp only [hasS, Bool.and_eq_true, decide_eq_true_iff, List.cons.injEq, Sg.word.injEq, reduceCtorEq, false_and, and_false, exists_false, or_false, mem_cands l]
          constructor
          · rintro ⟨a, h1, rfl, rfl⟩
            exact ⟨⟨hs, rfl⟩, h1⟩
          · rintro ⟨⟨_, rfl⟩, h⟩
            exact ⟨ps, h, rfl, rfl⟩
        | any => simp [hasS, hs, mem_cands l]
        | all => simp [hasS]
theorem cands_nodup : ∀ (l : List Bs), (cands l).Nodup
  | [] => by simp [cands]
  | s :: l => by
    have ih := cands_nodup l
    rw [cands]
    by_cases hs : s = []
    · rw [if_pos hs]; simp
    · rw [if_neg hs]
      simp only [List.nodup_append, List.Nodup, List.pairwise_append, List.pairwise_map]
      refine ⟨⟨List.Pairwise.imp (fun h e => h (by simpa using e)) ih, List.Pairwise.imp (fun h e => h (by simpa using e)) ih, ?_⟩, by simp, ?_⟩
      · intro a ha b hb e
        rw [List.mem_map] at ha hb
        obtain ⟨_, _, rfl⟩ := ha
        obtain ⟨_, _, rfl⟩ := hb
        cases e
      · intro a ha b hb e
        rw [List.mem_singleton] at hb
        subst hb
        simp only [List.mem_append, List.mem_map] at ha
        rcases ha with ⟨_, _, rfl⟩ | ⟨_, _, rfl⟩ <;> cases e
theorem flat_one (r : Rt) (l : List Bs) : flatL [r] l = if hasS (shp r) l = true then [r] else [] := by
  unfold flatL
  have hm := mem_cands l (shp r)
  have hd := cands_nodup l
  have hif : (if hasS (shp r) l = true then [r] else []) = if shp r ∈ cands l then [r] else [] := by
    by_cases h : shp r ∈ cands l
    · rw [if_pos h, if_pos (hm.1 h)]
    · rw [if_neg h, if_neg (fun q => h (hm.2 q))]
  rw [hif]
  clear hm hif
  generalize cands l = C at *
  induction C with
  | nil => simp
  | cons c C ih =>
    rw [List.nodup_cons] at hd
    rw [List.flatMap_cons, ih hd.2]
    by_cases e : shp r = c
    · subst e
      simp [hd.1]
    · simp [e]
end Go.Proofs.YtndlbkiogagnaaaGreatDoor
