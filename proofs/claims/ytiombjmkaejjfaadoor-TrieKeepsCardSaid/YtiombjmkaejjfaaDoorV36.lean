/- Tries: TrieKeeps, plainly: the order of routes plays no part. -/
import Derived.Test.YtiombjmkaejjfaaDoorV34
namespace Go.Proofs.YtiombjmkaejjfaaDoor
set_option linter.unusedSimpArgs false
set_option linter.unusedVariables false
set_option linter.unnecessarySimpa false
open Go.RowKit BigFrame

/-- Routes that tell nothing of each other by their order. -/
theorem apart_inj {L : List Rt} (h : (L.map fun r => (r.m, shp r)).Nodup) {r s : Rt} (hr : r ∈ L) (hs : s ∈ L) (hm : r.m = s.m) (hp : shp r = shp s) : r = s := by
  induction L with
  | nil => cases hr
  | cons x L ih =>
    simp only [List.map_cons, List.nodup_cons, List.mem_map, not_exists, not_and] at h
    rcases List.mem_cons.1 hr with rfl | hr'
    · rcases List.mem_cons.1 hs with rfl | hs'
      · rfl
      · exact absurd (by rw [hm, hp]) (h.1 s hs')
    · rcases List.mem_cons.1 hs with rfl | hs'
      · exact absurd (by rw [hm, hp]) (h.1 r hr')
      · exact ih h.2 hr' hs'
/-- The first of these of a method at one of the shapes. -/
theorem find_shape {L M : List Rt} (hL : (L.map fun r => (r.m, shp r)).Nodup) (hM : ∀ r, r ∈ M ↔ r ∈ L) (mth : Bs) (c : List Sg) :
    ((L.filter fun r => decide (shp r = c)).find? (byM mth)) = ((M.filter fun r => decide (shp r = c)).find? (byM mth)) := by
  cases hq : (L.filter fun r => decide (shp r = c)).find? (byM mth) with
  | some r =>
    have h1 := List.mem_of_find?_eq_some hq
    have h2 := List.find?_some hq
    rw [List.mem_filter, decide_eq_true_iff] at h1
    simp only [byM, decide_eq_true_eq] at h2
    have h3 : r ∈ M.filter fun r => decide (shp r = c) := by rw [List.mem_filter]; exact ⟨(hM r).2 h1.1, by simpa using h1.2⟩
    cases hq2 : (M.filter fun r => decide (shp r = c)).find? (byM mth) with
    | none =>
      rw [List.find?_eq_none] at hq2
      exact absurd (by simp [byM, h2]) (hq2 r h3)
    | some s =>
      have h4 := List.mem_of_find?_eq_some hq2
      have h5 := List.find?_some hq2
      rw [List.mem_filter, decide_eq_true_iff] at h4
      simp only [byM, decide_eq_true_eq] at h5
      rw [apart_inj hL h1.1 ((hM s).1 h4.1) (h2.trans h5.symm) (h1.2.trans h4.2.symm)]
  | none =>
    rw [List.find?_eq_none] at hq
    symm
    rw [List.find?_eq_none]
    intro s hs
    rw [List.mem_filter] at hs
    exact hq s (by rw [List.mem_filter]; exact ⟨(hM s).1 hs.1, hs.2⟩)
theorem find_flat {L M : List Rt} (hL : (L.map fun r => (r.m, shp r)).Nodup) (hM : ∀ r, r ∈ M ↔ r ∈ L) (mth : Bs) (l : List Bs) : (flatL L l).find? (byM mth) = (flatL M l).find? (byM mth) := by
  unfold flatL
  generalize cands l = C
  induction C with
  | nil => rfl
  | cons c C ih => rw [List.flatMap_cons, List.flatMap_cons, List.find?_append, List.find?_append, find_shape hL hM, ih]
theorem dm_mem : ∀ (L : List Rt) (acc : List Bs) (x : Bs), x ∈ dm L acc ↔ x ∈ acc ∨ ∃ r ∈ L, r.m = x
  | [], acc, x => by simp [dm]
  | r :: L, acc, x => by
    rw [dm, dm_mem L]
    by_cases h : r.m ∈ acc
    · rw [if_pos h]
      constructor
      · rintro (h1 | ⟨s, hs, rfl⟩)
        · exact .inl h1
        · exact .inr ⟨s, by simp [hs], rfl⟩
      · rintro (h1 | ⟨s, hs, rfl⟩)
        · exact .inl h1
        · rcases List.mem_cons.1 hs with rfl | hs
          · exact .inl h
          · exact .inr ⟨s, hs, rfl⟩
    · rw [if_neg h]
      constructor
      · rintro (h1 | ⟨s, hs, rfl⟩)
        · rcases List.mem_append.1 h1 with h1 | h1
          · exact .inl h1
          · rw [List.mem_singleton] at h1
            exact .inr ⟨r, by simp, h1.symm⟩
        · exact .inr ⟨s, by simp [hs], rfl⟩
      · rintro (h1 | ⟨s, hs, rfl⟩)
        · exact .inl (by simp [h1])
        · rcases List.mem_cons.1 hs with rfl | hs
          · exact .inl (by simp)
          · exact .inr ⟨s, hs, rfl⟩
theorem dm_nodup : ∀ (L : List Rt) (acc : List Bs), acc.Nodup → (dm L acc).Nodup
  | [], acc, h => h
  | r :: L, acc, h => by
    rw [dm]
    refine dm_nodup L _ ?_
    by_cases hm : r.m ∈ acc
    · rw [if_pos hm]; exact h
    · rw [if_neg hm]
      simp only [List.nodup_append]
      refine ⟨h, by simp, fun a ha b hb e => ?_⟩
      rw [List.mem_singleton] at hb
      subst hb e
      exact hm ha
theorem le_tot (x y : Bs) : x ≤ y ∨ y ≤ x := by
  rcases Classical.em (x ≤ y) with h | h
  · exact .inl h
  · exact .inr (Std.le_of_lt (Std.not_le.1 h))
/-- Sorted texts are told by what they hold. -/
theorem sort_same {A B : List Bs} (hA : A.Nodup) (hB : B.Nodup) (h : ∀ x, x ∈ A ↔ x ∈ B) : sortL A = sortL B := by
  have hp : A.Perm B := (List.perm_ext_iff_of_nodup hA hB).2 h
  have h1 : (sortL A).Perm (sortL B) := (List.mergeSort_perm A _).trans (hp.trans (List.mergeSort_perm B _).symm)
  have hs : ∀ L : List Bs, (sortL L).Pairwise fun x y => decide (x ≤ y) = true := fun L =>
    List.pairwise_mergeSort (fun a b c hab hbc => by
      simp only [decide_eq_true_eq] at *
      exact Std.le_trans hab hbc) (fun a b => by
      simp only [Bool.or_eq_true, decide_eq_true_eq]
      exact le_tot a b) L
  refine List.Perm.eq_of_pairwise (le := fun x y => decide (x ≤ y) = true) (fun a b _ _ hab hba => ?_) (hs A) (hs B) h1
  simp only [decide_eq_true_eq] at hab hba
  exact Std.le_antisymm hab hba
theorem flat_mem2 {L : List Rt} {l : List Bs} {r : Rt} : r ∈ flatL L l ↔ r ∈ L ∧ shp r ∈ cands l := by
  constructor
  · exact flatL_mem
  · rintro ⟨h1, h2⟩
    unfold flatL
    rw [List.mem_flatMap]
    exact ⟨shp r, h2, by rw [List.mem_filter]; exact ⟨h1, by simp⟩⟩
/-- The order of routes plays no part. -/
theorem mt_perm {L M : List Rt} (hL : (L.map fun r => (r.m, shp r)).Nodup) (hM : ∀ r, r ∈ M ↔ r ∈ L) (mth : Bs) (l : List Bs) : mtL M mth l = mtL L mth l := by
  unfold mtL
  rw [← find_flat hL hM mth l]
  cases (flatL L l).find? (byM mth) with
  | some r => rfl
  | none =>
    simp only [Prod.mk.injEq, Mt.mk.injEq, and_true, true_and]
    refine sort_same (dm_nodup _ _ (by simp)) (dm_nodup _ _ (by simp)) fun x => ?_
    rw [dm_mem, dm_mem]
    simp only [List.not_mem_nil, false_or, flat_mem2, hM]
end Go.Proofs.YtiombjmkaejjfaaDoor
