/- Tries: the order of routes plays no part; the reference's search, plainly: what it finds is what a tree finds. -/
import Derived.Test.YtiombjmkaejjfaaDoorV34
namespace Go.Proofs.YtiombjmkaejjfaaDoor
set_option linter.unusedSimpArgs false
set_option linter.unusedVariables false
set_option linter.unnecessarySimpa false
open Go.RowKit BigFrame

/-- Routes that tell nothing of each other by their order. -/
theorem apart_inj {L : List Rt} (h : (L.map fun r => (r.m, shp r)).Nodup) {r s : Rt} (hr : r ∈ L) (hs : s ∈ L) (hm : r.m = s.m) (hp : shp r = shp s) : r = s := by
  induction L with
  | nil => cases hr
  | cons x L ih =>
    simp only [List.map_cons, List.nodup_cons, List.mem_map, not_exists, not_and] at h
    rcases List.mem_cons.1 hr with rfl | hr'
    · rcases List.mem_cons.1 hs with rfl | hs'
      · rfl
      · exact absurd (by rw [hm, hp]) (h.1 s hs')
    · rcases List.mem_cons.1 hs with rfl | hs'
      · exact absurd (by rw [hm, hp]) (h.1 r hr')
      · exact ih h.2 hr' hs'
/-- The first of these of a method at one of the shapes. -/
theorem find_shape {L M : List Rt} (hL : (L.map fun r => (r.m, shp r)).Nodup) (hM : ∀ r, r ∈ M ↔ r ∈ L) (mth : Bs) (c : List Sg) :
    ((L.filter fun r => decide (shp r = c)).find? (byM mth)) = ((M.filter fun r => decide (shp r = c)).find? (byM mth)) := by
  cases hq : (L.filter fun r => decide (shp r = c)).find? (byM mth) with
  | some r =>
    have h1 := List.mem_of_find?_eq_some hq
    have h2 := List.find?_some hq
    rw [List.mem_filter, decide_eq_true_iff] at h1
    simp only [byM, decide_eq_true_eq] at h2
    have h3 : r ∈ M.filter fun r => decide (shp r = c) := by rw [List.mem_filter]; exact ⟨(hM r).2 h1.1, by simpa using h1.2⟩
    cases hq2 : (M.filter fun r => decide (shp r = c)).find? (byM mth) with
    | none =>
      rw [List.find?_eq_none] at hq2
      exact absurd (by simp [byM, h2]) (hq2 r h3)
    | some s =>
      have h4 := List.mem_of_find?_eq_some hq2
      have h5 := List.find?_some hq2
      rw [List.mem_filter, decide_eq_true_iff] at h4
      simp only [byM, decide_eq_true_eq] at h5
      rw [apart_inj hL h1.1 ((hM s).1 h4.1) (h2.trans h5.symm) (h1.2.trans h4.2.symm)]
  | none =>
    rw [List.find?_eq_none] at hq
    symm
    rw [List.find?_eq_none]
    intro s hs
    rw [List.mem_filter] at hs
    exact hq s (by rw [List.mem_filter]; exact ⟨(hM s).1 hs.1, hs.2⟩)
theorem find_flat {L M : List Rt} (hL : (L.map fun r => (r.m, shp r)).Nodup) (hM : ∀ r, r ∈ M ↔ r ∈ L) (mth : Bs) (l : List Bs) : (flatL L l).find? (byM mth) = (flatL M l).find? (byM mth) := by
  unfold flatL
  generalize cands l = C
  induction C with
  | nil => rfl
  | cons c C ih => rw [List.flatMap_cons, List.flatMap_cons, List.find?_append, List.find?_append, find_shape hL hM, ih]
theorem dm_mem : ∀ (L : List Rt) (acc : List Bs) (x : Bs), x ∈ dm L acc ↔ x ∈ acc ∨ ∃ r ∈ L, r.m = x
  | [], acc, x => by simp [dm]
  | r :: L, acc, x => by
    rw [dm, dm_mem L]
    by_cases h : r.m ∈ acc
    · rw [if_pos h]
      constructor
      · rintro (h1 | ⟨s, hs, rfl⟩)
        · exact .inl h1
        · exact .inr ⟨s, by simp [hs], rfl⟩
      · rintro (h1 | ⟨s, hs, rfl⟩)
        · exact .inl h1
        · rcases List.mem_cons.1 hs with rfl | hs
          · exact .inl h
          · exact .inr ⟨s, hs, rfl⟩
    · rw [if_neg h]
      constructor
      · rintro (h1 | ⟨s, hs, rfl⟩)
        · rcases List.mem_append.1 h1 with h1 | h1
          · exact .inl h1
          · rw [List.mem_singleton] at h1
            exact .inr ⟨r, by simp, h1.symm⟩
        · exact .inr ⟨s, by simp [hs], rfl⟩
      · rintro (h1 | ⟨s, hs, rfl⟩)
        · exact .inl (by simp [h1])
        · rcases List.mem_cons.1 hs with rfl | hs
          · exact .inl (by simp)
          · exact .inr ⟨s, hs, rfl⟩
theorem dm_nodup : ∀ (L : List Rt) (acc : List Bs), acc.Nodup → (dm L acc).Nodup
  | [], acc, h => h
  | r :: L, acc, h => by
    rw [dm]
    refine dm_nodup L _ ?_
    by_cases hm : r.m ∈ acc
    · rw [if_pos hm]; exact h
    · rw [if_neg hm]
      simp only [List.nodup_append]
      refine ⟨h, by simp, fun a ha b hb e => ?_⟩
      rw [List.mem_singleton] at hb
      subst hb e
      exact hm ha
theorem le_tot (x y : Bs) : x ≤ y ∨ y ≤ x := by
  rcases Classical.em (x ≤ y) with h | h
  · exact .inl h
  · exact .inr (Std.le_of_lt (Std.not_le.1 h))
/-- Sorted texts are told by what they hold. -/
theorem sort_same {A B : List Bs} (hA : A.Nodup) (hB : B.Nodup) (h : ∀ x, x ∈ A ↔ x ∈ B) : sortL A = sortL B := by
  have hp : A.Perm B := (List.perm_ext_iff_of_nodup hA hB).2 h
  have h1 : (sortL A).Perm (sortL B) := (List.mergeSort_perm A _).trans (hp.trans (List.mergeSort_perm B _).symm)
  have hs : ∀ L : List Bs, (sortL L).Pairwise fun x y => decide (x ≤ y) = true := fun L =>
    List.pairwise_mergeSort (fun a b c hab hbc => by
      simp only [decide_eq_true_eq] at *
      exact Std.le_trans hab hbc) (fun a b => by
      simp only [Bool.or_eq_true, decide_eq_true_eq]
      exact le_tot a b) L
  refine List.Perm.eq_of_pairwise (le := fun x y => decide (x ≤ y) = true) (fun a b _ _ hab hba => ?_) (hs A) (hs B) h1
  simp only [decide_eq_true_eq] at hab hba
  exact Std.le_antisymm hab hba
theorem flat_mem2 {L : List Rt} {l : List Bs} {r : Rt} : r ∈ flatL L l ↔ r ∈ L ∧ shp r ∈ cands l := by
  constructor
  · exact flatL_mem
  · rintro ⟨h1, h2⟩
    unfold flatL
    rw [List.mem_flatMap]
    exact ⟨shp r, h2, by rw [List.mem_filter]; exact ⟨h1, by simp⟩⟩
/-- The order of routes plays no part. -/
theorem mt_perm {L M : List Rt} (hL : (L.map fun r => (r.m, shp r)).Nodup) (hM : ∀ r, r ∈ M ↔ r ∈ L) (mth : Bs) (l : List Bs) : mtL M mth l = mtL L mth l := by
  unfold mtL
  rw [← find_flat hL hM mth l]
  cases (flatL L l).find? (byM mth) with
  | some r => rfl
  | none =>
    simp only [Prod.mk.injEq, Mt.mk.injEq, and_true, true_and]
    refine sort_same (dm_nodup _ _ (by simp)) (dm_nodup _ _ (by simp)) fun x => ?_
    rw [dm_mem, dm_mem]
    simp only [List.not_mem_nil, false_or, flat_mem2, hM]
end Go.Proofs.YtiombjmkaejjfaaDoor
namespace Go.Proofs.YtiombjmkaejjfaaDoor
set_option linter.unusedSimpArgs false
set_option linter.unusedVariables false
set_option linter.unnecessarySimpa false
open Go.RowKit BigFrame

def kdS : Sg → Nat
  | .word _ => 0
  | .any => 1
  | .all => 2
/-- Is a shape stronger than another one? -/
def strS : List Sg → List Sg → Bool
  | x :: p, y :: q => if kdS x ≠ kdS y then decide (kdS x < kdS y) else strS p q
  | _, _ => false
theorem cands_sorted : ∀ (l : List Bs), (cands l).Pairwise fun p q => strS p q = true ∧ strS q p = false
  | [] => by simp [cands]
  | s :: l => by
    have ih := cands_sorted l
    rw [cands]
    by_cases hs : s = []
    · rw [if_pos hs]; simp
    · rw [if_neg hs]
      simp only [List.pairwise_append, List.pairwise_map]
      refine ⟨⟨ih.imp fun h => by simpa [strS] using h, ih.imp fun h => by simpa [strS] using h, ?_⟩, by simp, ?_⟩
      · intro a ha b hb
        rw [List.mem_map] at ha hb
        obtain ⟨x, _, rfl⟩ := ha
        obtain ⟨y, _, rfl⟩ := hb
        simp [strS, kdS]
      · intro a ha b hb
        rw [List.mem_singleton] at hb
        subst hb
        simp only [List.mem_append, List.mem_map] at ha
        rcases ha with ⟨x, _, rfl⟩ | ⟨x, _, rfl⟩ <;> simp [strS, kdS]
def beatB (r : Rt) : Option Rt → Bool
  | none => true
  | some b => strS (shp r) (shp b)
/-- The best one so far, and one more. -/
def better (mth : Bs) (l : List Bs) (o : Option Rt) (r : Rt) : Option Rt :=
  bif hasS (shp r) l && decide (r.m = mth) && beatB r o then some r else o
def inC (C : List (List Sg)) (L : List Rt) : List Rt := C.flatMap fun pat => L.filter fun x => decide (shp x = pat)
theorem find_more (mth : Bs) (r : Rt) (L : List Rt) (hap : ∀ x ∈ L, x.m = r.m → shp x ≠ shp r) : ∀ (C : List (List Sg)), C.Pairwise (fun p q => strS p q = true ∧ strS q p = false) →
    (inC C (L ++ [r])).find? (byM mth) = bif decide (shp r ∈ C) && decide (r.m = mth) && beatB r ((inC C L).find? (byM mth)) then some r else (inC C L).find? (byM mth)
  | [], _ => by simp [inC]
  | c :: C, hC => by
    rw [List.pairwise_cons] at hC
    have ih := find_more mth r L hap C hC.2
    have hu : ∀ M : List Rt, inC (c :: C) M = (M.filter fun x => decide (shp x = c)) ++ inC C M := fun M => rfl
    rw [hu, hu, List.find?_append, List.find?_append, List.filter_append, List.find?_append]
    cases hg : (L.filter fun x => decide (shp x = c)).find? (byM mth) with
    | some b =>
      have h1 := List.mem_of_find?_eq_some hg
      have h2 := List.find?_some hg
      rw [List.mem_filter, decide_eq_true_iff] at h1
      simp only [byM, decide_eq_true_eq] at h2
      simp only [Option.some_or]
      have hno : (decide (shp r ∈ c :: C) && decide (r.m = mth) && beatB r (some b)) = false := by
        rw [Bool.eq_false_iff]
        intro hx
        simp only [Bool.and_eq_true, decide_eq_true_eq, beatB] at hx
        obtain ⟨⟨h3, h4⟩, h5⟩ := hx
        rcases List.mem_cons.1 h3 with h3 | h3
        · exact hap b h1.1 (h2.trans h4.symm) (h1.2.trans h3.symm)
        · have := (hC.1 _ h3).2
          rw [h1.2, this] at h5
          cases h5
      rw [hno]
      rfl
    | none =>
      simp only [Option.none_or]
      by_cases he : shp r = c ∧ r.m = mth
      · have hf : ([r].filter fun x => decide (shp x = c)).find? (byM mth) = some r := by simp [he.1, byM, he.2]
        rw [hf, Option.some_or]
        have hyes : (decide (shp r ∈ c :: C) && decide (r.m = mth) && beatB r ((inC C L).find? (byM mth))) = true := by
          simp only [Bool.and_eq_true, decide_eq_true_eq]
          refine ⟨⟨by simp [he.1], he.2⟩, ?_⟩
          cases hb : (inC C L).find? (byM mth) with
          | none => rfl
          | some b =>
            have h1 := List.mem_of_find?_eq_some hb
            unfold inC at h1
            rw [List.mem_flatMap] at h1
            obtain ⟨pat, hp, h2⟩ := h1
            rw [List.mem_filter, decide_eq_true_iff] at h2
            show strS (shp r) (shp b) = true
            rw [he.1, h2.2]
            exact (hC.1 _ hp).1
        rw [hyes]
        rfl
      · have hf : ([r].filter fun x => decide (shp x = c)).find? (byM mth) = none := by
          rw [List.find?_eq_none]
          intro x hx
          rw [List.mem_filter, List.mem_singleton, decide_eq_true_iff] at hx
          obtain ⟨rfl, hx⟩ := hx
          simp only [byM, decide_eq_true_eq]
          exact fun h => he ⟨hx, h⟩
        rw [hf, Option.none_or, ih]
        have hmem : (decide (shp r ∈ c :: C) && decide (r.m = mth)) = (decide (shp r ∈ C) && decide (r.m = mth)) := by
          rw [Bool.eq_iff_iff]
          simp only [Bool.and_eq_true, decide_eq_true_eq, List.mem_cons]
          constructor
          · rintro ⟨h1 | h1, h2⟩
            · exact absurd ⟨h1, h2⟩ he
            · exact ⟨h1, h2⟩
          · rintro ⟨h1, h2⟩
            exact ⟨.inr h1, h2⟩
        rw [hmem]
theorem better_more {mth : Bs} {l : List Bs} {L : List Rt} {r : Rt} (hL : ((L ++ [r]).map fun r => (r.m, shp r)).Nodup) : (flatL (L ++ [r]) l).find? (byM mth) = better mth l ((flatL L l).find? (byM mth)) r := by
  have hap : ∀ x ∈ L, x.m = r.m → shp x ≠ shp r := by
    intro x hx hm hs
    rw [List.map_append] at hL
    have := (List.nodup_append.1 hL).2.2 (x.m, shp x) (List.mem_map.2 ⟨x, hx, rfl⟩) (r.m, shp r) (by simp)
    exact this (by rw [hm, hs])
  have h := find_more mth r L hap (cands l) (cands_sorted l)
  have hm : decide (shp r ∈ cands l) = hasS (shp r) l := by
    rw [Bool.eq_iff_iff, decide_eq_true_iff, mem_cands]
  rw [hm] at h
  exact h
/-- A method more that is allowed, in its place. -/
def insA (A : List Bs) (m : Bs) : List Bs := if m ∈ A then A else A.takeWhile (fun a => decide (a < m)) ++ m :: A.dropWhile (fun a => decide (a < m))
def AscA (A : List Bs) : Prop := A.Pairwise fun x y => x < y
theorem insA_mem (A : List Bs) (m x : Bs) : x ∈ insA A m ↔ x ∈ A ∨ x = m := by
  unfold insA
  by_cases h : m ∈ A
  · rw [if_pos h]
    constructor
    · exact .inl
    · rintro (h1 | rfl)
      · exact h1
      · exact h
  · rw [if_neg h]
    conv => rhs; rw [← List.takeWhile_append_dropWhile (p := fun a => decide (a < m)) (l := A)]
    simp only [List.mem_append, List.mem_cons]
    constructor
    · rintro (h | rfl | h)
      · exact .inl (.inl h)
      · exact .inr rfl
      · exact .inl (.inr h)
    · rintro ((h | h) | rfl)
      · exact .inl h
      · exact .inr (.inr h)
      · exact .inr (.inl rfl)
theorem bs_tri (x y : Bs) (h : ¬ x < y) (hne : x ≠ y) : y < x := by
  have h1 : y ≤ x := Std.not_lt.1 h
  exact Std.lt_of_le_of_ne h1 (Ne.symm hne)
theorem insA_asc : ∀ (A : List Bs) (m : Bs), AscA A → AscA (insA A m)
  | [], m, _ => by simp [insA, AscA]
  | a :: A, m, h => by
    unfold AscA at h
    rw [List.pairwise_cons] at h
    have ih := insA_asc A m h.2
    by_cases hm : m ∈ a :: A
    · unfold insA
      rw [if_pos hm]
      exact List.pairwise_cons.2 h
    · have hmA : ¬ m ∈ A := fun q => hm (List.mem_cons_of_mem _ q)
      have hne : a ≠ m := fun e => hm (by rw [e]; simp)
      by_cases hl : a < m
      · have he : insA (a :: A) m = a :: insA A m := by
          unfold insA
          rw [if_neg hm, if_neg hmA]
          simp [hl]
        rw [he]
        refine List.pairwise_cons.2 ⟨fun x hx => ?_, ih⟩
        rcases (insA_mem A m x).1 hx with hx | rfl
        · exact h.1 x hx
        · exact hl
      · have he : insA (a :: A) m = m :: a :: A := by
          unfold insA
          rw [if_neg hm]
          simp [hl]
        rw [he]
        have hma := bs_tri a m hl hne
        refine List.pairwise_cons.2 ⟨fun x hx => ?_, List.pairwise_cons.2 h⟩
        rcases List.mem_cons.1 hx with rfl | hx
        · exact hma
        · exact Std.lt_trans hma (h.1 x hx)
/-- The methods of those that have the path, rising. -/
def allowL (L : List Rt) (l : List Bs) : List Bs := (L.filter fun r => hasS (shp r) l).foldl (fun A r => insA A r.m) []
theorem foldA_mem : ∀ (L : List Rt) (A : List Bs) (x : Bs), x ∈ L.foldl (fun A r => insA A r.m) A ↔ x ∈ A ∨ ∃ r ∈ L, r.m = x
  | [], A, x => by simp
  | r :: L, A, x => by
    rw [List.foldl_cons, foldA_mem L, insA_mem]
    constructor
    · rintro ((h | rfl) | ⟨s, hs, rfl⟩)
      · exact .inl h
      · exact .inr ⟨r, by simp, rfl⟩
      · exact .inr ⟨s, by simp [hs], rfl⟩
    · rintro (h | ⟨s, hs, rfl⟩)
      · exact .inl (.inl h)
      · rcases List.mem_cons.1 hs with rfl | hs
        · exact .inl (.inr rfl)
        · exact .inr ⟨s, hs, rfl⟩
theorem foldA_asc : ∀ (L : List Rt) (A : List Bs), AscA A → AscA (L.foldl (fun A r => insA A r.m) A)
  | [], A, h => h
  | r :: L, A, h => by rw [List.foldl_cons]; exact foldA_asc L _ (insA_asc A r.m h)
theorem allow_snoc (L : List Rt) (r : Rt) (l : List Bs) : allowL (L ++ [r]) l = if hasS (shp r) l = true then insA (allowL L l) r.m else allowL L l := by
  unfold allowL
  rw [List.filter_append, List.foldl_append]
  by_cases h : hasS (shp r) l = true
  · simp [h]
  · simp [h]
theorem allow_sort (L : List Rt) (l : List Bs) : allowL L l = sortL (dm (flatL L l) []) := by
  have hasc : AscA (allowL L l) := foldA_asc _ _ (by simp [AscA])
  have hnd : (allowL L l).Nodup := by
    unfold List.Nodup
    exact hasc.imp fun h e => by rw [e] at h; exact absurd h (Std.lt_irrefl)
  have hmem : ∀ x, x ∈ allowL L l ↔ x ∈ dm (flatL L l) [] := fun x => by
    unfold allowL
    rw [foldA_mem, dm_mem]
    simp only [List.not_mem_nil, false_or, flat_mem2, mem_cands, List.mem_filter]
  have h1 : sortL (allowL L l) = sortL (dm (flatL L l) []) := sort_same hnd (dm_nodup _ _ (by simp)) hmem
  rw [← h1]
  unfold sortL
  symm
  apply List.mergeSort_of_pairwise
  exact hasc.imp fun h => by simpa using Std.le_of_lt h
/-- What the reference finds. -/
theorem ref_mt {L : List Rt} (mth : Bs) (l : List Bs) : mtL L mth l = match (flatL L l).find? (byM mth) with
    | some r => (⟨r.h, parL (segsL r.p) l, []⟩, true)
    | none => (⟨[], [], allowL L l⟩, false) := by
  unfold mtL
  rw [allow_sort]
  cases (flatL L l).find? (byM mth) <;> rfl
end Go.Proofs.YtiombjmkaejjfaaDoor
