/- Tries: what the reference's Match goes by. -/
import Derived.Test.YtiombjmkaejjfaaDoorV42
import Derived.Test.YtiombjmkaejjfaaDoorQm
namespace Go.Proofs.YtiombjmkaejjfaaDoor
set_option linter.unusedSimpArgs false
set_option linter.unusedVariables false
set_option linter.unnecessarySimpa false
open Go.RowKit BigFrame

theorem okSegs_ne : ∀ (L ns : List Bs), okSegs L ns = true → ∀ x ∈ L, x ≠ []
  | [], _, _ => by simp
  | x :: L, ns, h => by
    intro y hy
    unfold okSegs at h
    by_cases hk : kindL x = 0
    · rw [if_pos hk] at h
      simp only [Bool.and_eq_true] at h
      rcases List.mem_cons.1 hy with rfl | hy
      · intro e
        rw [e] at h
        have := h.1.1
        revert this
        decide
      · exact okSegs_ne L _ h.2 y hy
    · rw [if_neg hk] at h
      simp only [Bool.and_eq_true] at h
      rcases List.mem_cons.1 hy with rfl | hy
      · intro e
        rw [e] at hk
        exact hk rfl
      · exact okSegs_ne L _ h.2 y hy
/-- What is known of a route's pattern. -/
structure Pat (r : Rt) (t : Bs) : Prop where
  p : r.p = 47 :: t
  nm : Nm ((segsL r.p).map absS)
  len : (segsL r.p).length ≤ 8
  ne : ∀ x ∈ segsL r.p, x ≠ []
theorem SomeOk.pat {L : List Rt} (h : SomeOk L) {r : Rt} (hr : r ∈ L) : ∃ t, Pat r t := by
  have hp := (h.rgt r hr).1
  obtain ⟨h1, h2, -⟩ := patR_nm hp
  cases hq : r.p with
  | nil => rw [hq] at hp; simp [patR] at hp
  | cons c t =>
    have hp2 := hp
    rw [hq] at hp
    simp only [patR] at hp
    by_cases hc : c = 47
    · subst hc
      refine ⟨t, hq, h1, h2, ?_⟩
      rw [if_pos rfl] at hp
      by_cases ht : t = []
      · subst ht
        rw [hq]
        intro x hx
        simp [segsL] at hx
      · rw [if_neg ht] at hp
        simp only [Bool.and_eq_true] at hp
        have : segsL r.p = splitL 47 t := by
          rw [hq]
          unfold segsL
          rw [if_neg (by simpa using ht)]
          rfl
        rw [this]
        exact okSegs_ne _ _ hp.1
    · rw [if_neg hc] at hp
      cases hp
/-- The best one of the first i. -/
def Best (L : List Rt) (mth : Bs) (l : List Bs) (i : Nat) (z : Int) : Prop :=
  (z = -1 ∧ (flatL (L.take i) l).find? (byM mth) = none) ∨ ∃ b : Nat, z = b ∧ ∃ h : b < L.length, (flatL (L.take i) l).find? (byM mth) = some L[b]
theorem take_apart {L : List Rt} (h : SomeOk L) {i : Nat} (hi : i < L.length) : ((L.take i ++ [L[i]]).map fun r => (r.m, shp r)).Nodup := by
  rw [← List.take_succ_eq_append_getElem hi]
  have h1 := h.apart
  rw [← List.take_append_drop (i + 1) L, List.map_append] at h1
  exact (List.nodup_append.1 h1).1
theorem best_step {L : List Rt} (h : SomeOk L) {mth : Bs} {l : List Bs} {i : Nat} (hi : i < L.length) : (flatL (L.take (i + 1)) l).find? (byM mth) = better mth l ((flatL (L.take i) l).find? (byM mth)) L[i] := by
  rw [List.take_succ_eq_append_getElem hi]
  exact better_more (take_apart h hi)
theorem Best.keep {L : List Rt} (h : SomeOk L) {mth : Bs} {l : List Bs} {i : Nat} {z : Int} (hi : i < L.length) (hb : Best L mth l i z) (hn : better mth l ((flatL (L.take i) l).find? (byM mth)) L[i] = (flatL (L.take i) l).find? (byM mth)) : Best L mth l (i + 1) z := by
  unfold Best at *
  rw [best_step h hi, hn]
  exact hb
theorem Best.new {L : List Rt} (h : SomeOk L) {mth : Bs} {l : List Bs} {i : Nat} (hi : i < L.length) (hn : better mth l ((flatL (L.take i) l).find? (byM mth)) L[i] = some L[i]) : Best L mth l (i + 1) i := by
  unfold Best
  rw [best_step h hi, hn]
  exact .inr ⟨i, rfl, hi, rfl⟩
theorem allow_step {L : List Rt} (l : List Bs) {i : Nat} (hi : i < L.length) : allowL (L.take (i + 1)) l = if hasS (shp L[i]) l = true then insA (allowL (L.take i) l) L[i].m else allowL (L.take i) l := by
  rw [List.take_succ_eq_append_getElem hi, allow_snoc]
theorem allow_asc (L : List Rt) (l : List Bs) : AscA (allowL L l) := foldA_asc _ _ (by simp [AscA])
theorem allow_len (L : List Rt) (l : List Bs) : (allowL L l).length ≤ L.length := by
  unfold allowL
  have h1 : ∀ (M : List Rt) (A : List Bs), (M.foldl (fun A r => insA A r.m) A).length ≤ A.length + M.length := by
    intro M
    induction M with
    | nil => simp
    | cons r M ih =>
      intro A
      rw [List.foldl_cons]
      have h2 := ih (insA A r.m)
      have h3 : (insA A r.m).length ≤ A.length + 1 := by
        unfold insA
        split
        · omega
        · have := congrArg List.length (List.takeWhile_append_dropWhile (p := fun a => decide (a < r.m)) (l := A))
          simp only [List.length_append, List.length_cons] at *
          omega
      simp only [List.length_cons]
      omega
  have h2 := h1 (L.filter fun r => hasS (shp r) l) []
  have h3 := List.length_filter_le (fun r => hasS (shp r) l) L
  simp only [List.length_nil] at h2
  omega
/-- Where a method goes. -/
theorem ins_at {A : List Bs} {m : Bs} {at_ : Nat} (hA : AscA A) (hlt : ∀ x ∈ A.take at_, x < m) (hat : at_ ≤ A.length) (hge : ∀ h : at_ < A.length, ¬ A[at_] < m) :
    insA A m = if (∃ h : at_ < A.length, A[at_] = m) then A else A.take at_ ++ m :: A.drop at_ := by
  have hbig : ∀ x ∈ A.drop at_, ¬ x < m := by
    intro x hx
    obtain ⟨j, hj, rfl⟩ := List.mem_iff_getElem.1 hx
    rw [List.length_drop] at hj
    have h0 := hge (by omega)
    rw [List.getElem_drop]
    rcases Nat.eq_zero_or_pos j with rfl | h1
    · exact h0
    · intro h2
      have h3 := (List.pairwise_iff_getElem.1 hA) at_ (at_ + j) (by omega) (by omega) (by omega)
      exact h0 (Std.lt_trans h3 h2)
  by_cases he : ∃ h : at_ < A.length, A[at_] = m
  · rw [if_pos he]
    obtain ⟨h, rfl⟩ := he
    unfold insA
    rw [if_pos (List.getElem_mem h)]
  · rw [if_neg he]
    have hm : ¬ m ∈ A := by
      intro hm
      rw [← List.take_append_drop at_ A] at hm
      rcases List.mem_append.1 hm with hm | hm
      · exact absurd (hlt m hm) (Std.lt_irrefl)
      · obtain ⟨j, hj, hjm⟩ := List.mem_iff_getElem.1 hm
        rw [List.length_drop] at hj
        rw [List.getElem_drop] at hjm
        rcases Nat.eq_zero_or_pos j with rfl | h1
        · exact he ⟨by omega, hjm⟩
        · have h3 := (List.pairwise_iff_getElem.1 hA) at_ (at_ + j) (by omega) (by omega) (by omega)
          rw [hjm] at h3
          exact hge (by omega) h3
    unfold insA
    rw [if_neg hm]
    have h1 : A.takeWhile (fun a => decide (a < m)) = A.take at_ ∧ A.dropWhile (fun a => decide (a < m)) = A.drop at_ := by
      have e1 : A.takeWhile (fun a => decide (a < m)) = (A.take at_ ++ A.drop at_).takeWhile (fun a => decide (a < m)) := by rw [List.take_append_drop]
      have e2 : A.dropWhile (fun a => decide (a < m)) = (A.take at_ ++ A.drop at_).dropWhile (fun a => decide (a < m)) := by rw [List.take_append_drop]
      rw [e1, e2]
      clear e1 e2
      have ht : ∀ x ∈ A.take at_, decide (x < m) = true := fun x hx => decide_eq_true (hlt x hx)
      rw [List.takeWhile_append_of_pos ht, List.dropWhile_append_of_pos ht]
      cases hd : A.drop at_ with
      | nil => simp
      | cons y ys =>
        have h2 : ¬ y < m := hbig y (by rw [hd]; simp)
        simp [h2]
    rw [h1.1, h1.2]
end Go.Proofs.YtiombjmkaejjfaaDoor
