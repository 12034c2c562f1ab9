/- Tries: TrieOwn, plainly: a route is found by its own pattern. -/
import Derived.Test.YtiombjmkaejjfaaDoorV43
namespace Go.Proofs.YtiombjmkaejjfaaDoor
set_option linter.unusedSimpArgs false
set_option linter.unusedVariables false
set_option linter.unnecessarySimpa false
open Go.RowKit BigFrame

/-- A segment that a pattern's own one has. -/
def ownS (x : Bs) : Bs := if kindL x = 0 then x else 40 :: (x ++ [41])
def ownP (r : Rt) : List Bs := (segsL r.p).map ownS
theorem own_has : ∀ (l : List Bs), (∀ x ∈ l, x ≠ []) → Nm (l.map absS) → hasS (l.map absS) (l.map ownS) = true
  | [], _, _ => rfl
  | x :: l, h, hn => by
    have hx := h x (by simp)
    have hl := fun y hy => h y (List.mem_cons_of_mem _ hy)
    simp only [List.map_cons] at hn ⊢
    by_cases k0 : kindL x = 0
    · rw [abs0 k0] at hn ⊢
      have ih := own_has l hl hn
      have ho : ownS x = x := by unfold ownS; rw [if_pos k0]
      rw [ho]
      simp [hasS, hx, ih]
    · have ho : ownS x ≠ [] := by unfold ownS; rw [if_neg k0]; simp
      by_cases k1 : kindL x = 1
      · rw [abs1 k0 k1] at hn ⊢
        have ih := own_has l hl hn
        simp [hasS, ho, ih]
      · rw [abs2 k0 k1] at hn ⊢
        have : l.map absS = [] := hn
        rw [this]
        rfl
theorem own_mt {L : List Rt} (h : SomeOk L) {r : Rt} (hr : r ∈ L) : (mtL L r.m (ownP r)).2 = true := by
  obtain ⟨t, hp⟩ := h.pat hr
  have hm : r ∈ flatL L (ownP r) := by
    rw [flat_mem2, mem_cands]
    exact ⟨hr, own_has _ hp.ne hp.nm⟩
  have hs : ((flatL L (ownP r)).find? (byM r.m)).isSome = true := by
    rw [List.find?_isSome]
    exact ⟨r, hm, by simp [byM]⟩
  unfold mtL
  cases hq : (flatL L (ownP r)).find? (byM r.m) with
  | none => rw [hq] at hs; cases hs
  | some s => rfl
theorem own_len {L : List Rt} (h : SomeOk L) {r : Rt} (hr : r ∈ L) : sumB (ownP r) ≤ 1000 ∧ (ownP r).length ≤ 12 := by
  obtain ⟨t, hp⟩ := h.pat hr
  have h200 := (h.right r hr).2
  have hlen : (ownP r).length ≤ 8 := by unfold ownP; rw [List.length_map]; exact hp.len
  refine ⟨?_, by omega⟩
  have h1 : sumL (segsL r.p) ≤ r.p.length + 1 := by
    rw [← patS_segs (h.rgt r hr).1]
    exact patS_sum r.p
  have h2 : ∀ l : List Bs, sumB (l.map ownS) ≤ sumL l + 2 * l.length := by
    intro l
    induction l with
    | nil => simp [sumB, sumL]
    | cons x l ih =>
      have : (ownS x).length ≤ x.length + 2 := by
        unfold ownS
        split
        · omega
        · simp
      simp only [sumB, sumL, List.map_cons, List.sum_cons, List.length_cons] at *
      omega
  have h3 := h2 (segsL r.p)
  have h4 := hp.len
  unfold ownP
  omega
/-- What the law's loop makes of the segments. -/
theorem own_all {r : Rt} {t : Bs} (hp : Pat r t) : ((splitL 47 t).filter fun x => decide (x ≠ [])).map ownS = ownP r := by
  unfold ownP
  by_cases ht : t = []
  · subst ht
    rw [hp.p]
    simp [splitL, segsL]
  · have : segsL r.p = splitL 47 t := by
      rw [hp.p]
      unfold segsL
      rw [if_neg (by simpa using ht)]
      rfl
    have hne := hp.ne
    rw [this] at hne ⊢
    rw [List.filter_eq_self.2]
    intro x hx
    simpa using hne x hx
end Go.Proofs.YtiombjmkaejjfaaDoor
