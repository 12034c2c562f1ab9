/- Tries, plainly: what ends at a shape; a route more; what ends at a path. -/
import Derived.Test.YtiombjmkaejjfaaDoorV0
namespace Go.Proofs.YtiombjmkaejjfaaDoor
set_option linter.unusedSimpArgs false
set_option linter.unusedVariables false
set_option linter.unnecessarySimpa false

def T.es : T → E
  | .nil => .nil
  | .node es _ _ _ _ => es
def T.nx : T → T
  | .nil => .nil
  | .node _ nx _ _ _ => nx
def T.pa : T → T
  | .nil => .nil
  | .node _ _ pa _ _ => pa
def T.re : T → T
  | .nil => .nil
  | .node _ _ _ re _ => re
def T.en : T → List Rt
  | .nil => []
  | .node _ _ _ _ en => en
/-- What ends at a shape. -/
def den : T → List Sg → List Rt
  | n, [] => n.en
  | n, .word s :: ps => den (step n s) ps
  | n, .any :: ps => den n.pa ps
  | n, .all :: _ => n.re.en
/-- A route more that ends here. -/
def endT (n : T) (r : Rt) : T := .node n.es n.nx n.pa n.re (n.en ++ [r])
/-- A route more, by its segments. -/
def putT : T → List Bs → Rt → T
  | n, [], r => endT n r
  | n, x :: l, r =>
    if kindL x = 0 then wordT n x (fun m => putT m l r)
    else if kindL x = 1 then .node n.es n.nx (putT n.pa l r) n.re n.en
    else .node n.es n.nx n.pa (endT n.re r) n.en
/-- What stands for all is the last one. -/
def Nm : List Sg → Prop
  | [] => True
  | .all :: ps => ps = []
  | .word _ :: ps => Nm ps
  | .any :: ps => Nm ps
theorem step_same (n : T) (pa re : T) (en : List Rt) (s : Bs) : step (.node n.es n.nx pa re en) s = step n s := by
  cases n with
  | nil => simp [step, T.es, T.nx, stepE]
  | node => simp [step, T.es, T.nx]
theorem word_en (n : T) (s : Bs) (f : T → T) : (wordT n s f).en = n.en ∧ (wordT n s f).pa = n.pa ∧ (wordT n s f).re = n.re := by
  cases n with
  | nil => rw [wordT]; split <;> exact ⟨rfl, rfl, rfl⟩
  | node => rw [wordT]; split <;> exact ⟨rfl, rfl, rfl⟩
theorem abs0 {x : Bs} (h : kindL x = 0) : absS x = .word x := by unfold absS; rw [if_pos h]
theorem abs1 {x : Bs} (h0 : ¬ kindL x = 0) (h : kindL x = 1) : absS x = .any := by unfold absS; rw [if_neg h0, if_pos h]
theorem abs2 {x : Bs} (h0 : ¬ kindL x = 0) (h : ¬ kindL x = 1) : absS x = .all := by unfold absS; rw [if_neg h0, if_neg h]
theorem Ok.nil : Ok .nil := by simp [Ok]
theorem Ok.parts {n : T} (h : Ok n) : OkE n.es ∧ Ok n.nx ∧ Ok n.pa ∧ Ok n.re := by
  cases n with
  | nil => exact ⟨by simp [T.es, OkE], Ok.nil, Ok.nil, Ok.nil⟩
  | node => simp only [Ok] at h; exact h
theorem Ok.mk {es : E} {nx pa re : T} {en : List Rt} (h1 : OkE es) (h2 : Ok nx) (h3 : Ok pa) (h4 : Ok re) : Ok (.node es nx pa re en) := by
  simp only [Ok]; exact ⟨h1, h2, h3, h4⟩
mutual
theorem Ok.step : ∀ {n : T} (s : Bs), Ok n → Ok (step n s)
  | .nil, _, _ => by rw [Go.Proofs.YtiombjmkaejjfaaDoor.step]; exact Ok.nil
  | .node es nx pa re en, s, h => by
    simp only [Ok] at h
    rw [Go.Proofs.YtiombjmkaejjfaaDoor.step]
    split
    · exact h.2.1
    · exact OkE.step s h.1
theorem OkE.step : ∀ {es : E} (s : Bs), OkE es → Ok (stepE es s)
  | .nil, _, _ => by rw [stepE]; exact Ok.nil
  | .cons t to tl, s, h => by
    simp only [OkE] at h
    rw [stepE]
    split
    · exact Ok.step _ h.2.2.1.1
    · exact OkE.step s h.2.2.2
end
theorem heads_word : ∀ (es : E) (s : Bs) (f : T → T), s ≠ [] → OkE es → (wordE es s f).heads = if s.head? ∈ es.heads then es.heads else es.heads ++ [s.head?]
  | .nil, s, f, _, _ => by rw [wordE]; simp [E.heads]
  | .cons t to tl, s, f, hs, h => by
    simp only [OkE] at h
    rw [wordE]
    by_cases h0 : cp t s = 0
    · rw [if_pos h0]
      have hne : ¬ s.head? = t.head? := by
        rcases cp_zero.1 h0 with e | e | e
        · exact absurd e h.1
        · exact absurd e hs
        · exact fun q => e q.symm
      simp only [E.heads, heads_word tl s f hs h.2.2.2, List.mem_cons, hne, false_or]
      split <;> simp
    · have he : s.head? = t.head? := by
        apply Classical.byContradiction
        intro q
        exact h0 (cp_zero.2 (.inr (.inr (fun e => q e.symm))))
      rw [if_neg h0]
      split
      · simp [E.heads, he]
      · simp only [E.heads, he, List.mem_cons, true_or, if_true]
        congr 1
        rw [List.head?_take, if_neg h0]
theorem word_ne (n : T) (s : Bs) (f : T → T) : wordT n s f ≠ .nil := by
  cases n <;> (rw [wordT]; split <;> (intro e; cases e))
theorem fresh_ne (m : T) : fresh m ≠ .nil := fun e => by cases e
theorem fresh_ok {m : T} (h : Ok m) : Ok (fresh m) := Ok.mk (by simp [OkE]) h Ok.nil Ok.nil
mutual
theorem Ok.word : ∀ {n : T} (s : Bs) (f : T → T), (∀ m, Ok m → Ok (f m)) → Ok n → Ok (wordT n s f)
  | .nil, s, f, hf, _ => by
    rw [wordT]
    split
    · exact fresh_ok (hf _ Ok.nil)
    · rename_i hs
      refine Ok.mk ?_ Ok.nil Ok.nil Ok.nil
      simp only [OkE, E.heads]
      exact ⟨hs, by simp, ⟨fresh_ok (hf _ Ok.nil), fresh_ne _⟩, trivial⟩
  | .node es nx pa re en, s, f, hf, h => by
    simp only [Ok] at h
    rw [wordT]
    split
    · exact Ok.mk h.1 (hf _ h.2.1) h.2.2.1 h.2.2.2
    · rename_i hs
      exact Ok.mk (OkE.word s f hf hs h.1) h.2.1 h.2.2.1 h.2.2.2
theorem OkE.word : ∀ {es : E} (s : Bs) (f : T → T), (∀ m, Ok m → Ok (f m)) → s ≠ [] → OkE es → OkE (wordE es s f)
  | .nil, s, f, hf, hs, _ => by
    rw [wordE]
    simp only [OkE, E.heads]
    exact ⟨hs, by simp, ⟨fresh_ok (hf _ Ok.nil), fresh_ne _⟩, trivial⟩
  | .cons t to tl, s, f, hf, hs, h => by
    have h' := h
    simp only [OkE] at h
    rw [wordE]
    by_cases h0 : cp t s = 0
    · rw [if_pos h0]
      simp only [OkE]
      refine ⟨h.1, ?_, h.2.2.1, OkE.word s f hf hs h.2.2.2⟩
      rw [heads_word tl s f hs h.2.2.2]
      have hne : ¬ t.head? = s.head? := by
        rcases cp_zero.1 h0 with e | e | e
        · exact absurd e h.1
        · exact absurd e hs
        · exact e
      split
      · exact h.2.1
      · simp only [List.mem_append, List.mem_singleton, not_or]
        exact ⟨h.2.1, hne⟩
    · rw [if_neg h0]
      by_cases h1 : cp t s = t.length
      · rw [if_pos h1]
        simp only [OkE]
        exact ⟨h.1, h.2.1, ⟨Ok.word _ f hf h.2.2.1.1, word_ne _ _ _⟩, h.2.2.2⟩
      · rw [if_neg h1]
        have hk := cp_le t s
        simp only [OkE]
        refine ⟨?_, ?_, ⟨?_, ?_⟩, h.2.2.2⟩
        · intro e
          have := congrArg List.length e
          simp at this
          rcases this with e | e
          · exact h0 e
          · exact h.1 e
        · rw [List.head?_take, if_neg h0]; exact h.2.1
        · have hd : t.drop (cp t s) ≠ [] := by simp; omega
          have hc := cp_drop t s
          unfold midT
          split
          · refine Ok.mk ?_ (hf _ Ok.nil) Ok.nil Ok.nil
            simp only [OkE, E.heads]
            exact ⟨hd, by simp, h.2.2.1, trivial⟩
          · rename_i hs2
            refine Ok.mk ?_ Ok.nil Ok.nil Ok.nil
            simp only [OkE, E.heads]
            refine ⟨hd, ?_, h.2.2.1, hs2, by simp, ⟨fresh_ok (hf _ Ok.nil), fresh_ne _⟩, trivial⟩
            rw [List.mem_singleton]
            rcases cp_zero.1 hc with e | e | e
            · exact absurd e hd
            · exact absurd e hs2
            · exact e
        · unfold midT
          split <;> (intro e; cases e)
end
theorem Ok.put : ∀ (l : List Bs) {n : T} (r : Rt), Ok n → Ok (putT n l r)
  | [], n, r, h => Ok.mk h.parts.1 h.parts.2.1 h.parts.2.2.1 h.parts.2.2.2
  | x :: l, n, r, h => by
    rw [putT]
    split
    · exact Ok.word x _ (fun m hm => Ok.put l r hm) h
    · split
      · exact Ok.mk h.parts.1 h.parts.2.1 (Ok.put l r h.parts.2.2.1) h.parts.2.2.2
      · exact Ok.mk h.parts.1 h.parts.2.1 h.parts.2.2.1 (by
          have := h.parts.2.2.2.parts
          exact Ok.mk this.1 this.2.1 this.2.2.1 this.2.2.2)
theorem den_nil : ∀ (pat : List Sg), den .nil pat = []
  | [] => rfl
  | .word s :: ps => by rw [den, step]; exact den_nil ps
  | .any :: ps => by rw [den]; exact den_nil ps
  | .all :: _ => rfl
theorem den_put : ∀ (l : List Bs) (n : T) (r : Rt) (pat : List Sg), Ok n → Nm pat → Nm (l.map absS) →
    den (putT n l r) pat = if pat = l.map absS then den n pat ++ [r] else den n pat
  | [], n, r, pat, _, _, _ => by
    rw [putT]
    cases pat with
    | nil => rfl
    | cons g ps =>
      rw [if_neg (by simp)]
      cases g with
      | word s => rw [den, endT, step_same, den]
      | any => rfl
      | all => rfl
  | x :: l, n, r, pat, h, hp, hl => by
    rw [putT]
    by_cases h0 : kindL x = 0
    · rw [if_pos h0]
      simp only [List.map_cons, abs0 h0] at hl ⊢
      have hw := word_en n x (fun m => putT m l r)
      cases pat with
      | nil => rw [if_neg (by simp), den, den, hw.1]
      | cons g ps =>
        cases g with
        | word s =>
          rw [den, step_word n x s _ h, den]
          by_cases e : s = x
          · subst e
            rw [if_pos rfl, den_put l (step n s) r ps (h.step s) hp hl]
            simp
          · rw [if_neg e, if_neg (by simp [e])]
        | any => rw [if_neg (by simp), den, den, hw.2.1]
        | all => rw [if_neg (by simp), den, den, hw.2.2]
    · rw [if_neg h0]
      by_cases h1 : kindL x = 1
      · rw [if_pos h1]
        simp only [List.map_cons, abs1 h0 h1] at hl ⊢
        cases pat with
        | nil => rw [if_neg (by simp)]; rfl
        | cons g ps =>
          cases g with
          | word s => rw [if_neg (by simp), den, step_same, den]
          | any =>
            rw [den, den]
            show den (putT n.pa l r) ps = _
            rw [den_put l n.pa r ps h.parts.2.2.1 hp hl]
            simp
          | all => rw [if_neg (by simp)]; rfl
      · rw [if_neg h1]
        simp only [List.map_cons, abs2 h0 h1] at hl ⊢
        have hl0 : l.map absS = [] := hl
        cases pat with
        | nil => rw [if_neg (by simp)]; rfl
        | cons g ps =>
          cases g with
          | word s => rw [if_neg (by simp), den, step_same, den]
          | any => rw [if_neg (by simp)]; rfl
          | all =>
            have : ps = [] := hp
            subst this
            rw [hl0, if_pos rfl]
            rfl
/-- The shapes that a path has, the strongest first. -/
def cands : List Bs → List (List Sg)
  | [] => [[]]
  | s :: l => (if s = [] then [] else (cands l).map (fun ps => .word s :: ps) ++ (cands l).map (fun ps => .any :: ps)) ++ [[.all]]
/-- What is gone over at a path. -/
def visit : T → List Bs → List (List Rt)
  | n, [] => if n.en = [] then [] else [n.en]
  | n, s :: l => (if s = [] then [] else visit (step n s) l ++ visit n.pa l) ++ (match n.re with | .nil => [] | .node _ _ _ _ en => [en])
theorem visit_nil : ∀ (l : List Bs), visit .nil l = []
  | [] => rfl
  | s :: l => by
    rw [visit, step]
    show (if s = [] then [] else visit .nil l ++ visit .nil l) ++ [] = []
    rw [visit_nil l]
    split <;> rfl
theorem flat_nil (c : List (List Sg)) : c.flatMap (den .nil) = [] := by
  rw [List.flatMap_eq_nil_iff]
  intro p _
  exact den_nil p
theorem visit_flat : ∀ (l : List Bs) (n : T), (visit n l).flatten = (cands l).flatMap (den n)
  | [], n => by
    rw [visit]
    split
    · rename_i h; simp [cands, den, h]
    · simp [cands, den]
  | s :: l, n => by
    rw [visit, cands]
    have hre : (match n.re with | .nil => ([] : List (List Rt)) | .node _ _ _ _ en => [en]).flatten = [[Sg.all]].flatMap (den n) := by
      cases h : n.re with
      | nil => simp [den, h, T.en]
      | node => simp [den, h, T.en]
    rw [List.flatten_append, hre, List.flatMap_append]
    congr 1
    by_cases hs : s = []
    · rw [if_pos hs, if_pos hs]; rfl
    · rw [if_neg hs, if_neg hs, List.flatten_append, visit_flat l, visit_flat l, List.flatMap_append]
      simp only [List.flatMap_map]
      rfl
/-- All routes one behind the other. -/
def withT (n : T) (L : List Rt) : T := L.foldl (fun t r => putT t (segsL r.p) r) n
/-- The tree has these routes. -/
structure Has (n : T) (L : List Rt) : Prop where
  ok : Ok n
  at_ : ∀ pat, Nm pat → den n pat = L.filter fun r => decide (shp r = pat)
theorem Has.nil : Has .nil [] := ⟨Ok.nil, fun pat _ => by rw [den_nil]; rfl⟩
theorem Has.put {n : T} {L : List Rt} (h : Has n L) (r : Rt) (hr : Nm (shp r)) : Has (putT n (segsL r.p) r) (L ++ [r]) := by
  refine ⟨h.ok.put _ r, fun pat hp => ?_⟩
  rw [den_put _ _ _ _ h.ok hp hr, h.at_ pat hp, List.filter_append]
  show (if pat = shp r then _ else _) = _
  by_cases e : shp r = pat
  · rw [if_pos e.symm]
    simp [e]
  · rw [if_neg (fun q => e q.symm)]
    simp [e]
theorem Has.with : ∀ (M : List Rt) {n : T} {L : List Rt}, Has n L → (∀ r ∈ M, Nm (shp r)) → Has (withT n M) (L ++ M)
  | [], n, L, h, _ => by simpa [withT] using h
  | r :: M, n, L, h, hM => by
    have := Has.with M (h.put r (hM r (by simp))) (fun r' hr' => hM r' (by simp [hr']))
    rw [List.append_assoc] at this
    exact this
theorem cands_nm : ∀ (l : List Bs) (pat : List Sg), pat ∈ cands l → Nm pat
  | [], pat, h => by
    simp [cands] at h
    subst h
    trivial
  | s :: l, pat, h => by
    rw [cands, List.mem_append] at h
    rcases h with h | h
    · split at h
      · cases h
      · rw [List.mem_append, List.mem_map, List.mem_map] at h
        rcases h with ⟨ps, h, rfl⟩ | ⟨ps, h, rfl⟩
        · exact cands_nm l ps h
        · exact cands_nm l ps h
    · rw [List.mem_singleton] at h
      subst h
      exact (rfl : ([] : List Sg) = [])
/-- What is gone over, told by the routes alone. -/
def flatL (L : List Rt) (l : List Bs) : List Rt := (cands l).flatMap fun pat => L.filter fun r => decide (shp r = pat)
theorem Has.flat {n : T} {L : List Rt} (h : Has n L) (l : List Bs) : (visit n l).flatten = flatL L l := by
  rw [visit_flat]
  unfold flatL
  rw [List.flatMap_def, List.flatMap_def]
  congr 1
  exact List.map_congr_left fun pat hp => h.at_ pat (cands_nm l pat hp)
end Go.Proofs.YtiombjmkaejjfaaDoor
