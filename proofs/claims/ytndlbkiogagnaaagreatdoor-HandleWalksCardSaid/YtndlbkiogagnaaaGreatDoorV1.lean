/- Tries, plainly: nodes and edges, a step by a word, a route more; what they hold at a shape. -/
import Derived.Test.YtndlbkiogagnaaaGreatDoorA0
namespace Go.Proofs.YtndlbkiogagnaaaGreatDoor
set_option linter.unusedSimpArgs false
set_option linter.unusedVariables false
set_option linter.unnecessarySimpa false

/-- A route: its method, its pattern, its handler. -/
structure Rt where
  m : Bs
  p : Bs
  h : Bs
deriving DecidableEq
/-- A segment of a shape: a word, any one, all that follow. -/
inductive Sg where
  | word (s : Bs)
  | any
  | all
deriving DecidableEq
def kindL : Bs → Nat
  | [] => 0
  | c :: _ => if c = 58 then 1 else if c = 42 then 2 else 0
def absS (s : Bs) : Sg := if kindL s = 0 then .word s else if kindL s = 1 then .any else .all
def segsL (p : Bs) : List Bs := if p = [47] then [] else splitL 47 p.tail
def shp (r : Rt) : List Sg := (segsL r.p).map absS

mutual
/-- A node: none, or its edges, what is behind a whole word, behind any one, behind all, the routes that end here. -/
inductive T where
  | nil
  | node (es : E) (nx pa re : T) (en : List Rt)
/-- Edges by their texts. -/
inductive E where
  | nil
  | cons (t : Bs) (to : T) (tl : E)
end

/-- How many first bytes two texts have in common. -/
def cp : Bs → Bs → Nat
  | a :: x, b :: y => if a = b then cp x y + 1 else 0
  | _, _ => 0
theorem cp_le : ∀ (a b : Bs), cp a b ≤ a.length ∧ cp a b ≤ b.length
  | [], _ => by simp [cp]
  | _ :: _, [] => by simp [cp]
  | a :: x, b :: y => by
    have := cp_le x y
    unfold cp
    split <;> simp <;> omega
theorem cp_take : ∀ (a b : Bs), a.take (cp a b) = b.take (cp a b)
  | [], b => by simp [cp]
  | _ :: _, [] => by simp [cp]
  | a :: x, b :: y => by
    unfold cp
    split
    · rename_i h; subst h; simp [cp_take x y]
    · simp
theorem cp_stop : ∀ (a b : Bs), cp a b < a.length → cp a b < b.length → a[cp a b]? ≠ b[cp a b]?
  | [], _ => by simp [cp]
  | _ :: _, [] => by simp [cp]
  | a :: x, b :: y => by
    unfold cp
    split
    · intro h1 h2
      simp only [List.length_cons] at h1 h2
      simp only [List.getElem?_cons_succ]
      exact cp_stop x y (by omega) (by omega)
    · rename_i h
      intro _ _
      simp [h]
theorem cp_pre {t s : Bs} : cp t s = t.length ↔ t <+: s := by
  constructor
  · intro h
    have := cp_take t s
    rw [h, List.take_length] at this
    rw [this]
    exact List.take_prefix _ _
  · rintro ⟨r, rfl⟩
    induction t with
    | nil => rfl
    | cons a t ih => simp [cp, ih]
theorem cp_zero {t s : Bs} : cp t s = 0 ↔ t = [] ∨ s = [] ∨ t.head? ≠ s.head? := by
  cases t with
  | nil => simp [cp]
  | cons a x =>
    cases s with
    | nil => simp [cp]
    | cons b y =>
      unfold cp
      split <;> simp_all
theorem cp_drop (t s : Bs) : cp (t.drop (cp t s)) (s.drop (cp t s)) = 0 := by
  rw [cp_zero]
  by_cases h1 : cp t s < t.length
  · by_cases h2 : cp t s < s.length
    · right; right
      have := cp_stop t s h1 h2
      rwa [List.head?_drop, List.head?_drop]
    · right; left; exact List.drop_eq_nil_of_le (by omega)
  · left; exact List.drop_eq_nil_of_le (by omega)

mutual
/-- Behind a whole word. -/
def step : T → Bs → T
  | .nil, _ => .nil
  | .node es nx _ _ _, s => if s = [] then nx else stepE es s
def stepE : E → Bs → T
  | .nil, _ => .nil
  | .cons t to tl, s => if cp t s = t.length then step to (s.drop t.length) else stepE tl s
end
/-- A node that has nothing but what is behind a word. -/
def fresh (m : T) : T := .node .nil m .nil .nil []
/-- What parts an edge. -/
def midT (t : Bs) (to : T) (s : Bs) (f : T → T) : T := if s = [] then .node (.cons t to .nil) (f .nil) .nil .nil [] else .node (.cons t to (.cons s (fresh (f .nil)) .nil)) .nil .nil .nil []
mutual
/-- Below which a word leads on to what f makes of what was there. -/
def wordT : T → Bs → (T → T) → T
  | .nil, s, f => if s = [] then fresh (f .nil) else .node (.cons s (fresh (f .nil)) .nil) .nil .nil .nil []
  | .node es nx pa re en, s, f => if s = [] then .node es (f nx) pa re en else .node (wordE es s f) nx pa re en
def wordE : E → Bs → (T → T) → E
  | .nil, s, f => .cons s (fresh (f .nil)) .nil
  | .cons t to tl, s, f =>
    if cp t s = 0 then .cons t to (wordE tl s f)
    else if cp t s = t.length then .cons t (wordT to (s.drop t.length) f) tl
    else .cons (t.take (cp t s)) (midT (t.drop (cp t s)) to (s.drop (cp t s)) f) tl
end
def E.heads : E → List (Option UInt8)
  | .nil => []
  | .cons t _ tl => t.head? :: E.heads tl
mutual
/-- Edges' texts are not empty, and begin unlike one another. -/
def Ok : T → Prop
  | .nil => True
  | .node es nx pa re _ => OkE es ∧ Ok nx ∧ Ok pa ∧ Ok re
def OkE : E → Prop
  | .nil => True
  | .cons t to tl => t ≠ [] ∧ t.head? ∉ E.heads tl ∧ (Ok to ∧ to ≠ .nil) ∧ OkE tl
end
theorem stepE_head : ∀ (es : E) (s : Bs), OkE es → s.head? ∉ E.heads es → stepE es s = .nil
  | .nil, _, _, _ => by simp [stepE]
  | .cons t to tl, s, h, hn => by
    simp only [OkE] at h
    simp only [E.heads, List.mem_cons, not_or] at hn
    rw [stepE, if_neg, stepE_head tl s h.2.2.2 hn.2]
    rw [cp_pre]
    rintro ⟨r, rfl⟩
    apply hn.1
    cases t with
    | nil => exact absurd rfl h.1
    | cons a x => rfl
theorem stepE_nil : ∀ (es : E), OkE es → stepE es [] = .nil
  | .nil, _ => by simp [stepE]
  | .cons t to tl, h => by
    simp only [OkE] at h
    rw [stepE, if_neg, stepE_nil tl h.2.2.2]
    rw [cp_pre]
    rintro ⟨r, hr⟩
    have := List.append_eq_nil_iff.1 hr
    exact h.1 this.1
theorem step_fresh (m : T) (s : Bs) : step (fresh m) s = if s = [] then m else .nil := by
  unfold fresh
  rw [step, stepE]
theorem drop_app {t s s' : Bs} (h : t <+: s) (h' : t <+: s') : (s'.drop t.length = s.drop t.length) ↔ s' = s := by
  obtain ⟨a, rfl⟩ := h
  obtain ⟨b, rfl⟩ := h'
  simp
/-- What parts an edge leads on by its two ways. -/
theorem step_mid (t : Bs) (to : T) (s s' : Bs) (f : T → T) (ht : t ≠ []) (h0 : cp t s = 0) : step (midT t to s f) s' = if s' = s then f .nil else if s' = [] then .nil else if cp t s' = t.length then step to (s'.drop t.length) else .nil := by
  unfold midT
  by_cases hs : s = []
  · subst hs
    rw [if_pos rfl, step]
    by_cases h : s' = []
    · rw [if_pos h, if_pos h]
    · rw [if_neg h, if_neg h, stepE, stepE, if_neg h]
  · rw [if_neg hs, step]
    by_cases h : s' = []
    · subst h
      rw [if_pos rfl, if_neg (fun e => hs e.symm), if_pos rfl]
    · rw [if_neg h, stepE]
      by_cases hp : cp t s' = t.length
      · rw [if_pos hp]
        have : s' ≠ s := by
          intro e
          subst e
          rw [h0] at hp
          exact ht (List.eq_nil_of_length_eq_zero hp.symm)
        rw [if_neg this, if_neg h, if_pos hp]
      · rw [if_neg hp, stepE]
        by_cases hs2 : cp s s' = s.length
        · rw [if_pos hs2, step_fresh]
          have hpre := cp_pre.1 hs2
          by_cases e : s' = s
          · subst e
            rw [if_pos (by simp), if_pos rfl]
          · rw [if_neg, if_neg e, if_neg h, if_neg hp]
            intro e2
            obtain ⟨r, rfl⟩ := hpre
            simp at e2
            subst e2
            exact e (by simp)
        · rw [if_neg hs2, stepE]
          rw [if_neg, if_neg h, if_neg hp]
          intro e
          subst e
          exact hs2 (cp_pre.2 (List.prefix_refl _))
mutual
theorem step_word : ∀ (n : T) (s s' : Bs) (f : T → T), Ok n → step (wordT n s f) s' = if s' = s then f (step n s) else step n s'
  | .nil, s, s', f, _ => by
    rw [wordT, step, step]
    by_cases hs : s = []
    · rw [if_pos hs, step_fresh, hs]
    · rw [if_neg hs, step]
      by_cases h : s' = []
      · subst h
        rw [if_pos rfl, if_neg (fun e => hs e.symm)]
      · rw [if_neg h, stepE, step_fresh, stepE]
        by_cases e : s' = s
        · subst e
          rw [if_pos (cp_pre.2 (List.prefix_refl _)), if_pos (by simp), if_pos rfl]
        · rw [if_neg e]
          split
          · rename_i hc
            rw [if_neg]
            intro e2
            obtain ⟨r, rfl⟩ := cp_pre.1 hc
            simp at e2
            subst e2
            exact e (by simp)
          · rfl
  | .node es nx pa re en, s, s', f, h => by
    simp only [Ok] at h
    rw [wordT]
    by_cases hs : s = []
    · subst hs
      rw [if_pos rfl, step, step, step, if_pos rfl]
      by_cases e : s' = []
      · rw [if_pos e, if_pos e]
      · rw [if_neg e, if_neg e, if_neg e]
    · rw [if_neg hs, step, step, step, if_neg hs]
      by_cases e : s' = []
      · subst e
        rw [if_pos rfl, if_neg (fun e => hs e.symm), if_pos rfl]
      · rw [if_neg e, if_neg e, stepE_word es s s' f h.1 hs]
theorem stepE_word : ∀ (es : E) (s s' : Bs) (f : T → T), OkE es → s ≠ [] → stepE (wordE es s f) s' = if s' = s then f (stepE es s) else stepE es s'
  | .nil, s, s', f, _, hs => by
    rw [wordE, stepE, stepE, stepE, stepE, step_fresh]
    by_cases e : s' = s
    · subst e
      rw [if_pos (cp_pre.2 (List.prefix_refl _)), if_pos (by simp), if_pos rfl]
    · rw [if_neg e]
      split
      · rename_i hc
        rw [if_neg]
        intro e2
        obtain ⟨r, rfl⟩ := cp_pre.1 hc
        simp at e2
        subst e2
        exact e (by simp)
      · rfl
  | .cons t to tl, s, s', f, h, hs => by
    simp only [OkE] at h
    obtain ⟨ht, hh, hto, htl⟩ := h
    have htl0 : t.length ≠ 0 := fun e => ht (List.eq_nil_of_length_eq_zero e)
    rw [wordE]
    by_cases h0 : cp t s = 0
    · have hne : ¬ cp t s = t.length := by omega
      rw [if_pos h0, stepE, stepE_word tl s s' f htl hs, stepE, stepE, if_neg hne]
      by_cases e : s' = s
      · subst e
        rw [if_neg hne, if_pos rfl, if_pos rfl]
      · rw [if_neg e, if_neg e]
    · rw [if_neg h0]
      by_cases h1 : cp t s = t.length
      · have hp := cp_pre.1 h1
        rw [if_pos h1, stepE, stepE, stepE, if_pos h1]
        by_cases h2 : cp t s' = t.length
        · rw [if_pos h2, if_pos h2, step_word to _ _ f hto.1]
          have := drop_app hp (cp_pre.1 h2)
          by_cases e : s' = s
          · subst e; simp
          · rw [if_neg e, if_neg (fun q => e (this.1 q))]
        · have e : ¬ s' = s := fun e => h2 (by rw [e]; exact h1)
          rw [if_neg h2, if_neg e, if_neg h2]
      · rw [if_neg h1, stepE]
        have hk := cp_le t s
        have hlen : (t.take (cp t s)).length = cp t s := by simp; omega
        rw [hlen]
        have hlt : cp t s < t.length := by omega
        have hd : t.drop (cp t s) ≠ [] := by simp; omega
        have hnp : ¬ t <+: s := fun q => h1 (cp_pre.2 q)
        have hst : stepE (.cons t to tl) s = .nil := by
          rw [stepE, if_neg h1]
          refine stepE_head tl s htl ?_
          have : s.head? = t.head? := by
            cases t with
            | nil => exact absurd rfl ht
            | cons a x =>
              cases s with
              | nil => exact absurd rfl hs
              | cons b y =>
                unfold cp at h0
                split at h0
                · rename_i e; simp [e]
                · exact absurd rfl h0
          rw [this]
          exact hh
        rw [hst]
        by_cases h2 : cp (t.take (cp t s)) s' = cp t s
        · rw [if_pos h2, step_mid _ _ _ _ _ hd (cp_drop t s)]
          have hp2 : t.take (cp t s) <+: s' := cp_pre.1 (by rw [hlen]; exact h2)
          have hp1 : t.take (cp t s) <+: s := by rw [cp_take t s]; exact List.take_prefix _ _
          obtain ⟨a, ha⟩ := hp1
          obtain ⟨b, hb⟩ := hp2
          have ea : s.drop (cp t s) = a := by have := List.drop_left' (l₂ := a) hlen; rw [ha] at this; exact this
          have eb : s'.drop (cp t s) = b := by have := List.drop_left' (l₂ := b) hlen; rw [hb] at this; exact this
          have et : t.take (cp t s) ++ t.drop (cp t s) = t := List.take_append_drop _ _
          rw [ea, eb]
          by_cases e : s' = s
          · have : b = a := by
              have := ha.trans (e.symm.trans hb.symm)
              exact (List.append_cancel_left this).symm
            rw [if_pos this, if_pos e]
          · have hba : ¬ b = a := fun q => e (by rw [← ha, ← hb, q])
            rw [if_neg hba, if_neg e]
            rw [stepE]
            have hpp : (cp t s' = t.length) ↔ (cp (t.drop (cp t s)) b = (t.drop (cp t s)).length) := by
              rw [cp_pre, cp_pre]
              constructor
              · rintro ⟨r, hr⟩
                refine ⟨r, ?_⟩
                rw [← hb] at hr
                rw [← et] at hr
                rw [List.append_assoc] at hr
                have := List.append_cancel_left (as := t.take (cp t s)) (by simpa using hr)
                simpa using this
              · rintro ⟨r, hr⟩
                refine ⟨r, ?_⟩
                rw [← hb, ← hr, ← List.append_assoc, et]
            by_cases h3 : cp t s' = t.length
            · have h4 := hpp.1 h3
              have hbn : b ≠ [] := by
                intro q
                rw [q] at h4
                have := (cp_le (t.drop (cp t s)) []).2
                rw [h4] at this
                exact hd (List.eq_nil_of_length_eq_zero (by simpa using this))
              rw [if_neg hbn, if_pos h4, if_pos h3]
              congr 1
              have hp3 := cp_pre.1 h3
              obtain ⟨r, hr⟩ := hp3
              obtain ⟨r2, hr2⟩ := cp_pre.1 h4
              rw [← hr2, ← hr]
              rw [List.drop_left, List.drop_left]
              have : t ++ r2 = t ++ r := by rw [hr, ← hb, ← hr2, ← List.append_assoc, et]
              exact List.append_cancel_left this
            · rw [if_neg h3]
              have h4 : ¬ cp (t.drop (cp t s)) b = (t.drop (cp t s)).length := fun q => h3 (hpp.2 q)
              rw [if_neg h4]
              have hnil : stepE tl s' = .nil := by
                refine stepE_head tl s' htl ?_
                have : s'.head? = t.head? := by
                  have hne : t.take (cp t s) ≠ [] := by
                    intro q
                    have := congrArg List.length q
                    rw [hlen] at this
                    exact h0 this
                  cases hq : t.take (cp t s) with
                  | nil => exact absurd hq hne
                  | cons c d =>
                    rw [hq] at et hb
                    have e3 : t.head? = some c := by rw [← et]; rfl
                    rw [e3, ← hb]; rfl
                rw [this]
                exact hh
              rw [hnil]
              split <;> rfl
        · rw [if_neg h2]
          have e : ¬ s' = s := by
            intro e
            subst e
            apply h2
            have hp1 : t.take (cp t s') <+: s' := by rw [cp_take t s']; exact List.take_prefix _ _
            rw [cp_pre.2 hp1, hlen]
          rw [if_neg e, stepE, if_neg]
          intro q
          apply h2
          have hp := cp_pre.1 q
          have : t.take (cp t s) <+: s' := (List.take_prefix _ _).trans hp
          rw [cp_pre.2 this, hlen]
end
end Go.Proofs.YtndlbkiogagnaaaGreatDoor
namespace Go.Proofs.YtndlbkiogagnaaaGreatDoor
set_option linter.unusedSimpArgs false
set_option linter.unusedVariables false
set_option linter.unnecessarySimpa false

def T.es : T → E
  | .nil => .nil
  | .node es _ _ _ _ => es
def T.nx : T → T
  | .nil => .nil
  | .node _ nx _ _ _ => nx
def T.pa : T → T
  | .nil => .nil
  | .node _ _ pa _ _ => pa
def T.re : T → T
  | .nil => .nil
  | .node _ _ _ re _ => re
def T.en : T → List Rt
  | .nil => []
  | .node _ _ _ _ en => en
/-- What ends at a shape. -/
def den : T → List Sg → List Rt
  | n, [] => n.en
  | n, .word s :: ps => den (step n s) ps
  | n, .any :: ps => den n.pa ps
  | n, .all :: _ => n.re.en
/-- A route more that ends here. -/
def endT (n : T) (r : Rt) : T := .node n.es n.nx n.pa n.re (n.en ++ [r])
/-- A route more, by its segments. -/
def putT : T → List Bs → Rt → T
  | n, [], r => endT n r
  | n, x :: l, r =>
    if kindL x = 0 then wordT n x (fun m => putT m l r)
    else if kindL x = 1 then .node n.es n.nx (putT n.pa l r) n.re n.en
    else .node n.es n.nx n.pa (endT n.re r) n.en
/-- What stands for all is the last one. -/
def Nm : List Sg → Prop
  | [] => True
  | .all :: ps => ps = []
  | .word _ :: ps => Nm ps
  | .any :: ps => Nm ps
theorem step_same (n : T) (pa re : T) (en : List Rt) (s : Bs) : step (.node n.es n.nx pa re en) s = step n s := by
  cases n with
  | nil => simp [step, T.es, T.nx, stepE]
  | node => simp [step, T.es, T.nx]
theorem word_en (n : T) (s : Bs) (f : T → T) : (wordT n s f).en = n.en ∧ (wordT n s f).pa = n.pa ∧ (wordT n s f).re = n.re := by
  cases n with
  | nil => rw [wordT]; split <;> exact ⟨rfl, rfl, rfl⟩
  | node => rw [wordT]; split <;> exact ⟨rfl, rfl, rfl⟩
theorem abs0 {x : Bs} (h : kindL x = 0) : absS x = .word x := by unfold absS; rw [if_pos h]
theorem abs1 {x : Bs} (h0 : ¬ kindL x = 0) (h : kindL x = 1) : absS x = .any := by unfold absS; rw [if_neg h0, if_pos h]
theorem abs2 {x : Bs} (h0 : ¬ kindL x = 0) (h : ¬ kindL x = 1) : absS x = .all := by unfold absS; rw [if_neg h0, if_neg h]
theorem Ok.nil : Ok .nil := by simp [Ok]
theorem Ok.parts {n : T} (h : Ok n) : OkE n.es ∧ Ok n.nx ∧ Ok n.pa ∧ Ok n.re := by
  cases n with
  | nil => exact ⟨by simp [T.es, OkE], Ok.nil, Ok.nil, Ok.nil⟩
  | node => simp only [Ok] at h; exact h
theorem Ok.mk {es : E} {nx pa re : T} {en : List Rt} (h1 : OkE es) (h2 : Ok nx) (h3 : Ok pa) (h4 : Ok re) : Ok (.node es nx pa re en) := by
  simp only [Ok]; exact ⟨h1, h2, h3, h4⟩
mutual
theorem Ok.step : ∀ {n : T} (s : Bs), Ok n → Ok (step n s)
  | .nil, _, _ => by rw [Go.Proofs.YtndlbkiogagnaaaGreatDoor.step]; exact Ok.nil
  | .node es nx pa re en, s, h => by
    simp only [Ok] at h
    rw [Go.Proofs.YtndlbkiogagnaaaGreatDoor.step]
    split
    · exact h.2.1
    · exact OkE.step s h.1
theorem OkE.step : ∀ {es : E} (s : Bs), OkE es → Ok (stepE es s)
  | .nil, _, _ => by rw [stepE]; exact Ok.nil
  | .cons t to tl, s, h => by
    simp only [OkE] at h
    rw [stepE]
    split
    · exact Ok.step _ h.2.2.1.1
    · exact OkE.step s h.2.2.2
end
theorem heads_word : ∀ (es : E) (s : Bs) (f : T → T), s ≠ [] → OkE es → (wordE es s f).heads = if s.head? ∈ es.heads then es.heads else es.heads ++ [s.head?]
  | .nil, s, f, _, _ => by rw [wordE]; simp [E.heads]
  | .cons t to tl, s, f, hs, h => by
    simp only [OkE] at h
    rw [wordE]
    by_cases h0 : cp t s = 0
    · rw [if_pos h0]
      have hne : ¬ s.head? = t.head? := by
        rcases cp_zero.1 h0 with e | e | e
        · exact absurd e h.1
        · exact absurd e hs
        · exact fun q => e q.symm
      simp only [E.heads, heads_word tl s f hs h.2.2.2, List.mem_cons, hne, false_or]
      split <;> simp
    · have he : s.head? = t.head? := by
        apply Classical.byContradiction
        intro q
        exact h0 (cp_zero.2 (.inr (.inr (fun e => q e.symm))))
      rw [if_neg h0]
      split
      · simp [E.heads, he]
      · simp only [E.heads, he, List.mem_cons, true_or, if_true]
        congr 1
        rw [List.head?_take, if_neg h0]
theorem word_ne (n : T) (s : Bs) (f : T → T) : wordT n s f ≠ .nil := by
  cases n <;> (rw [wordT]; split <;> (intro e; cases e))
theorem fresh_ne (m : T) : fresh m ≠ .nil := fun e => by cases e
theorem fresh_ok {m : T} (h : Ok m) : Ok (fresh m) := Ok.mk (by simp [OkE]) h Ok.nil Ok.nil
mutual
theorem Ok.word : ∀ {n : T} (s : Bs) (f : T → T), (∀ m, Ok m → Ok (f m)) → Ok n → Ok (wordT n s f)
  | .nil, s, f, hf, _ => by
    rw [wordT]
    split
    · exact fresh_ok (hf _ Ok.nil)
    · rename_i hs
      refine Ok.mk ?_ Ok.nil Ok.nil Ok.nil
      simp only [OkE, E.heads]
      exact ⟨hs, by simp, ⟨fresh_ok (hf _ Ok.nil), fresh_ne _⟩, trivial⟩
  | .node es nx pa re en, s, f, hf, h => by
    simp only [Ok] at h
    rw [wordT]
    split
    · exact Ok.mk h.1 (hf _ h.2.1) h.2.2.1 h.2.2.2
    · rename_i hs
      exact Ok.mk (OkE.word s f hf hs h.1) h.2.1 h.2.2.1 h.2.2.2
theorem OkE.word : ∀ {es : E} (s : Bs) (f : T → T), (∀ m, Ok m → Ok (f m)) → s ≠ [] → OkE es → OkE (wordE es s f)
  | .nil, s, f, hf, hs, _ => by
    rw [wordE]
    simp only [OkE, E.heads]
    exact ⟨hs, by simp, ⟨fresh_ok (hf _ Ok.nil), fresh_ne _⟩, trivial⟩
  | .cons t to tl, s, f, hf, hs, h => by
    have h' := h
    simp only [OkE] at h
    rw [wordE]
    by_cases h0 : cp t s = 0
    · rw [if_pos h0]
      simp only [OkE]
      refine ⟨h.1, ?_, h.2.2.1, OkE.word s f hf hs h.2.2.2⟩
      rw [heads_word tl s f hs h.2.2.2]
      have hne : ¬ t.head? = s.head? := by
        rcases cp_zero.1 h0 with e | e | e
        · exact absurd e h.1
        · exact absurd e hs
        · exact e
      split
      · exact h.2.1
      · simp only [List.mem_append, List.mem_singleton, not_or]
        exact ⟨h.2.1, hne⟩
    · rw [if_neg h0]
      by_cases h1 : cp t s = t.length
      · rw [if_pos h1]
        simp only [OkE]
        exact ⟨h.1, h.2.1, ⟨Ok.word _ f hf h.2.2.1.1, word_ne _ _ _⟩, h.2.2.2⟩
      · rw [if_neg h1]
        have hk := cp_le t s
        simp only [OkE]
        refine ⟨?_, ?_, ⟨?_, ?_⟩, h.2.2.2⟩
        · intro e
          have := congrArg List.length e
          simp at this
          rcases this with e | e
          · exact h0 e
          · exact h.1 e
        · rw [List.head?_take, if_neg h0]; exact h.2.1
        · have hd : t.drop (cp t s) ≠ [] := by simp; omega
          have hc := cp_drop t s
          unfold midT
          split
          · refine Ok.mk ?_ (hf _ Ok.nil) Ok.nil Ok.nil
            simp only [OkE, E.heads]
            exact ⟨hd, by simp, h.2.2.1, trivial⟩
          · rename_i hs2
            refine Ok.mk ?_ Ok.nil Ok.nil Ok.nil
            simp only [OkE, E.heads]
            refine ⟨hd, ?_, h.2.2.1, hs2, by simp, ⟨fresh_ok (hf _ Ok.nil), fresh_ne _⟩, trivial⟩
            rw [List.mem_singleton]
            rcases cp_zero.1 hc with e | e | e
            · exact absurd e hd
            · exact absurd e hs2
            · exact e
        · unfold midT
          split <;> (intro e; cases e)
end
theorem Ok.put : ∀ (l : List Bs) {n : T} (r : Rt), Ok n → Ok (putT n l r)
  | [], n, r, h => Ok.mk h.parts.1 h.parts.2.1 h.parts.2.2.1 h.parts.2.2.2
  | x :: l, n, r, h => by
    rw [putT]
    split
    · exact Ok.word x _ (fun m hm => Ok.put l r hm) h
    · split
      · exact Ok.mk h.parts.1 h.parts.2.1 (Ok.put l r h.parts.2.2.1) h.parts.2.2.2
      · exact Ok.mk h.parts.1 h.parts.2.1 h.parts.2.2.1 (by
          have := h.parts.2.2.2.parts
          exact Ok.mk this.1 this.2.1 this.2.2.1 this.2.2.2)
theorem den_nil : ∀ (pat : List Sg), den .nil pat = []
  | [] => rfl
  | .word s :: ps => by rw [den, step]; exact den_nil ps
  | .any :: ps => by rw [den]; exact den_nil ps
  | .all :: _ => rfl
theorem den_put : ∀ (l : List Bs) (n : T) (r : Rt) (pat : List Sg), Ok n → Nm pat → Nm (l.map absS) →
    den (putT n l r) pat = if pat = l.map absS then den n pat ++ [r] else den n pat
  | [], n, r, pat, _, _, _ => by
    rw [putT]
    cases pat with
    | nil => rfl
    | cons g ps =>
      rw [if_neg (by simp)]
      cases g with
      | word s => rw [den, endT, step_same, den]
      | any => rfl
      | all => rfl
  | x :: l, n, r, pat, h, hp, hl => by
    rw [putT]
    by_cases h0 : kindL x = 0
    · rw [if_pos h0]
      simp only [List.map_cons, abs0 h0] at hl ⊢
      have hw := word_en n x (fun m => putT m l r)
      cases pat with
      | nil => rw [if_neg (by simp), den, den, hw.1]
      | cons g ps =>
        cases g with
        | word s =>
          rw [den, step_word n x s _ h, den]
          by_cases e : s = x
          · subst e
            rw [if_pos rfl, den_put l (step n s) r ps (h.step s) hp hl]
            simp
          · rw [if_neg e, if_neg (by simp [e])]
        | any => rw [if_neg (by simp), den, den, hw.2.1]
        | all => rw [if_neg (by simp), den, den, hw.2.2]
    · rw [if_neg h0]
      by_cases h1 : kindL x = 1
      · rw [if_pos h1]
        simp only [List.map_cons, abs1 h0 h1] at hl ⊢
        cases pat with
        | nil => rw [if_neg (by simp)]; rfl
        | cons g ps =>
          cases g with
          | word s => rw [if_neg (by simp), den, step_same, den]
          | any =>
            rw [den, den]
            show den (putT n.pa l r) ps = _
            rw [den_put l n.pa r ps h.parts.2.2.1 hp hl]
            simp
          | all => rw [if_neg (by simp)]; rfl
      · rw [if_neg h1]
        simp only [List.map_cons, abs2 h0 h1] at hl ⊢
        have hl0 : l.map absS = [] := hl
        cases pat with
        | nil => rw [if_neg (by simp)]; rfl
        | cons g ps =>
          cases g with
          | word s => rw [if_neg (by simp), den, step_same, den]
          | any => rw [if_neg (by simp)]; rfl
          | all =>
            have : ps = [] := hp
            subst this
            rw [hl0, if_pos rfl]
            rfl
/-- The shapes that a path has, the strongest first. -/
def cands : List Bs → List (List Sg)
  | [] => [[]]
  | s :: l => (if s = [] then [] else (cands l).map (fun ps => .word s :: ps) ++ (cands l).map (fun ps => .any :: ps)) ++ [[.all]]
/-- What is gone over at a path. -/
def visit : T → List Bs → List (List Rt)
  | n, [] => if n.en = [] then [] else [n.en]
  | n, s :: l => (if s = [] then [] else visit (step n s) l ++ visit n.pa l) ++ (match n.re with | .nil => [] | .node _ _ _ _ en => [en])
theorem visit_nil : ∀ (l : List Bs), visit .nil l = []
  | [] => rfl
  | s :: l => by
    rw [visit, step]
    show (if s = [] then [] else visit .nil l ++ visit .nil l) ++ [] = []
    rw [visit_nil l]
    split <;> rfl
theorem flat_nil (c : List (List Sg)) : c.flatMap (den .nil) = [] := by
  rw [List.flatMap_eq_nil_iff]
  intro p _
  exact den_nil p
theorem visit_flat : ∀ (l : List Bs) (n : T), (visit n l).flatten = (cands l).flatMap (den n)
  | [], n => by
    rw [visit]
    split
    · rename_i h; simp [cands, den, h]
    · simp [cands, den]
  | s :: l, n => by
    rw [visit, cands]
    have hre : (match n.re with | .nil => ([] : List (List Rt)) | .node _ _ _ _ en => [en]).flatten = [[Sg.all]].flatMap (den n) := by
      cases h : n.re with
      | nil => simp [den, h, T.en]
      | node => simp [den, h, T.en]
    rw [List.flatten_append, hre, List.flatMap_append]
    congr 1
    by_cases hs : s = []
    · rw [if_pos hs, if_pos hs]; rfl
    · rw [if_neg hs, if_neg hs, List.flatten_append, visit_flat l, visit_flat l, List.flatMap_append]
      simp only [List.flatMap_map]
      rfl
/-- All routes one behind the other. -/
def withT (n : T) (L : List Rt) : T := L.foldl (fun t r => putT t (segsL r.p) r) n
/-- The tree has these routes. -/
structure Has (n : T) (L : List Rt) : Prop where
  ok : Ok n
  at_ : ∀ pat, Nm pat → den n pat = L.filter fun r => decide (shp r = pat)
theorem Has.nil : Has .nil [] := ⟨Ok.nil, fun pat _ => by rw [den_nil]; rfl⟩
theorem Has.put {n : T} {L : List Rt} (h : Has n L) (r : Rt) (hr : Nm (shp r)) : Has (putT n (segsL r.p) r) (L ++ [r]) := by
  refine ⟨h.ok.put _ r, fun pat hp => ?_⟩
  rw [den_put _ _ _ _ h.ok hp hr, h.at_ pat hp, List.filter_append]
  show (if pat = shp r then _ else _) = _
  by_cases e : shp r = pat
  · rw [if_pos e.symm]
    simp [e]
  · rw [if_neg (fun q => e q.symm)]
    simp [e]
theorem Has.with : ∀ (M : List Rt) {n : T} {L : List Rt}, Has n L → (∀ r ∈ M, Nm (shp r)) → Has (withT n M) (L ++ M)
  | [], n, L, h, _ => by simpa [withT] using h
  | r :: M, n, L, h, hM => by
    have := Has.with M (h.put r (hM r (by simp))) (fun r' hr' => hM r' (by simp [hr']))
    rw [List.append_assoc] at this
    exact this
theorem cands_nm : ∀ (l : List Bs) (pat : List Sg), pat ∈ cands l → Nm pat
  | [], pat, h => by
    simp [cands] at h
    subst h
    trivial
  | s :: l, pat, h => by
    rw [cands, List.mem_append] at h
    rcases h with h | h
    · split at h
      · cases h
      · rw [List.mem_append, List.mem_map, List.mem_map] at h
        rcases h with ⟨ps, h, rfl⟩ | ⟨ps, h, rfl⟩
        · exact cands_nm l ps h
        · exact cands_nm l ps h
    · rw [List.mem_singleton] at h
      subst h
      exact (rfl : ([] : List Sg) = [])
/-- What is gone over, told by the routes alone. -/
def flatL (L : List Rt) (l : List Bs) : List Rt := (cands l).flatMap fun pat => L.filter fun r => decide (shp r = pat)
theorem Has.flat {n : T} {L : List Rt} (h : Has n L) (l : List Bs) : (visit n l).flatten = flatL L l := by
  rw [visit_flat]
  unfold flatL
  rw [List.flatMap_def, List.flatMap_def]
  congr 1
  exact List.map_congr_left fun pat hp => h.at_ pat (cands_nm l pat hp)
end Go.Proofs.YtndlbkiogagnaaaGreatDoor
