/- Tries: edges by number; what a word makes of them. -/
import Derived.Test.YtiombjmkaejjfaaDoorV3
namespace Go.Proofs.YtiombjmkaejjfaaDoor
set_option linter.unusedSimpArgs false
set_option linter.unusedVariables false
set_option linter.unnecessarySimpa false
open Go.RowKit BigFrame

/-- Behind i edges that begin unlike s, tl is left. -/
def Sk (s : Bs) : Nat → E → E → Prop
  | 0, es, tl => es = tl
  | i + 1, .cons t _ r, tl => cp t s = 0 ∧ Sk s i r tl
  | _ + 1, .nil, _ => False
theorem Sk.succ {s : Bs} : ∀ {i : Nat} {es : E} {t : Bs} {d : T} {tl : E}, Sk s i es (.cons t d tl) → cp t s = 0 → Sk s (i + 1) es tl
  | 0, es, t, d, tl, h, h0 => by simp only [Sk] at h; subst h; exact ⟨h0, rfl⟩
  | i + 1, .nil, _, _, _, h, _ => h.elim
  | i + 1, .cons t' d' r, t, d, tl, h, h0 => ⟨h.1, Sk.succ h.2 h0⟩
theorem Sk.len {s : Bs} : ∀ {i : Nat} {es tl : E}, Sk s i es tl → es.len = i + tl.len
  | 0, es, tl, h => by simp only [Sk] at h; subst h; omega
  | i + 1, .nil, _, h => h.elim
  | i + 1, .cons t' d' r, tl, h => by simp only [E.len]; rw [Sk.len h.2]; omega
theorem Sk.ok {s : Bs} : ∀ {i : Nat} {es tl : E}, Sk s i es tl → OkE es → OkE tl
  | 0, es, tl, h, ho => by simp only [Sk] at h; subst h; exact ho
  | i + 1, .nil, _, h, _ => h.elim
  | i + 1, .cons t' d' r, tl, h, ho => by simp only [OkE] at ho; exact Sk.ok h.2 ho.2.2.2
theorem Sk.at {s : Bs} {w : World} {X : Nat → Prop} : ∀ {i : Nat} {es : E} {t : Bs} {d : T} {tl : E} {cs : List Value}, Sk s i es (.cons t d tl) → EdV w X es cs → cs[i * 2]? = some (S t) ∧ ∃ p, cs[i * 2 + 1]? = some p ∧ NdV w X d p
  | 0, es, t, d, tl, cs, h, he => by
    simp only [Sk] at h
    subst h
    simp only [EdV] at he
    obtain ⟨p, r, rfl, hp, _⟩ := he
    exact ⟨rfl, p, rfl, hp⟩
  | i + 1, .nil, _, _, _, _, h, _ => h.elim
  | i + 1, .cons t' d' r, t, d, tl, cs, h, he => by
    simp only [EdV] at he
    obtain ⟨p, q, rfl, _, hr⟩ := he
    have := Sk.at h.2 hr
    rw [show (i + 1) * 2 = i * 2 + 1 + 1 by omega]
    simpa using this
theorem Sk.step {s : Bs} (hs : s ≠ []) : ∀ {i : Nat} {es tl : E}, Sk s i es tl → OkE es → stepE es s = stepE tl s
  | 0, es, tl, h, _ => by simp only [Sk] at h; subst h; rfl
  | i + 1, .nil, _, h, _ => h.elim
  | i + 1, .cons t' d' r, tl, h, ho => by
    simp only [OkE] at ho
    rw [stepE, if_neg, Sk.step hs h.2 ho.2.2.2]
    rw [h.1]
    intro e
    exact ho.1 (List.eq_nil_of_length_eq_zero e.symm)
/-- The i-th edge is another one. -/
def E.rep : E → Nat → Bs → T → E
  | .nil, _, _, _ => .nil
  | .cons _ _ r, 0, t, d => .cons t d r
  | .cons t' d' r, i + 1, t, d => .cons t' d' (r.rep i t d)
def E.snoc : E → Bs → T → E
  | .nil, t, d => .cons t d .nil
  | .cons t' d' r, t, d => .cons t' d' (r.snoc t d)
theorem EdV.rep {s : Bs} {w : World} {X : Nat → Prop} : ∀ {i : Nat} {es : E} {t : Bs} {d : T} {tl : E} {cs : List Value} {t' : Bs} {d' : T} {p' : Value}, Sk s i es (.cons t d tl) → EdV w X es cs → NdV w X d' p' → EdV w X (es.rep i t' d') ((cs.set (i * 2) (S t')).set (i * 2 + 1) p')
  | 0, es, t, d, tl, cs, t', d', p', h, he, hp' => by
    simp only [Sk] at h
    subst h
    simp only [EdV] at he
    obtain ⟨p, r, rfl, _, hr⟩ := he
    simp only [E.rep, EdV]
    exact ⟨p', r, rfl, hp', hr⟩
  | i + 1, .nil, _, _, _, _, _, _, _, h, _, _ => h.elim
  | i + 1, .cons t1 d1 r, t, d, tl, cs, t', d', p', h, he, hp' => by
    simp only [EdV] at he
    obtain ⟨p, q, rfl, hp, hr⟩ := he
    have := EdV.rep (t' := t') h.2 hr hp'
    simp only [E.rep, EdV]
    refine ⟨p, _, ?_, hp, this⟩
    rw [show (i + 1) * 2 = i * 2 + 1 + 1 by omega]
    simp
theorem set_same {α : Type} {l : List α} {j : Nat} {x : α} (h : l[j]? = some x) : l.set j x = l := by
  apply List.ext_getElem?
  intro i
  rw [List.getElem?_set]
  split
  · rename_i e
    subst e
    rw [h]
    have := (List.getElem?_eq_some_iff.1 h).1
    rw [if_pos this]
  · rfl
theorem EdV.rep1 {s : Bs} {w : World} {X : Nat → Prop} {i : Nat} {es : E} {t : Bs} {d : T} {tl : E} {cs : List Value} {d' : T} {p' : Value} (h : Sk s i es (.cons t d tl)) (he : EdV w X es cs) (hp : NdV w X d' p') : EdV w X (es.rep i t d') (cs.set (i * 2 + 1) p') := by
  have h1 := EdV.rep (t' := t) h he hp
  have h2 := (Sk.at h he).1
  rw [set_same h2] at h1
  exact h1
theorem EdV.snoc {w : World} {X : Nat → Prop} : ∀ {es : E} {cs : List Value} {t : Bs} {d : T} {p : Value}, EdV w X es cs → NdV w X d p → EdV w X (es.snoc t d) (cs ++ [S t, p])
  | .nil, cs, t, d, p, he, hp => by
    simp only [EdV] at he
    subst he
    simp only [E.snoc, EdV]
    exact ⟨p, [], rfl, hp, rfl⟩
  | .cons t' d' r, cs, t, d, p, he, hp => by
    simp only [EdV] at he
    obtain ⟨q, x, rfl, hq, hr⟩ := he
    simp only [E.snoc, EdV]
    exact ⟨q, _, rfl, hq, EdV.snoc hr hp⟩
theorem word_rep {s : Bs} {f : T → T} : ∀ {i : Nat} {es : E} {t : Bs} {d : T} {tl : E}, Sk s i es (.cons t d tl) → cp t s ≠ 0 →
    wordE es s f = if cp t s = t.length then es.rep i t (wordT d (s.drop (cp t s)) f) else es.rep i (t.take (cp t s)) (midT (t.drop (cp t s)) d (s.drop (cp t s)) f)
  | 0, es, t, d, tl, h, h0 => by
    simp only [Sk] at h
    subst h
    rw [wordE, if_neg h0]
    by_cases h1 : cp t s = t.length
    · rw [if_pos h1, if_pos h1, h1]; rfl
    · rw [if_neg h1, if_neg h1]; rfl
  | i + 1, .nil, _, _, _, h, _ => h.elim
  | i + 1, .cons t1 d1 r, t, d, tl, h, h0 => by
    rw [wordE, if_pos h.1, word_rep h.2 h0]
    by_cases h1 : cp t s = t.length
    · rw [if_pos h1, if_pos h1]; rfl
    · rw [if_neg h1, if_neg h1]; rfl
theorem word_end {s : Bs} {f : T → T} : ∀ {i : Nat} {es : E}, Sk s i es .nil → wordE es s f = es.snoc s (fresh (f .nil))
  | 0, es, h => by
    simp only [Sk] at h
    subst h
    rw [wordE]
    rfl
  | i + 1, .nil, h => h.elim
  | i + 1, .cons t1 d1 r, h => by
    rw [wordE, if_pos h.1, word_end h.2]
    rfl
/-- What parts an edge, by word. -/
def midN (t : Bs) (d : T) : T := .node (.cons t d .nil) .nil .nil .nil []
theorem word_mid (t : Bs) (d : T) (s : Bs) (f : T → T) (h : cp t s = 0) : wordT (midN t d) s f = midT t d s f := by
  unfold midN midT
  rw [wordT]
  split
  · rfl
  · rw [wordE, if_pos h, wordE]
theorem word_fresh (f : T → T) : wordT .nil [] f = fresh (f .nil) := by rw [wordT, if_pos rfl]
end Go.Proofs.YtiombjmkaejjfaaDoor
