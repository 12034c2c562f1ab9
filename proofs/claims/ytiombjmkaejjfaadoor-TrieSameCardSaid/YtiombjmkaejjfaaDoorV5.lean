/- Tries: what changes of a copied node. -/
import Derived.Test.YtiombjmkaejjfaaDoorV4
namespace Go.Proofs.YtiombjmkaejjfaaDoor
set_option linter.unusedSimpArgs false
set_option linter.unusedVariables false
set_option linter.unnecessarySimpa false
open Go.RowKit BigFrame

/-- A call of a Go function that makes its answer anew, as one step of a region that draws. -/
theorem step_func_ex {P : Program} {ops : Array Oper} {o : Oper} {a : Act} {w : World} {K : Act → World → Prop} {Q : Exit → Act → World → Prop} {E : Prop} (hgd : o.guard = none) (f : FuncId) (xs : Array Operand) (ts : Array TypeId)
    (ho : o.op = .call { callee := .value (.func f), args := xs, argTypes := ts }) (vals : Array Value) (hv : xs.map a.eval = vals) (hcf : (callFunc f (#[] ++ vals ++ #[])).run P w = .ok (.enter f vals) w) (h : Calls P f vals w fun e w' => ∃ v, e = .returned v ∧ K (a.put o.dst v) w') :
    if Region.wanted o (yielded ops a.tmps) = true then Oper.wp P o a w K Q else E := by
  have hw : Region.wanted o (yielded ops a.tmps) = true := by simp [Region.wanted, hgd]
  rw [if_pos hw]
  subst hv
  have key : (execOp a.eval o).run P w = .ok (.enter f (xs.map a.eval)) w := by
    rw [← hcf]
    cases o
    simp only at ho
    subst ho
    rfl
  unfold Oper.wp
  rw [key]
  exact h.mono fun e w' h' => by obtain ⟨v, rfl, h2⟩ := h'; exact h2
/-- No shape has more than N routes. -/
def Bd (N : Nat) (n : T) : Prop := ∀ pat, Nm pat → (den n pat).length ≤ N
theorem Bd.nil (N : Nat) : Bd N .nil := fun pat _ => by rw [den_nil]; exact Nat.zero_le _
/-- What a maker of nodes leaves. -/
def NdQ (w : World) (X : Nat → Prop) (n : T) (e : Ending) (w' : World) : Prop := ∃ v', e = .returned v' ∧ NdV w' X n v' ∧ Upd [] w w'
/-- A function value that makes f of a node. -/
structure Then (w : World) (g : Nat) (caps : Array Value) (N : Nat) (f : T → T) : Prop where
  ent : ∀ (args : Array Value) (W : World), (callFunc g args).run Tryd.prog W = .ok (.enter g args) W
  run : ∀ W X m v, Upd [] w W → (∀ k, X k → k < W.heap.size) → NdV W X m v → Ok m → Bd N m → Calls Tryd.prog g (#[v] ++ caps) W (NdQ W X (f m))
theorem Then.up {w w' : World} {g : Nat} {caps : Array Value} {N : Nat} {f : T → T} (h : Then w g caps N f) (hu : Upd [] w w') : Then w' g caps N f :=
  ⟨h.ent, fun W X m v hW => h.run W X m v (hu.trans hW (by simp))⟩
theorem S_nil : S [] = .string ⟨#[]⟩ := rfl
theorem Cpy.forms {w w' : World} {X : Nat → Prop} {b : Nat} {n : T} {ev nv pv rv sv : Value} {k : Nat} {cs : List Value} (h : Cpy w w' X b n ev nv pv rv sv k cs) : ∃ ea ec np pp rp sa sc, ev = .slice ea k ec ∧ nv = .pointer np ∧ pv = .pointer pp ∧ rv = .pointer rp ∧ sv = .slice sa sc sc := by
  obtain ⟨ea, ec, h1⟩ := h.es.sl.form
  obtain ⟨np, h2⟩ := h.nx.form
  obtain ⟨pp, h3⟩ := h.pa.form
  obtain ⟨rp, h4⟩ := h.re.form
  obtain ⟨sa, h5, _⟩ := h.en
  exact ⟨ea, ec, np, pp, rp, sa, _, h1, h2, h3, h4, h5⟩
/-- A node of its parts. -/
theorem NdV.mk {w : World} {X : Nat → Prop} {es : E} {nx pa re : T} {en : List Rt} {b : Nat} {ev nv pv rv sv : Value} {n : Nat} {cs : List Value} (h2 : Blk w b [ev, nv, pv, rv, sv] 76) (hx : ¬ X b) (h3 : Sl w 91 2 ev n cs) (hx2 : ∀ k, k ∈ ownB ev → ¬ X k) (h4 : EdV w X es cs) (h5 : NdV w X nx nv) (h6 : NdV w X pa pv) (h7 : NdV w X re rv) (h8 : Sl w 26 3 sv en.length (en.flatMap Rt.cells)) (hx3 : ∀ k, k ∈ ownB sv → ¬ X k) :
    NdV w X (.node es nx pa re en) (.pointer (some ⟨b, 0, none⟩)) := by
  simp only [NdV]
  exact ⟨b, ev, nv, pv, rv, sv, n, cs, rfl, h2, hx, h3, hx2, h4, h5, h6, h7, h8, hx3⟩
theorem Ful.sl {w : World} {X : Nat → Prop} {sv : Value} {en : List Rt} (h : Ful w X sv en) : Sl w 26 3 sv en.length (en.flatMap Rt.cells) := by
  obtain ⟨_, _, h, _⟩ := h; exact h
theorem Ful.av {w : World} {X : Nat → Prop} {sv : Value} {en : List Rt} (h : Ful w X sv en) : ∀ k, k ∈ ownB sv → ¬ X k := by
  obtain ⟨_, _, _, h⟩ := h; exact h
theorem word_empty (n : T) (f : T → T) : wordT n [] f = .node n.es (f n.nx) n.pa n.re n.en := by
  cases n with
  | nil => rw [wordT, if_pos rfl]; rfl
  | node => rw [wordT, if_pos rfl]; rfl
theorem step_empty (n : T) : step n [] = n.nx := by
  cases n with
  | nil => rw [step]; rfl
  | node => rw [step, if_pos rfl]; rfl
/-- A copied node whose next is another one. -/
theorem Cpy.next {w w1 w2 : World} {X : Nat → Prop} {x : Nat} {n m : T} {ev nv pv rv sv p : Value} {k : Nat} {cs : List Value} (h : Cpy w w1 X x n ev nv pv rv sv k cs) (hX : ∀ k, X k → k < w.heap.size) (hu : Upd [] w1 w2) (hp : NdV w2 (fun k => X k ∨ k = x) m p) :
    NdV (w2.setCell ⟨x, 1, none⟩ p) X (.node n.es m n.pa n.re n.en) (.pointer (some ⟨x, 0, none⟩)) ∧ Upd [] w (w2.setCell ⟨x, 1, none⟩ p) := by
  have b2 := hu.blk h.blk (by simp)
  have u0 : Upd [] w w2 := h.es.upd.trans hu (by simp)
  have u1 : Upd [] w (w2.setCell ⟨x, 1, none⟩ p) := u0.set _ _ (by have := h.new; simp; omega)
  have u2 : Upd [x] w2 (w2.setCell ⟨x, 1, none⟩ p) := (Upd.refl _ _).set _ _ (by simp)
  have hn := h.new
  refine ⟨NdV.mk (b2.set 1 p) (fun e => by have := hX x e; omega) ((h.es.sl.upd hu (by simp)).upd u2 (fun q hq e => by
      rw [List.mem_singleton] at e
      subst e
      exact (h.es.sl.upd hu (by simp)).other (t := 76) (by decide) _ hq _ b2)) (fun q hq e => by have := h.es.own q hq; have := hX q e; omega) (h.ed.upd u1) (hp.move u2 (by simp) (fun q hq => .inl (.inl hq))) (h.pa.upd u1) (h.re.upd u1) (h.en.sl.upd u1 (by simp)) h.en.av, u1⟩
/-- A store into a slice of whatever elements. -/
theorem Sl.setj {w : World} {e : TypeId} {sz n cap g o : Nat} {xs : List Value} (h : Sl w e sz (.slice (Option.some ⟨g, o, none⟩) n cap) n xs) (j : Nat) (hj : j < n * sz) (x : Value) : Sl (w.setCell ⟨g, o + j, none⟩ x) e sz (.slice (Option.some ⟨g, o, none⟩) n cap) n (xs.set j x) := by
  refine ⟨by rw [List.length_set]; exact h.1, ?_⟩
  rcases h.2 with ⟨h2, _⟩ | ⟨g', o', cap', cur, h2, hb, h3, h4, hl, hx⟩
  · cases h2
  · simp only [Value.slice.injEq, Option.some.injEq, Addr.mk.injEq] at h2
    obtain ⟨⟨rfl, rfl, _⟩, _, rfl⟩ := h2
    refine .inr ⟨g, o, cap, _, rfl, hb.set _ _, h3, h4, by simpa using hl, ?_⟩
    have hle : n * sz ≤ cap * sz := Nat.mul_le_mul_right _ h3
    rw [← hx]
    apply List.ext_getElem?
    intro i
    rw [List.getElem?_take, List.getElem?_set, List.getElem?_take, List.getElem?_drop, List.getElem?_drop, List.getElem?_set, List.length_take, List.length_drop]
    by_cases hi : i < n * sz
    · simp only [hi, if_true]
      by_cases e : j = i
      · subst e
        have h5 : o + j < cur.length := by omega
        simp [h5]
        omega
      · have h7 : ¬ (o + j = o + i) := by omega
        simp [e, h7]
    · have : ¬ j = i := by omega
      simp [hi, this]
/-- The blocks that a copy's edges are in are its own. -/
theorem Cpy.eb {w w' : World} {X : Nat → Prop} {b : Nat} {n : T} {eb eo ec : Nat} {nv pv rv sv : Value} {k : Nat} {cs : List Value} (h : Cpy w w' X b n (.slice (some ⟨eb, eo, none⟩) k ec) nv pv rv sv k cs) : w.heap.size ≤ eb ∧ eb < w'.heap.size ∧ b ≠ eb :=
  ⟨h.es.own eb (by simp [ownB]), h.es.sl.lt eb (by simp [ownB]), fun e => h.es.sl.other (t := 76) (by decide) eb (by simp [ownB]) _ (e ▸ h.blk)⟩
/-- An edge of a copy leads elsewhere. -/
theorem Cpy.edge1 {w w1 w2 : World} {X : Nat → Prop} {x : Nat} {n : T} {eb eo ec : Nat} {nv pv rv sv p' : Value} {k : Nat} {cs : List Value} (h : Cpy w w1 X x n (.slice (some ⟨eb, eo, none⟩) k ec) nv pv rv sv k cs) (hX : ∀ k, X k → k < w.heap.size) (hu : Upd [] w1 w2)
    {s : Bs} {i : Nat} {t : Bs} {d d' : T} {tl : E} (hs : Sk s i n.es (.cons t d tl)) (hp : NdV w2 (fun k => X k ∨ k = eb) d' p') :
    NdV (w2.setCell ⟨eb, eo + (i * 2 + 1), none⟩ p') X (.node (n.es.rep i t d') n.nx n.pa n.re n.en) (.pointer (some ⟨x, 0, none⟩)) ∧ Upd [] w (w2.setCell ⟨eb, eo + (i * 2 + 1), none⟩ p') := by
  obtain ⟨g1, g2, g3⟩ := h.eb
  have b2 := hu.blk h.blk (by simp)
  have u0 : Upd [] w w2 := h.es.upd.trans hu (by simp)
  have u1 : Upd [] w (w2.setCell ⟨eb, eo + (i * 2 + 1), none⟩ p') := u0.set _ _ (by simp; omega)
  have u2 : Upd [eb] w2 (w2.setCell ⟨eb, eo + (i * 2 + 1), none⟩ p') := (Upd.refl _ _).set _ _ (by simp)
  have hn := h.new
  have hlen := hs.len
  have hl2 := h.ed.length
  have hl3 := h.es.sl.1
  simp only [E.len] at hlen
  refine ⟨NdV.mk (b2.set_ne _ _ g3) (fun e => by have := hX x e; omega) ((h.es.sl.upd hu (by simp)).setj (i * 2 + 1) (by omega) p') (fun q hq e => by have := h.es.own q hq; have := hX q e; omega)
    (EdV.rep1 hs (h.ed.upd u1) (hp.move u2 (by simp) (fun q hq => .inl (.inl hq)))) (h.nx.upd u1) (h.pa.upd u1) (h.re.upd u1) (h.en.sl.upd u1 (by simp)) h.en.av, u1⟩
/-- An edge of a copy is another one. -/
theorem Cpy.edge2 {w w1 w2 : World} {X : Nat → Prop} {x : Nat} {n : T} {eb eo ec : Nat} {nv pv rv sv p' : Value} {k : Nat} {cs : List Value} (h : Cpy w w1 X x n (.slice (some ⟨eb, eo, none⟩) k ec) nv pv rv sv k cs) (hX : ∀ k, X k → k < w.heap.size) (hu : Upd [] w1 w2)
    {s : Bs} {i : Nat} {t : Bs} {d d' : T} {tl : E} (hs : Sk s i n.es (.cons t d tl)) (t' : Bs) (hp : NdV w2 (fun k => X k ∨ k = eb) d' p') :
    NdV ((w2.setCell ⟨eb, eo + i * 2, none⟩ (S t')).setCell ⟨eb, eo + (i * 2 + 1), none⟩ p') X (.node (n.es.rep i t' d') n.nx n.pa n.re n.en) (.pointer (some ⟨x, 0, none⟩)) ∧ Upd [] w ((w2.setCell ⟨eb, eo + i * 2, none⟩ (S t')).setCell ⟨eb, eo + (i * 2 + 1), none⟩ p') := by
  obtain ⟨g1, g2, g3⟩ := h.eb
  have b2 := hu.blk h.blk (by simp)
  have u0 : Upd [] w w2 := h.es.upd.trans hu (by simp)
  have u1 : Upd [] w ((w2.setCell ⟨eb, eo + i * 2, none⟩ (S t')).setCell ⟨eb, eo + (i * 2 + 1), none⟩ p') := (u0.set _ _ (by simp; omega)).set _ _ (by simp; omega)
  have u2 : Upd [eb] w2 ((w2.setCell ⟨eb, eo + i * 2, none⟩ (S t')).setCell ⟨eb, eo + (i * 2 + 1), none⟩ p') := ((Upd.refl _ _).set _ _ (by simp)).set _ _ (by simp)
  have hn := h.new
  have hlen := hs.len
  have hl2 := h.ed.length
  have hl3 := h.es.sl.1
  simp only [E.len] at hlen
  refine ⟨NdV.mk ((b2.set_ne _ _ g3).set_ne _ _ g3) (fun e => by have := hX x e; omega) (((h.es.sl.upd hu (by simp)).setj (i * 2) (by omega) (S t')).setj (i * 2 + 1) (by omega) p') (fun q hq e => by have := h.es.own q hq; have := hX q e; omega)
    (EdV.rep hs (h.ed.upd u1) (hp.move u2 (by simp) (fun q hq => .inl (.inl hq)))) (h.nx.upd u1) (h.pa.upd u1) (h.re.upd u1) (h.en.sl.upd u1 (by simp)) h.en.av, u1⟩
/-- A copy has an edge more. -/
theorem Cpy.more {w w1 w2 w3 : World} {X : Nat → Prop} {x : Nat} {n : T} {ev ev' nv pv rv sv p' : Value} {k : Nat} {cs : List Value} (h : Cpy w w1 X x n ev nv pv rv sv k cs) (hX : ∀ k, X k → k < w.heap.size) (hu : Upd [] w1 w2)
    {t' : Bs} {d' : T} (hp : NdV w2 (fun k => X k ∨ k = x ∨ k ∈ ownB ev) d' p') (hs : Sl w3 91 2 ev' (k + 1) (cs ++ [S t', p'])) (hu3 : Upd (ownB ev) w2 w3) (ho : ∀ k, k ∈ ownB ev' → k ∈ ownB ev ∨ w2.heap.size ≤ k) :
    NdV (w3.setCell ⟨x, 0, none⟩ ev') X (.node (n.es.snoc t' d') n.nx n.pa n.re n.en) (.pointer (some ⟨x, 0, none⟩)) ∧ Upd [] w (w3.setCell ⟨x, 0, none⟩ ev') := by
  have hn := h.new
  have hne : x ∉ ownB ev := fun e => h.es.sl.other (t := 76) (by decide) x e _ h.blk
  have b3 := hu3.blk (hu.blk h.blk (by simp)) hne
  have u0 : Upd [] w w3 := (h.es.upd.trans hu (by simp)).trans hu3 (fun q hq e => by have := h.es.own q e; omega)
  have u1 : Upd [] w (w3.setCell ⟨x, 0, none⟩ ev') := u0.set _ _ (by simp; omega)
  have u2 : Upd (x :: ownB ev) w2 (w3.setCell ⟨x, 0, none⟩ ev') := (hu3.mono (fun k _ hk => List.mem_cons_of_mem _ hk)).set _ _ (by simp)
  have u3 : Upd [x] w3 (w3.setCell ⟨x, 0, none⟩ ev') := (Upd.refl _ _).set _ _ (by simp)
  refine ⟨NdV.mk (b3.set 0 ev') (fun e => by have := hX x e; omega) (hs.upd u3 (fun q hq e => ?_)) (fun q hq e => ?_) (EdV.snoc (h.ed.upd u1) (hp.move u2 (fun q hq => ?_) (fun q hq => .inl (.inl hq)))) (h.nx.upd u1) (h.pa.upd u1) (h.re.upd u1) (h.en.sl.upd u1 (by simp)) h.en.av, u1⟩
  · rw [List.mem_singleton] at e
    subst e
    exact hs.other (t := 76) (by decide) _ hq _ b3
  · have h1 := hX q e
    have h2 := h.es.upd.size
    have h3 := hu.size
    rcases ho q hq with h4 | h4
    · have := h.es.own q h4; omega
    · omega
  · rcases List.mem_cons.1 hq with hq | hq
    · exact .inr (.inl hq)
    · exact .inr (.inr hq)
theorem word_more {n : T} {s : Bs} {f : T → T} (hs : s ≠ []) : wordT n s f = .node (wordE n.es s f) n.nx n.pa n.re n.en := by
  cases n with
  | nil => rw [wordT, if_neg hs]; simp only [T.es, wordE]; rfl
  | node => rw [wordT, if_neg hs]; rfl
theorem Cpy.word1 {w w1 w2 : World} {X : Nat → Prop} {x : Nat} {n : T} {eb eo ec : Nat} {nv pv rv sv p' : Value} {k : Nat} {cs : List Value} (h : Cpy w w1 X x n (.slice (some ⟨eb, eo, none⟩) k ec) nv pv rv sv k cs) (hX : ∀ k, X k → k < w.heap.size) (hu : Upd [] w1 w2)
    {s : Bs} {i c : Nat} {t : Bs} {d : T} {tl : E} {f : T → T} (hs : Sk s i n.es (.cons t d tl)) (hne : s ≠ []) (hc : cp t s = c) (h0 : c ≠ 0) (h1 : c = t.length) (hp : NdV w2 (fun k => X k ∨ k = eb) (wordT d (s.drop c) f) p') :
    NdV (w2.setCell ⟨eb, eo + i * 2 + 1, none⟩ p') X (wordT n s f) (.pointer (some ⟨x, 0, none⟩)) ∧ Upd [] w (w2.setCell ⟨eb, eo + i * 2 + 1, none⟩ p') := by
  have := h.edge1 hX hu hs hp
  rw [← Nat.add_assoc] at this
  rw [word_more hne, word_rep hs (by rw [hc]; exact h0), if_pos (by rw [hc]; exact h1), hc]
  exact this
theorem Cpy.word2 {w w1 w2 : World} {X : Nat → Prop} {x : Nat} {n : T} {eb eo ec : Nat} {nv pv rv sv p' : Value} {k : Nat} {cs : List Value} (h : Cpy w w1 X x n (.slice (some ⟨eb, eo, none⟩) k ec) nv pv rv sv k cs) (hX : ∀ k, X k → k < w.heap.size) (hu : Upd [] w1 w2)
    {s : Bs} {i c : Nat} {t : Bs} {d : T} {tl : E} {f : T → T} (hs : Sk s i n.es (.cons t d tl)) (hne : s ≠ []) (hc : cp t s = c) (h0 : c ≠ 0) (h1 : c ≠ t.length) (hp : NdV w2 (fun k => X k ∨ k = eb) (midT (t.drop c) d (s.drop c) f) p') (tv : Value) (htv : tv = S (t.take c)) :
    NdV ((w2.setCell ⟨eb, eo + i * 2, none⟩ tv).setCell ⟨eb, eo + i * 2 + 1, none⟩ p') X (wordT n s f) (.pointer (some ⟨x, 0, none⟩)) ∧ Upd [] w ((w2.setCell ⟨eb, eo + i * 2, none⟩ tv).setCell ⟨eb, eo + i * 2 + 1, none⟩ p') := by
  subst htv
  have := h.edge2 hX hu hs (t.take c) hp
  rw [← Nat.add_assoc] at this
  rw [word_more hne, word_rep hs (by rw [hc]; exact h0), if_neg (by rw [hc]; exact h1), hc]
  exact this
theorem Cpy.word3 {w w1 w2 w3 : World} {X : Nat → Prop} {x : Nat} {n : T} {ev ev' nv pv rv sv p' : Value} {k : Nat} {cs : List Value} (h : Cpy w w1 X x n ev nv pv rv sv k cs) (hX : ∀ k, X k → k < w.heap.size) (hu : Upd [] w1 w2)
    {s : Bs} {i : Nat} {f : T → T} (hsk : Sk s i n.es .nil) (hne : s ≠ []) (hp : NdV w2 (fun k => X k ∨ k = x ∨ k ∈ ownB ev) (fresh (f .nil)) p') (sv' : Value) (hsv : sv' = S s) (hs : Sl w3 91 2 ev' (k + 1) (cs ++ [sv', p'])) (hu3 : Upd (ownB ev) w2 w3) (ho : ∀ k, k ∈ ownB ev' → k ∈ ownB ev ∨ w2.heap.size ≤ k) :
    NdV (w3.setCell ⟨x, 0, none⟩ ev') X (wordT n s f) (.pointer (some ⟨x, 0, none⟩)) ∧ Upd [] w (w3.setCell ⟨x, 0, none⟩ ev') := by
  subst hsv
  rw [word_more hne, word_end hsk]
  exact h.more hX hu hp hs hu3 ho
theorem mid_ok {t : Bs} {d : T} (ht : t ≠ []) (hd : Ok d ∧ d ≠ .nil) : Ok (midN t d) := by
  unfold midN
  refine Ok.mk ?_ Ok.nil Ok.nil Ok.nil
  simp only [OkE, E.heads]
  exact ⟨ht, by simp, hd, trivial⟩
theorem step_midN {t s : Bs} {d : T} (ht : t ≠ []) (h : cp t s = 0) : step (midN t d) s = .nil := by
  unfold midN
  rw [step]
  split
  · rfl
  · rw [stepE, if_neg, stepE]
    rw [h]
    intro e
    exact ht (List.eq_nil_of_length_eq_zero e.symm)
theorem word_mid' (t s : Bs) (d : T) (f : T → T) : wordT (midN (t.drop (cp t s)) d) (s.drop (cp t s)) f = midT (t.drop (cp t s)) d (s.drop (cp t s)) f := word_mid _ _ _ _ (cp_drop t s)
theorem step_es {n : T} {s : Bs} (hs : s ≠ []) : step n s = stepE n.es s := by
  cases n with
  | nil => rw [step, T.es, stepE]
  | node => rw [step, if_neg hs]; rfl
theorem step_edge {n : T} {s : Bs} {i c : Nat} {t : Bs} {d : T} {tl : E} (h : Sk s i n.es (.cons t d tl)) (hs : s ≠ []) (ho : Ok n) (hc : cp t s = c) (h1 : c = t.length) : step n s = step d (s.drop c) := by
  rw [step_es hs, Sk.step hs h ho.parts.1, stepE, if_pos (hc.trans h1), h1]
/-- A node that parts an edge, in memory. -/
theorem NdV.mid {w : World} {X : Nat → Prop} {t : Bs} {d : T} {b eb : Nat} {tv p : Value} (hb : Blk w b [.slice (some ⟨eb, 0, none⟩) 1 1, .pointer none, .pointer none, .pointer none, .slice none 0 0] 76) (he : Blk w eb [tv, p] 91) (htv : tv = S t) (hx : ¬ X b) (hx2 : ¬ X eb) (hd : NdV w X d p) : NdV w X (midN t d) (.pointer (some ⟨b, 0, none⟩)) := by
  subst htv
  unfold midN
  refine NdV.mk hb hx (he.sl 2 1 rfl (by unfold maxLen; omega)) (by simp [ownB]; exact hx2) ?_ (by simp [NdV]) (by simp [NdV]) (by simp [NdV]) (Sl.nil _ _ _) (by simp [ownB])
  simp only [EdV]
  exact ⟨p, [], rfl, hd, rfl⟩
end Go.Proofs.YtiombjmkaejjfaaDoor
