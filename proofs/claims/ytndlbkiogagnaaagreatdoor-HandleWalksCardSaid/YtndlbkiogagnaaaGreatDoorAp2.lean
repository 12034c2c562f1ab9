/- append(v, x...) of whatever number of elements. -/
import Derived.Test.YtndlbkiogagnaaaGreatDoorAp
namespace Go.Proofs.YtndlbkiogagnaaaGreatDoor
set_option linter.unusedSimpArgs false
set_option linter.unusedVariables false
set_option linter.unnecessarySimpa false
open Go.RowKit
section
variable {P : Program}
theorem run_append_any (w : World) (t ty e : TypeId) (z : Value) (size bytes : Nat) (ht : P.underlying t = some (.slice e)) (hi : (P.info? e).map (fun i => (i.zero, i.size, i.bytes)) = some (some z, size, bytes)) (hzs : z.cells.size = size)
    (v : Value) (n : Nat) (xs : List Value) (h : Sl w e size v n xs) (x : Value) (m : Nat) (ys : List Value) (hx : Sl w e size x m ys) (h1 : ys.all (·.oneCell') = true) (hn : n + m ≤ 1000000) (hb : bytes ≤ 1000000) :
    ∃ v' w', (Builtin.append_ #[t, t] ty #[v, x]).run P w = .ok v' w' ∧ Sl w' e size v' (n + m) (xs ++ ys) ∧ Upd (ownB v) w w' ∧ (∀ k, k ∈ ownB v' → k ∈ ownB v ∨ w.heap.size ≤ k) := by
  rcases Nat.eq_zero_or_pos m with rfl | hm
  · have hys : ys = [] := List.eq_nil_of_length_eq_zero (by simpa using hx.1)
    subst hys
    obtain ⟨b, cap, rfl⟩ := h.form
    obtain ⟨b2, c, rfl⟩ := hx.form
    have hnc : n ≤ cap := by
      rcases h.2 with ⟨h2, rfl⟩ | ⟨g, o, cap', cur, h2, _, h3, _⟩
      · omega
      · simp only [Value.slice.injEq] at h2
        omega
    obtain ⟨i, hi2, hz, hs, hby⟩ := info_parts hi
    have hr : (Builtin.append_ #[t, t] ty #[.slice b n cap, .slice b2 0 c]).run P w = .ok (.slice b n cap) w := by
      cases b <;> cases b2 <;> simp [Builtin.append_, run_underlying ht, sizeOf, typeInfo, hi2, Builtin.lenOf, Builtin.firstCells, loadCells, loadCellsFrom, hnc, storeCells]
    exact ⟨_, w, hr, by simpa using h, Upd.refl _ _, fun k hk => .inl hk⟩
  · have hb2 : (n + m) * bytes ≤ 140737488355328 := Nat.le_trans (Nat.mul_le_mul hn hb) (by omega)
    obtain ⟨g, o, cap, rfl, h3, h4, h5⟩ := hx.some hm
    obtain ⟨g', o', cap', w', hr, h2, h6, h7, h8⟩ := run_append_sl (P := P) w t ty e z size bytes ht hi hzs v n xs h ⟨g, o, none⟩ m cap ys hx.1 (fun j u hu => by
      rw [Addr.add_lit]
      have hj : j < m * size := by have := (List.getElem?_eq_some_iff.1 hu).1; rw [hx.1] at this; exact this
      rw [h5 j hj]; exact hu) h1 hm (by unfold maxLen; omega) hb2
    refine ⟨_, w', hr, h2, h6, fun k hk => ?_⟩
    simp [ownB] at hk
    subst hk
    exact h7
theorem step_append_any {ops : Array Oper} {o : Oper} {a : Act} {w : World} {K : Act → World → Prop} {Q : Exit → Act → World → Prop} {E : Prop} (hgd : o.guard = none) (s x : Operand) (t : TypeId)
    (ho : o.op = .call { callee := .builtin .append, args := #[s, x], argTypes := #[t, t] })
    (e : TypeId) (z : Value) (size bytes : Nat) (ht : P.underlying t = some (.slice e)) (hi : (P.info? e).map (fun i => (i.zero, i.size, i.bytes)) = some (some z, size, bytes)) (hzs : z.cells.size = size)
    (v : Value) (n : Nat) (xs : List Value) (hs : a.eval s = v) (hown : Sl w e size v n xs) (y : Value) (m : Nat) (ys : List Value) (hx : a.eval x = y) (hy : Sl w e size y m ys) (h1 : ys.all (·.oneCell') = true) (hn : n + m ≤ 1000000) (hb : bytes ≤ 1000000)
    (h : ∀ v' w', Sl w' e size v' (n + m) (xs ++ ys) → Upd (ownB v) w w' → (∀ k, k ∈ ownB v' → k ∈ ownB v ∨ w.heap.size ≤ k) → K (a.put o.dst v') w') :
    if Region.wanted o (yielded ops a.tmps) = true then Oper.wp P o a w K Q else E := by
  have hw : Region.wanted o (yielded ops a.tmps) = true := by simp [Region.wanted, hgd]
  rw [if_pos hw]
  obtain ⟨v', w', hr, h2, h3, h4⟩ := run_append_any (P := P) w t o.type e z size bytes ht hi hzs v n xs hown y m ys hy h1 hn hb
  unfold Oper.wp execOp
  simp only [ho, resolve, invoke, builtin, Sem.run_bind, Sem.run_pure, Result.andThen_ok, List.map_toArray, List.map_cons, List.map_nil, hs, hx, hr]
  exact h v' w' h2 h3 h4
theorem wpList_append_any {ops : Array Oper} {rest : List Oper} {o : Oper} {a : Act} {w : World} {Q : Exit → Act → World → Prop} (hgd : o.guard = none) (s x : Operand) (t : TypeId)
    (ho : o.op = .call { callee := .builtin .append, args := #[s, x], argTypes := #[t, t] })
    (e : TypeId) (z : Value) (size bytes : Nat) (ht : P.underlying t = some (.slice e)) (hi : (P.info? e).map (fun i => (i.zero, i.size, i.bytes)) = some (some z, size, bytes)) (hzs : z.cells.size = size)
    (v : Value) (n : Nat) (xs : List Value) (hs : a.eval s = v) (hown : Sl w e size v n xs) (y : Value) (m : Nat) (ys : List Value) (hx : a.eval x = y) (hy : Sl w e size y m ys) (h1 : ys.all (·.oneCell') = true) (hn : n + m ≤ 1000000) (hb : bytes ≤ 1000000)
    (h : ∀ v' w', Sl w' e size v' (n + m) (xs ++ ys) → Upd (ownB v) w w' → (∀ k, k ∈ ownB v' → k ∈ ownB v ∨ w.heap.size ≤ k) → wpList P ops Q rest (a.put o.dst v') w') : wpList P ops Q (o :: rest) a w := by
  refine wpList_plain hgd fun K hK => ?_
  obtain ⟨v', w', hr, h2, h3, h4⟩ := run_append_any (P := P) w t o.type e z size bytes ht hi hzs v n xs hown y m ys hy h1 hn hb
  unfold Oper.wp execOp
  simp only [ho, resolve, invoke, builtin, Sem.run_bind, Sem.run_pure, Result.andThen_ok, List.map_toArray, List.map_cons, List.map_nil, hs, hx, hr]
  exact hK _ _ (h v' w' h2 h3 h4)

/-- A store into a slice. -/
theorem Sl.set {w : World} {e : TypeId} {n cap g o : Nat} {xs : List Value} (h : Sl w e 1 (.slice (Option.some ⟨g, o, none⟩) n cap) n xs) (i : Nat) (hi : i < n) (x : Value) : Sl (w.setCell ⟨g, o + i, none⟩ x) e 1 (.slice (Option.some ⟨g, o, none⟩) n cap) n (xs.set i x) := by
  refine ⟨by rw [List.length_set]; exact h.1, ?_⟩
  rcases h.2 with ⟨h2, _⟩ | ⟨g', o', cap', cur, h2, hb, h3, h4, hl, hx⟩
  · cases h2
  · simp only [Value.slice.injEq, Option.some.injEq, Addr.mk.injEq] at h2
    obtain ⟨⟨rfl, rfl, _⟩, _, rfl⟩ := h2
    refine .inr ⟨g, o, cap, _, rfl, hb.set _ _, h3, h4, by simpa using hl, ?_⟩
    rw [← hx]
    apply List.ext_getElem?
    intro j
    rw [List.getElem?_take, List.getElem?_set, List.getElem?_take, List.getElem?_drop, List.getElem?_drop, List.getElem?_set, List.length_take, List.length_drop]
    by_cases hj : j < n * 1
    · simp only [hj, if_true]
      by_cases e : i = j
      · subst e
        have h5 : o + i < cur.length := by omega
        simp [h5]
        omega
      · have h7 : ¬ (o + i = o + j) := by omega
        simp [e, h7]
    · have : ¬ i = j := by omega
      simp [hj, this]
theorem Sl.free {w : World} {e : TypeId} {sz n cap g o : Nat} {xs : List Value} (h : Sl w e sz (.slice (Option.some ⟨g, o, none⟩) n cap) n xs) (j : Nat) : w.frozen? ⟨g, j, none⟩ = false := by
  rcases h.2 with ⟨h2, _⟩ | ⟨g', o', cap', cur, h2, hb, _⟩
  · cases h2
  · simp only [Value.slice.injEq, Option.some.injEq, Addr.mk.injEq] at h2
    obtain ⟨⟨rfl, rfl, _⟩, _, rfl⟩ := h2
    exact hb.free j
end
end Go.Proofs.YtndlbkiogagnaaaGreatDoor
