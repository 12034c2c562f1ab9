/- append(v, x...) of elements that can be read, wherever they lie. -/
import Derived.Test.YtiombjmkaejjfaaDoorAp2
import Derived.Test.YtiombjmkaejjfaaDoorRdS
namespace Go.Proofs.YtiombjmkaejjfaaDoor
set_option linter.unusedSimpArgs false
set_option linter.unusedVariables false
set_option linter.unnecessarySimpa false
open Go.RowKit
section
variable {P : Program}
theorem run_append_rds (w : World) (t ty e : TypeId) (z : Value) (size bytes : Nat) (ht : P.underlying t = some (.slice e)) (hi : (P.info? e).map (fun i => (i.zero, i.size, i.bytes)) = some (some z, size, bytes)) (hzs : z.cells.size = size)
    (v : Value) (n : Nat) (xs : List Value) (h : Sl w e size v n xs) (x : Value) (m : Nat) (ys : List Value) (hx : RdS w size x m ys) (h1 : ys.all (·.oneCell') = true) (hn : n + m ≤ 1000000) (hb : bytes ≤ 1000000) :
    ∃ v' w', (Builtin.append_ #[t, t] ty #[v, x]).run P w = .ok v' w' ∧ Sl w' e size v' (n + m) (xs ++ ys) ∧ Upd (ownB v) w w' ∧ (∀ k, k ∈ ownB v' → k ∈ ownB v ∨ w.heap.size ≤ k) := by
  rcases Nat.eq_zero_or_pos m with rfl | hm
  · have hys : ys = [] := List.eq_nil_of_length_eq_zero (by simpa using hx.1)
    subst hys
    obtain ⟨b, cap, rfl⟩ := h.form
    obtain ⟨b2, c, rfl⟩ := hx.form
    have hnc : n ≤ cap := by
      rcases h.2 with ⟨h2, rfl⟩ | ⟨g, o, cap', cur, h2, _, h3, _⟩
      · omega
      · simp only [Value.slice.injEq] at h2
        omega
    obtain ⟨i, hi2, hz, hs, hby⟩ := info_parts hi
    have hr : (Builtin.append_ #[t, t] ty #[.slice b n cap, .slice b2 0 c]).run P w = .ok (.slice b n cap) w := by
      cases b <;> cases b2 <;> simp [Builtin.append_, run_underlying ht, sizeOf, typeInfo, hi2, Builtin.lenOf, Builtin.firstCells, loadCells, loadCellsFrom, hnc, storeCells]
    exact ⟨_, w, hr, by simpa using h, Upd.refl _ _, fun k hk => .inl hk⟩
  · have hb2 : (n + m) * bytes ≤ 140737488355328 := Nat.le_trans (Nat.mul_le_mul hn hb) (by omega)
    obtain ⟨g, o, cap, rfl, h3, h4, h5⟩ := hx.some hm
    obtain ⟨g', o', cap', w', hr, h2, h6, h7, h8⟩ := run_append_sl (P := P) w t ty e z size bytes ht hi hzs v n xs h ⟨g, o, none⟩ m cap ys hx.1 (fun j u hu => by
      rw [Addr.add_lit]
      have hj : j < m * size := by have := (List.getElem?_eq_some_iff.1 hu).1; rw [hx.1] at this; exact this
      rw [h5 j hj]; exact hu) h1 hm (by unfold maxLen; omega) hb2
    refine ⟨_, w', hr, h2, h6, fun k hk => ?_⟩
    simp [ownB] at hk
    subst hk
    exact h7
theorem wpList_append_rds {ops : Array Oper} {rest : List Oper} {o : Oper} {a : Act} {w : World} {Q : Exit → Act → World → Prop} (hgd : o.guard = none) (s x : Operand) (t : TypeId)
    (ho : o.op = .call { callee := .builtin .append, args := #[s, x], argTypes := #[t, t] })
    (e : TypeId) (z : Value) (size bytes : Nat) (ht : P.underlying t = some (.slice e)) (hi : (P.info? e).map (fun i => (i.zero, i.size, i.bytes)) = some (some z, size, bytes)) (hzs : z.cells.size = size)
    (v : Value) (n : Nat) (xs : List Value) (hs : a.eval s = v) (hown : Sl w e size v n xs) (y : Value) (m : Nat) (ys : List Value) (hx : a.eval x = y) (hy : RdS w size y m ys) (h1 : ys.all (·.oneCell') = true) (hn : n + m ≤ 1000000) (hb : bytes ≤ 1000000)
    (h : ∀ v' w', Sl w' e size v' (n + m) (xs ++ ys) → Upd (ownB v) w w' → (∀ k, k ∈ ownB v' → k ∈ ownB v ∨ w.heap.size ≤ k) → wpList P ops Q rest (a.put o.dst v') w') : wpList P ops Q (o :: rest) a w := by
  refine wpList_plain hgd fun K hK => ?_
  obtain ⟨v', w', hr, h2, h3, h4⟩ := run_append_rds (P := P) w t o.type e z size bytes ht hi hzs v n xs hown y m ys hy h1 hn hb
  unfold Oper.wp execOp
  simp only [ho, resolve, invoke, builtin, Sem.run_bind, Sem.run_pure, Result.andThen_ok, List.map_toArray, List.map_cons, List.map_nil, hs, hx, hr]
  exact hK _ _ (h v' w' h2 h3 h4)
end
end Go.Proofs.YtiombjmkaejjfaaDoor
