/- append of one element, as an equation that the walk takes. -/
import Derived.Test.YtndlbkiogagnaaaGreatDoorSl
namespace Go.Proofs.YtndlbkiogagnaaaGreatDoor
set_option linter.unusedSimpArgs false
set_option linter.unusedVariables false
set_option linter.unnecessarySimpa false
open Go.RowKit
section
variable {P : Program}

/-- append(v, x): a one-cell block for x was made just ahead. -/
theorem run_append_one (w : World) (t e : TypeId) (z : Value) (bytes : Nat) (ht : P.underlying t = some (.slice e)) (hi : (P.info? e).map (fun i => (i.zero, i.size, i.bytes)) = some (some z, 1, bytes)) (hzs : z.cells.size = 1)
    (v : Value) (n : Nat) (xs : List Value) (h : Sl w e 1 v n xs) (x : Value) (h1 : x.oneCell' = true) (hn : n < 1000000) (hb : bytes ≤ 1000000) :
    ∃ v' w', (Builtin.append_ #[t, t] t #[v, .slice (some ⟨w.heap.size, 0, none⟩) 1 1]).run P (w.alloc (.cells #[x] e)) = .ok v' w' ∧ Sl w' e 1 v' (n + 1) (xs ++ [x]) ∧ Upd (ownB v) w w' ∧ (∀ k, k ∈ ownB v' → k ∈ ownB v ∨ w.heap.size ≤ k) := by
  have hb2 : (n + 1) * bytes ≤ 140737488355328 := Nat.le_trans (Nat.mul_le_mul (show n + 1 ≤ 1000000 by omega) hb) (by omega)
  obtain ⟨g, o, cap, w', hr, h2, h3, h4, h5⟩ := run_append_sl (P := P) (w.alloc (.cells #[x] e)) t t e z 1 bytes ht hi hzs v n xs (h.alloc _) ⟨w.heap.size, 0, none⟩ 1 1 [x] rfl (Blk.news (Blk.new w [x] e _ rfl)) (by simpa using h1) (by omega) (by unfold maxLen; omega) hb2
  refine ⟨_, w', hr, h2, ((Upd.refl _ w).alloc _).trans h3 (fun _ _ h => h), fun k hk => ?_⟩
  simp [ownB] at hk
  subst hk
  rcases h4 with h4 | h4
  · exact .inl h4
  · right
    simp at h4
    omega

/-- append(v, x...) of a struct of several cells. -/
theorem run_append_row (w : World) (t e : TypeId) (z : Value) (sz bytes : Nat) (ht : P.underlying t = some (.slice e)) (hi : (P.info? e).map (fun i => (i.zero, i.size, i.bytes)) = some (some z, sz, bytes)) (hzs : z.cells.size = sz)
    (v : Value) (n : Nat) (xs : List Value) (h : Sl w e sz v n xs) (cs : List Value) (hl : cs.length = sz) (h1 : cs.all (·.oneCell') = true) (hn : n < 1000000) (hb : bytes ≤ 1000000) :
    ∃ v' w', (Builtin.append_ #[t, t] t #[v, .slice (some ⟨w.heap.size, 0, none⟩) 1 1]).run P (w.alloc (.cells cs.toArray e)) = .ok v' w' ∧ Sl w' e sz v' (n + 1) (xs ++ cs) ∧ Upd (ownB v) w w' ∧ (∀ k, k ∈ ownB v' → k ∈ ownB v ∨ w.heap.size ≤ k) := by
  have hb2 : (n + 1) * bytes ≤ 140737488355328 := Nat.le_trans (Nat.mul_le_mul (show n + 1 ≤ 1000000 by omega) hb) (by omega)
  obtain ⟨g, o, cap, w', hr, h2, h3, h4, h5⟩ := run_append_sl (P := P) (w.alloc (.cells cs.toArray e)) t t e z sz bytes ht hi hzs v n xs (h.alloc _) ⟨w.heap.size, 0, none⟩ 1 1 cs (by omega) (Blk.news (Blk.new w cs e _ rfl)) h1 (by omega) (by unfold maxLen; omega) hb2
  refine ⟨_, w', hr, h2, ((Upd.refl _ w).alloc _).trans h3 (fun _ _ h => h), fun k hk => ?_⟩
  simp [ownB] at hk
  subst hk
  rcases h4 with h4 | h4
  · exact .inl h4
  · right
    simp at h4
    omega

theorem wpList_append_row {ops : Array Oper} {rest : List Oper} {o : Oper} {a : Act} {w : World} {Q : Exit → Act → World → Prop} (hgd : o.guard = none) (s x : Operand) (t : TypeId)
    (ho : o.op = .call { callee := .builtin .append, args := #[s, x], argTypes := #[t, t] }) (hty : o.type = t)
    (e : TypeId) (z : Value) (sz bytes : Nat) (ht : P.underlying t = some (.slice e)) (hi : (P.info? e).map (fun i => (i.zero, i.size, i.bytes)) = some (some z, sz, bytes)) (hzs : z.cells.size = sz)
    (v : Value) (n : Nat) (xs : List Value) (hs : a.eval s = v) (hown : Sl w e sz v n xs) (cs : List Value) (hl : cs.length = sz) (h1 : cs.all (·.oneCell') = true) (hx : a.eval x = .slice (some ⟨w.heap.size, 0, none⟩) 1 1) (hn : n < 1000000) (hb : bytes ≤ 1000000)
    (h : ∀ v' w', Sl w' e sz v' (n + 1) (xs ++ cs) → Upd (ownB v) w w' → (∀ k, k ∈ ownB v' → k ∈ ownB v ∨ w.heap.size ≤ k) → wpList P ops Q rest (a.put o.dst v') w') : wpList P ops Q (o :: rest) a (w.alloc (.cells cs.toArray e)) := by
  refine wpList_plain hgd fun K hK => ?_
  obtain ⟨v', w', hr, h2, h3, h4⟩ := run_append_row (P := P) w t e z sz bytes ht hi hzs v n xs hown cs hl h1 hn hb
  unfold Oper.wp execOp
  simp only [ho, hty, resolve, invoke, builtin, Sem.run_bind, Sem.run_pure, Result.andThen_ok, List.map_toArray, List.map_cons, List.map_nil, hs, hx, hr]
  exact hK _ _ (h v' w' h2 h3 h4)

/-- s[:k] -/
theorem run_upto_sl (t e : TypeId) (size : Nat) (ht : P.underlying t = some (.slice e)) (hi : (P.info? e).map (·.size) = some size) (w : World) (v : Value) (n : Nat) (xs : List Value) (h : Sl w e size v n xs) (k : Nat) (hk : k ≤ n) (hk2 : n ≤ 4611686018427387904) :
    ∃ v', (∀ W, (Instr.slice t v none (some (.int .i64 k)) none).run P W = .ok v' W) ∧ Sl w e size v' k (xs.take (k * size)) ∧ ownB v' = ownB v := by
  have hs : ∀ W, (sizeOf e).run P W = .ok size W := by
    intro W
    cases hq : P.info? e with
    | none => simp [hq] at hi
    | some i => have : i.size = size := by simpa [hq] using hi
                simp [sizeOf, typeInfo, hq, this]
  have hw : IntKind.i64.wrap (k : Int) = k := by rw [IntKind.wrap_i64]; omega
  have hle : k * size ≤ n * size := Nat.mul_le_mul_right _ hk
  have hlen : (xs.take (k * size)).length = k * size := by rw [List.length_take, h.1]; omega
  rcases h.2 with ⟨rfl, rfl⟩ | ⟨g, o, cap, cur, rfl, hb, hnc, hcm, hfit, htake⟩
  · obtain rfl : k = 0 := by omega
    refine ⟨.slice none 0 0, fun W => ?_, ⟨hlen, .inl ⟨rfl, by simp⟩⟩, rfl⟩
    simp [Instr.slice, run_underlying ht, Instr.sliceBounds, Instr.sliceBound, asIntOf, hs]
  · refine ⟨.slice (some ⟨g, o, none⟩) k cap, fun W => ?_, ⟨hlen, .inr ⟨g, o, cap, cur, rfl, hb, by omega, hcm, hfit, ?_⟩⟩, rfl⟩
    · have hkc : k ≤ cap := by omega
      by_cases hc : cap = 0
      · have : k = 0 := by omega
        subst this
        simp [Instr.slice, run_underlying ht, Instr.sliceBounds, Instr.sliceBound, asIntOf, hs, Addr.add_lit]
      · simp [Instr.slice, run_underlying ht, Instr.sliceBounds, Instr.sliceBound, asIntOf, hs, hkc, Addr.add_lit]
    · rw [← htake, List.take_take, Nat.min_eq_left hle]
end
/-- A slice that was made since w0, by append alone; what there was before w0 is as it was. -/
structure Bld (w0 w : World) (e : TypeId) (sz : Nat) (v : Value) (n : Nat) (xs : List Value) : Prop where
  sl : Sl w e sz v n xs
  own : ∀ k, k ∈ ownB v → w0.heap.size ≤ k
  upd : Upd [] w0 w
theorem Bld.nil {w0 w : World} (h : Upd [] w0 w) (e : TypeId) (sz : Nat) : Bld w0 w e sz (.slice none 0 0) 0 [] := ⟨Sl.nil _ _ _, by simp [ownB], h⟩
theorem Bld.app {w0 w w' : World} {e : TypeId} {sz : Nat} {v v' : Value} {n n' : Nat} {xs xs' : List Value} (h : Bld w0 w e sz v n xs) (s : Sl w' e sz v' n' xs') (u : Upd (ownB v) w w') (o : ∀ k, k ∈ ownB v' → k ∈ ownB v ∨ w.heap.size ≤ k) : Bld w0 w' e sz v' n' xs' where
  sl := s
  own := fun k hk => by
    have := h.upd.size
    rcases o k hk with h1 | h1
    · exact h.own k h1
    · omega
  upd := h.upd.trans u (fun k hk h1 => by have := h.own k h1; omega)
theorem Bld.over {w0 w w' : World} {e : TypeId} {sz : Nat} {v : Value} {n : Nat} {xs : List Value} (h : Bld w0 w e sz v n xs) (u : Upd [] w w') : Bld w0 w' e sz v n xs :=
  ⟨h.sl.upd u (by simp), h.own, h.upd.trans u (by simp)⟩
theorem Bld.blk {w0 w : World} {e : TypeId} {b sz n : Nat} {cs : List Value} (h : Blk w b cs e) (hu : Upd [] w0 w) (hb : w0.heap.size ≤ b) (hl : cs.length = n * sz) (hn : n ≤ maxLen) : Bld w0 w e sz (.slice (some ⟨b, 0, none⟩) n n) n cs :=
  ⟨h.sl sz n hl hn, by simp [ownB]; exact hb, hu⟩
end Go.Proofs.YtndlbkiogagnaaaGreatDoor
