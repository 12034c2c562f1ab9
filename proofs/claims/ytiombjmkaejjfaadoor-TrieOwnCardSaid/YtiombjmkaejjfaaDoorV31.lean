/- Tries: those of a list of routes that may stand beside those ahead of them. -/
import Derived.Test.YtiombjmkaejjfaaDoorV26
import Derived.Test.YtiombjmkaejjfaaDoorApf
namespace Go.Proofs.YtiombjmkaejjfaaDoor
set_option linter.unusedSimpArgs false
set_option linter.unusedVariables false
set_option linter.unnecessarySimpa false
open Go.RowKit BigFrame

theorem dupB_nodup : ∀ (L : List Rt) (ks : List (Bs × Bs)), dupB L ks = false → (L.map keyR).Nodup ∧ ∀ r ∈ L, keyR r ∉ ks
  | [], _, _ => by simp
  | r :: L, ks, h => by
    simp only [dupB, Bool.or_eq_false_iff, decide_eq_false_iff_not] at h
    obtain ⟨h1, h2⟩ := dupB_nodup L _ h.2
    simp only [List.map_cons, List.nodup_cons]
    refine ⟨⟨fun hm => ?_, h1⟩, fun x hx => ?_⟩
    · obtain ⟨y, hy, he⟩ := List.mem_map.1 hm
      exact h2 y hy (by rw [he]; simp)
    · rcases List.mem_cons.1 hx with rfl | hx
      · exact h.1
      · exact fun hm => h2 x hx (by simp [hm])
def sgS : Sg → Bs
  | .word x => 47 :: x
  | .any => [47, 58]
  | .all => [47, 42]
theorem shp1_sg (x : Bs) : shp1 x = sgS (absS x) := by
  unfold shp1 absS
  split
  · rfl
  · split <;> rfl
theorem key_shp {r : Rt} (h : patR r.p = true) : keyR r = (r.m, (shp r).flatMap sgS) := by
  unfold keyR shapeL shp
  rw [patS_segs h, List.flatMap_map]
  congr 1
  congr 1
  funext x
  exact shp1_sg x
/-- Routes that may stand beside one another. -/
structure SomeOk (L : List Rt) : Prop where
  right : ∀ r ∈ L, rgtB r = true ∧ r.m.length + r.p.length < 200
  len : L.length ≤ 24
  apart : (L.map fun r => (r.m, shp r)).Nodup
theorem SomeOk.rgt {L : List Rt} (h : SomeOk L) : ∀ r ∈ L, Rgt r := fun r hr => by
  obtain ⟨h1, h2⟩ := h.right r hr
  simp only [rgtB, Bool.and_eq_true] at h1
  exact ⟨h1.1.1, by omega⟩
theorem SomeOk.nil : SomeOk [] := ⟨by simp, by simp, by simp⟩
theorem SomeOk.snoc {L : List Rt} {r : Rt} (h : SomeOk L) (h2 : r.m.length + r.p.length < 200) (hc : chk (L ++ [r]) = 0) : SomeOk (L ++ [r]) := by
  unfold chk at hc
  split at hc
  · cases hc
  rename_i h3
  split at hc
  · cases hc
  rename_i h4
  split at hc
  · cases hc
  rename_i h5
  have h3 : (L ++ [r]).all rgtB = true := by simpa using h3
  rw [List.all_eq_true] at h3
  have h5 : dupB (L ++ [r]) [] = false := by simpa using h5
  have hr : ∀ x ∈ L ++ [r], rgtB x = true ∧ x.m.length + x.p.length < 200 := by
    intro x hx
    refine ⟨h3 x hx, ?_⟩
    rcases List.mem_append.1 hx with hx | hx
    · exact (h.right x hx).2
    · rw [List.mem_singleton] at hx; subst hx; exact h2
  refine ⟨hr, by omega, ?_⟩
  have h6 := (dupB_nodup _ _ h5).1
  have h7 : (L ++ [r]).map keyR = ((L ++ [r]).map fun r => (r.m, shp r)).map fun x => (x.1, x.2.flatMap sgS) := by
    rw [List.map_map]
    apply List.map_congr_left
    intro x hx
    have := h3 x hx
    simp only [rgtB, Bool.and_eq_true] at this
    exact key_shp this.1.1
  rw [h7] at h6
  unfold List.Nodup at h6 ⊢
  rw [List.pairwise_map] at h6
  exact h6.imp fun h e => h (by rw [e])
section
variable {P : Program}
theorem wpList_append_fullw {ops : Array Oper} {rest : List Oper} {o : Oper} {a : Act} {w : World} {Q : Exit → Act → World → Prop} (s x : Operand) (t : TypeId)
    (ho : o.op = .call { callee := .builtin .append, args := #[s, x], argTypes := #[t, t] })
    (e : TypeId) (z : Value) (size bytes : Nat) (ht : P.underlying t = some (.slice e)) (hi : (P.info? e).map (fun i => (i.zero, i.size, i.bytes)) = some (some z, size, bytes)) (hzs : z.cells.size = size)
    (va : Option Addr) (n : Nat) (xs : List Value) (hown : Sl w e size (.slice va n n) n xs) (b m c : Nat) (ys : List Value) (hy : Sl w e size (.slice (some ⟨b, 0, none⟩) m c) m ys) (h1 : ys.all (·.oneCell') = true) (hm : 0 < m) (hn : n + m ≤ 1000000) (hb : bytes ≤ 1000000)
    (hw : Region.wanted o (yielded ops a.tmps) = true) (hs : a.eval s = .slice va n n) (hx : a.eval x = .slice (some ⟨b, 0, none⟩) m c)
    (h : ∀ g o' cap w', Sl w' e size (.slice (some ⟨g, o', none⟩) (n + m) cap) (n + m) (xs ++ ys) → Upd [] w w' → w.heap.size ≤ g → wpList P ops Q rest (a.put o.dst (.slice (some ⟨g, o', none⟩) (n + m) cap)) w') : wpList P ops Q (o :: rest) a w := by
  refine BigFrame.wpList_want hw fun K hK => ?_
  have hb2 : (n + m) * bytes ≤ 140737488355328 := Nat.le_trans (Nat.mul_le_mul hn hb) (by omega)
  obtain ⟨g, o', cap, w', hr, h2, h3, h4, h5⟩ := run_append_full (P := P) w t o.type e z size bytes ht hi hzs va n xs hown ⟨b, 0, none⟩ m c ys hy.1 (fun j u hu => by
    have hj : j < m * size := by have := (List.getElem?_eq_some_iff.1 hu).1; rw [hy.1] at this; exact this
    rw [Addr.add_lit, hy.cell j hj]
    exact hu) h1 hm (by unfold maxLen; omega) hb2
  unfold Oper.wp execOp
  simp only [ho, resolve, invoke, builtin, Sem.run_bind, Sem.run_pure, Result.andThen_ok, List.map_toArray, List.map_cons, List.map_nil, hs, hx, hr]
  exact hK _ _ (h g o' cap w' h2 h3 h4)
end
end Go.Proofs.YtiombjmkaejjfaaDoor
