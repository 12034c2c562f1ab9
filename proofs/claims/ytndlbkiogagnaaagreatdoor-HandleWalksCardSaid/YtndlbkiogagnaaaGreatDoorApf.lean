/- append to a slice that is full: what there was stays as it was. -/
import Derived.Test.YtndlbkiogagnaaaGreatDoorAp2
namespace Go.Proofs.YtndlbkiogagnaaaGreatDoor
set_option linter.unusedSimpArgs false
set_option linter.unusedVariables false
set_option linter.unnecessarySimpa false
open Go.RowKit
section
variable {P : Program}
theorem run_append_full (w : World) (t ty e : TypeId) (z : Value) (size bytes : Nat) (ht : P.underlying t = some (.slice e)) (hi : (P.info? e).map (fun i => (i.zero, i.size, i.bytes)) = some (some z, size, bytes))
    (hzs : z.cells.size = size) (va : Option Addr) (n : Nat) (xs : List Value) (hown : Sl w e size (.slice va n n) n xs)
    (a : Addr) (m c : Nat) (news : List Value) (hl : news.length = m * size) (hnews : ∀ j u, news[j]? = some u → w.cell? (a.add j) = some u) (h1 : news.all (·.oneCell') = true)
    (hm : 0 < m) (h63 : n + m ≤ maxLen) (hbytes : (n + m) * bytes ≤ 140737488355328) :
    ∃ g o cap w', (Builtin.append_ #[t, t] ty #[.slice va n n, .slice (some a) m c]).run P w = .ok (.slice (some ⟨g, o, none⟩) (n + m) cap) w' ∧ Sl w' e size (.slice (some ⟨g, o, none⟩) (n + m) cap) (n + m) (xs ++ news) ∧
      Upd [] w w' ∧ w.heap.size ≤ g ∧ g < w'.heap.size := by
  obtain ⟨i, hi2, hz, hs, hby⟩ := info_parts hi
  subst hs
  subst hby
  have h63' : n + m ≤ 9223372036854775807 := by unfold maxLen at h63; omega
  have hlen : (xs ++ news).length = (n + m) * i.size := by rw [List.length_append, hown.1, hl, Nat.add_mul]
  have fresh : ∀ old, old < n + m → ∀ W, W = w.drew.alloc (.cells (xs.toArray ++ news.toArray ++ Builtin.zeroCells z.cells (grownCap w (n + m) old e - (n + m))) e) →
      Sl W e i.size (.slice (some ⟨w.heap.size, 0, none⟩) (n + m) (grownCap w (n + m) old e)) (n + m) (xs ++ news) ∧ Upd [] w W ∧ w.heap.size < W.heap.size := by
    intro old ho W hW
    subst hW
    have hge := grownCap_ge w (n + m) old e
    refine ⟨⟨hlen, .inr ⟨w.heap.size, 0, _, (xs ++ news ++ (Builtin.zeroCells z.cells (grownCap w (n + m) old e - (n + m))).toList), rfl, ?_, hge, grownCap_le_maxLen w (n + m) old e h63, ?_, ?_⟩⟩, (Upd.refl _ _).drew.alloc _, by simp⟩
    · have h0 := Blk.new w.drew (xs ++ news ++ (Builtin.zeroCells z.cells (grownCap w (n + m) old e - (n + m))).toList) e w.heap.size rfl
      have he : (xs ++ news ++ (Builtin.zeroCells z.cells (grownCap w (n + m) old e - (n + m))).toList).toArray = xs.toArray ++ news.toArray ++ Builtin.zeroCells z.cells (grownCap w (n + m) old e - (n + m)) := by
        apply Array.ext'; simp
      rw [he] at h0
      exact h0
    · rw [List.length_append, hlen]
      simp only [Array.length_toList, size_zeroCells, hzs, Nat.zero_add, ← Nat.add_mul]
      exact Nat.mul_le_mul_right _ (by omega)
    · rw [List.drop_zero, ← hlen, List.take_left]
  rcases hown.2 with ⟨e1, e2⟩ | ⟨g, o, cap, cur, e1, hb, hnc, hcm, hfit, htake⟩
  · subst e2
    simp only [Value.slice.injEq] at e1
    obtain ⟨rfl, _, _⟩ := e1
    have hx : xs = [] := List.eq_nil_of_length_eq_zero (by simpa using hown.1)
    subst hx
    have hr := run_append_nil (P := P) w t ty e i z ht hi2 hz a m c news hl hnews (by omega) (by omega) (by have hb := hbytes; simp only [Nat.zero_add] at hb; omega)
    have f := fresh 0 (by omega)
    simp only [Nat.zero_add, List.nil_append, Array.empty_append] at f ⊢
    obtain ⟨f1, f2, f3⟩ := f _ rfl
    exact ⟨_, _, _, _, hr, f1, f2, Nat.le_refl _, f3⟩
  · simp only [Value.slice.injEq] at e1
    obtain ⟨rfl, _, rfl⟩ := e1
    have holds : ∀ j u, xs[j]? = some u → w.cell? ((⟨g, o, none⟩ : Addr).add j) = some u := by
      intro j u hu
      rw [Addr.add_lit, hb.cell]
      rw [← htake, List.getElem?_take] at hu
      split at hu
      · rwa [List.getElem?_drop] at hu
      · cases hu
    have hr := run_append_grow (P := P) w t ty e i z ht hi2 hz ⟨g, o, none⟩ n n xs hown.1 holds a m c news hl hnews (by omega) (by omega) (growslice_fits (by omega) hbytes)
    obtain ⟨f1, f2, f3⟩ := fresh n (by omega) _ rfl
    exact ⟨_, _, _, _, hr, f1, f2, Nat.le_refl _, f3⟩

theorem step_append_full {ops : Array Oper} {o : Oper} {a : Act} {w : World} {K : Act → World → Prop} {Q : Exit → Act → World → Prop} {E : Prop} (hgd : o.guard = none) (s x : Operand) (t : TypeId)
    (ho : o.op = .call { callee := .builtin .append, args := #[s, x], argTypes := #[t, t] })
    (e : TypeId) (z : Value) (size bytes : Nat) (ht : P.underlying t = some (.slice e)) (hi : (P.info? e).map (fun i => (i.zero, i.size, i.bytes)) = some (some z, size, bytes)) (hzs : z.cells.size = size)
    (va : Option Addr) (n : Nat) (xs : List Value) (hs : a.eval s = .slice va n n) (hown : Sl w e size (.slice va n n) n xs) (b m c : Nat) (ys : List Value) (hx : a.eval x = .slice (some ⟨b, 0, none⟩) m c) (hy : Sl w e size (.slice (some ⟨b, 0, none⟩) m c) m ys) (h1 : ys.all (·.oneCell') = true) (hm : 0 < m) (hn : n + m ≤ 1000000) (hb : bytes ≤ 1000000)
    (h : ∀ g o' cap w', Sl w' e size (.slice (some ⟨g, o', none⟩) (n + m) cap) (n + m) (xs ++ ys) → Upd [] w w' → w.heap.size ≤ g → K (a.put o.dst (.slice (some ⟨g, o', none⟩) (n + m) cap)) w') :
    if Region.wanted o (yielded ops a.tmps) = true then Oper.wp P o a w K Q else E := by
  have hw : Region.wanted o (yielded ops a.tmps) = true := by simp [Region.wanted, hgd]
  rw [if_pos hw]
  have hb2 : (n + m) * bytes ≤ 140737488355328 := Nat.le_trans (Nat.mul_le_mul hn hb) (by omega)
  obtain ⟨g, o', cap, w', hr, h2, h3, h4, h5⟩ := run_append_full (P := P) w t o.type e z size bytes ht hi hzs va n xs hown ⟨b, 0, none⟩ m c ys hy.1 (fun j u hu => by
    have hj : j < m * size := by have := (List.getElem?_eq_some_iff.1 hu).1; rw [hy.1] at this; exact this
    rw [Addr.add_lit, hy.cell j hj]
    exact hu) h1 hm (by unfold maxLen; omega) hb2
  unfold Oper.wp execOp
  simp only [ho, resolve, invoke, builtin, Sem.run_bind, Sem.run_pure, Result.andThen_ok, List.map_toArray, List.map_cons, List.map_nil, hs, hx, hr]
  exact h g o' cap w' h2 h3 h4
end
end Go.Proofs.YtndlbkiogagnaaaGreatDoor
