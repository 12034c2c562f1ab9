/- Slices anywhere in a block: what they read as; append to them; a slice of them. -/
import Derived.Test.YtndlbkiogagnaaaGreatDoorOps
namespace Go.Proofs.YtndlbkiogagnaaaGreatDoor
set_option linter.unusedSimpArgs false
set_option linter.unusedVariables false
set_option linter.unnecessarySimpa false
open Go.RowKit
section
variable {P : Program}

/-- The blocks that a value leads to by itself. -/
def ownB : Value → List Nat
  | .slice (some a) _ _ => [a.block]
  | _ => []

/-- The slice value v reads as n elements of sz cells each, xs all their cells; it is nil, or lies in a block that is not frozen. -/
def Sl (w : World) (e : TypeId) (sz : Nat) (v : Value) (n : Nat) (xs : List Value) : Prop :=
  xs.length = n * sz ∧ ((v = .slice none 0 0 ∧ n = 0) ∨
    ∃ g o cap cur, v = .slice (some ⟨g, o, none⟩) n cap ∧ Blk w g cur e ∧ n ≤ cap ∧ cap ≤ maxLen ∧ o + cap * sz ≤ cur.length ∧ (cur.drop o).take (n * sz) = xs)

theorem Sl.nil (w : World) (e : TypeId) (sz : Nat) : Sl w e sz (.slice none 0 0) 0 [] := ⟨by simp, .inl ⟨rfl, rfl⟩⟩
theorem Sl.lt {w : World} {e : TypeId} {sz : Nat} {v : Value} {n : Nat} {xs : List Value} (h : Sl w e sz v n xs) : ∀ k, k ∈ ownB v → k < w.heap.size := by
  intro k hk
  rcases h.2 with ⟨rfl, _⟩ | ⟨g, o, cap, cur, rfl, hb, _⟩
  · simp [ownB] at hk
  · simp [ownB] at hk; subst hk; exact hb.lt
theorem Sl.keep {w w' : World} {e : TypeId} {sz : Nat} {v : Value} {n : Nat} {xs : List Value} (h : Sl w e sz v n xs) (hk : ∀ k, k ∈ ownB v → w'.heap[k]? = w.heap[k]?) : Sl w' e sz v n xs := by
  refine ⟨h.1, ?_⟩
  rcases h.2 with h2 | ⟨g, o, cap, cur, rfl, hb, r⟩
  · exact .inl h2
  · exact .inr ⟨g, o, cap, cur, rfl, hb.of_eq (hk g (by simp [ownB])), r⟩
theorem Sl.upd {w w' : World} {S : List Nat} {e : TypeId} {sz : Nat} {v : Value} {n : Nat} {xs : List Value} (h : Sl w e sz v n xs) (hu : Upd S w w') (hS : ∀ k, k ∈ ownB v → k ∉ S) : Sl w' e sz v n xs :=
  h.keep fun k hk => hu.block k (h.lt k hk) (hS k hk)
theorem Sl.alloc {w : World} {e : TypeId} {sz : Nat} {v : Value} {n : Nat} {xs : List Value} (h : Sl w e sz v n xs) (o : Obj) : Sl (w.alloc o) e sz v n xs :=
  h.upd ((Upd.refl [] w).alloc o) (by simp)
theorem Sl.drewN {w : World} {e : TypeId} {sz : Nat} {v : Value} {n : Nat} {xs : List Value} (h : Sl w e sz v n xs) (k : Nat) : Sl (w.drewN k) e sz v n xs :=
  h.upd ((Upd.refl [] w).drewN k) (by simp)
/-- A slice's block holds elements of its own type. -/
theorem Sl.other {w : World} {e t : TypeId} {sz : Nat} {v : Value} {n : Nat} {xs : List Value} (h : Sl w e sz v n xs) (ht : t ≠ e) : ∀ k, k ∈ ownB v → ∀ cs, ¬ Blk w k cs t := by
  intro k hk cs hb
  rcases h.2 with ⟨rfl, _⟩ | ⟨g, o, cap, cur, rfl, hb2, _⟩
  · simp [ownB] at hk
  · simp [ownB] at hk; subst hk; exact ht (hb.uniq hb2).2
theorem Sl.form {w : World} {e : TypeId} {sz : Nat} {v : Value} {n : Nat} {xs : List Value} (h : Sl w e sz v n xs) : ∃ a cap, v = .slice a n cap := by
  rcases h.2 with ⟨rfl, rfl⟩ | ⟨g, o, cap, cur, rfl, _⟩
  · exact ⟨none, 0, rfl⟩
  · exact ⟨_, cap, rfl⟩
theorem Sl.cell {w : World} {e : TypeId} {sz : Nat} {n cap g o : Nat} {xs : List Value} (h : Sl w e sz (.slice (some ⟨g, o, none⟩) n cap) n xs) (j : Nat) (hj : j < n * sz) : w.cell? ⟨g, o + j, none⟩ = xs[j]? := by
  rcases h.2 with ⟨h2, _⟩ | ⟨g', o', cap', cur, h2, hb, _, _, hl, hx⟩
  · cases h2
  · simp only [Value.slice.injEq, Option.some.injEq, Addr.mk.injEq] at h2
    obtain ⟨⟨rfl, rfl, _⟩, _, rfl⟩ := h2
    rw [hb.cell, ← hx, List.getElem?_take, if_pos hj, List.getElem?_drop]
/-- A slice that has an element, written out. -/
theorem Sl.some {w : World} {e : TypeId} {sz : Nat} {v : Value} {n : Nat} {xs : List Value} (h : Sl w e sz v n xs) (hn : 0 < n) : ∃ g o cap, v = .slice (some ⟨g, o, none⟩) n cap ∧ n ≤ cap ∧ cap ≤ maxLen ∧ ∀ j, j < n * sz → w.cell? ⟨g, o + j, none⟩ = xs[j]? := by
  have h0 := h
  rcases h.2 with ⟨_, h2⟩ | ⟨g, o, cap, cur, rfl, hb, h3, h4, _⟩
  · omega
  · exact ⟨g, o, cap, rfl, h3, h4, fun j hj => h0.cell j hj⟩
theorem Blk.news {w : World} {b : Nat} {cs : List Value} {t : TypeId} (h : Blk w b cs t) : ∀ j u, cs[j]? = .some u → w.cell? ((⟨b, 0, none⟩ : Addr).add j) = .some u := by
  intro j u hu
  rw [Addr.add_lit, h.cell]; simpa using hu

theorem Blk.sl {w : World} {b : Nat} {cs : List Value} {t : TypeId} (h : Blk w b cs t) (sz n : Nat) (hl : cs.length = n * sz) (hn : n ≤ maxLen) : Sl w t sz (.slice (.some ⟨b, 0, none⟩) n n) n cs :=
  ⟨hl, .inr ⟨b, 0, n, cs, rfl, h, Nat.le_refl _, hn, by omega, by simp [← hl]⟩⟩

/-- append: somewhere the old elements and the new ones stand in a row. -/
theorem run_append_sl (w : World) (t ty e : TypeId) (z : Value) (size bytes : Nat) (ht : P.underlying t = some (.slice e)) (hi : (P.info? e).map (fun i => (i.zero, i.size, i.bytes)) = some (some z, size, bytes))
    (hzs : z.cells.size = size) (v : Value) (n : Nat) (xs : List Value) (hown : Sl w e size v n xs)
    (a : Addr) (m c : Nat) (news : List Value) (hl : news.length = m * size) (hnews : ∀ j u, news[j]? = some u → w.cell? (a.add j) = some u) (h1 : news.all (·.oneCell') = true)
    (hm : 0 < m) (h63 : n + m ≤ maxLen) (hbytes : (n + m) * bytes ≤ 140737488355328) :
    ∃ g o cap w', (Builtin.append_ #[t, t] ty #[v, .slice (some a) m c]).run P w = .ok (.slice (some ⟨g, o, none⟩) (n + m) cap) w' ∧ Sl w' e size (.slice (some ⟨g, o, none⟩) (n + m) cap) (n + m) (xs ++ news) ∧
      Upd (ownB v) w w' ∧ (g ∈ ownB v ∨ w.heap.size ≤ g) ∧ g < w'.heap.size := by
  obtain ⟨i, hi2, hz, hs, hby⟩ := info_parts hi
  subst hs
  subst hby
  have h63' : n + m ≤ 9223372036854775807 := by unfold maxLen at h63; omega
  have hlen : (xs ++ news).length = (n + m) * i.size := by rw [List.length_append, hown.1, hl, Nat.add_mul]
  have fresh : ∀ old, old < n + m → ∀ W, W = w.drew.alloc (.cells (xs.toArray ++ news.toArray ++ Builtin.zeroCells z.cells (grownCap w (n + m) old e - (n + m))) e) →
      Sl W e i.size (.slice (some ⟨w.heap.size, 0, none⟩) (n + m) (grownCap w (n + m) old e)) (n + m) (xs ++ news) ∧ Upd (ownB v) w W ∧ w.heap.size < W.heap.size := by
    intro old ho W hW
    subst hW
    have hge := grownCap_ge w (n + m) old e
    refine ⟨⟨hlen, .inr ⟨w.heap.size, 0, _, (xs ++ news ++ (Builtin.zeroCells z.cells (grownCap w (n + m) old e - (n + m))).toList), rfl, ?_, hge, grownCap_le_maxLen w (n + m) old e h63, ?_, ?_⟩⟩, (Upd.refl _ _).drew.alloc _, by simp⟩
    · have h0 := Blk.new w.drew (xs ++ news ++ (Builtin.zeroCells z.cells (grownCap w (n + m) old e - (n + m))).toList) e w.heap.size rfl
      have he : (xs ++ news ++ (Builtin.zeroCells z.cells (grownCap w (n + m) old e - (n + m))).toList).toArray = xs.toArray ++ news.toArray ++ Builtin.zeroCells z.cells (grownCap w (n + m) old e - (n + m)) := by
        apply Array.ext'; simp
      rw [he] at h0
      exact h0
    · rw [List.length_append, hlen]
      simp only [Array.length_toList, size_zeroCells, hzs, Nat.zero_add, ← Nat.add_mul]
      exact Nat.mul_le_mul_right _ (by omega)
    · rw [List.drop_zero, ← hlen, List.take_left]
  rcases hown.2 with ⟨rfl, rfl⟩ | ⟨g, o, cap, cur, rfl, hb, hnc, hcm, hfit, htake⟩
  · have hx : xs = [] := List.eq_nil_of_length_eq_zero (by simpa using hown.1)
    subst hx
    have hr := run_append_nil (P := P) w t ty e i z ht hi2 hz a m c news hl hnews (by omega) (by omega) (by have hb := hbytes; simp only [Nat.zero_add] at hb; omega)
    have f := fresh 0 (by omega)
    simp only [Nat.zero_add, List.nil_append, Array.empty_append] at f ⊢
    obtain ⟨f1, f2, f3⟩ := f _ rfl
    exact ⟨_, _, _, _, hr, f1, f2, .inr (Nat.le_refl _), f3⟩
  · by_cases hroom : n + m ≤ cap
    · have hle : (n + m) * i.size ≤ cap * i.size := Nat.mul_le_mul_right _ hroom
      rw [Nat.add_mul] at hle
      have hf := run_firstCells_some (P := P) w i.size m a m c news hl hnews
      have hst := run_storeCells_at P g (o + n * i.size) e news 0 cur.toArray w hb (by simp; omega) (fun u hu => List.all_eq_true.1 h1 u hu)
      simp only [Nat.add_zero] at hst
      have hr : (Builtin.append_ #[t, t] ty #[.slice (some ⟨g, o, none⟩) n cap, .slice (some a) m c]).run P w = .ok (.slice (some ⟨g, o, none⟩) (n + m) cap) (w.setRow g (putL cur (o + n * i.size) news).toArray) := by
        simp [Builtin.append_, run_underlying ht, sizeOf, typeInfo, hi2, Builtin.lenOf, hroom, hf, Addr.add_lit, hst, putL]
      refine ⟨g, o, cap, _, hr, ⟨hlen, .inr ⟨g, o, cap, _, rfl, hb.row _, hroom, hcm, by rw [putL_len _ _ _ (by omega)]; exact hfit, ?_⟩⟩, (Upd.refl _ _).row _ _ (by simp [ownB]), .inl (by simp [ownB]), by simpa using hb.lt⟩
      apply List.ext_getElem?
      intro j
      rw [List.getElem?_take]
      by_cases hj : j < (n + m) * i.size
      · rw [if_pos hj, List.getElem?_drop]
        by_cases hj2 : j < n * i.size
        · rw [putL_out _ _ _ (by omega) _ (by omega), List.getElem?_append_left (by rw [hown.1]; exact hj2), ← htake, List.getElem?_take, if_pos hj2, List.getElem?_drop]
        · rw [Nat.add_mul] at hj
          obtain ⟨k, rfl⟩ : ∃ k, j = n * i.size + k := ⟨j - n * i.size, by omega⟩
          rw [← Nat.add_assoc, putL_in _ _ _ (by omega) _ (by omega), List.getElem?_append_right (by rw [hown.1]; omega), hown.1]
          congr 1
          omega
      · rw [if_neg hj, List.getElem?_eq_none (by rw [hlen]; omega)]
    · have holds : ∀ j u, xs[j]? = some u → w.cell? ((⟨g, o, none⟩ : Addr).add j) = some u := by
        intro j u hu
        rw [Addr.add_lit, hb.cell]
        rw [← htake, List.getElem?_take] at hu
        split at hu
        · rwa [List.getElem?_drop] at hu
        · cases hu
      have hr := run_append_grow (P := P) w t ty e i z ht hi2 hz ⟨g, o, none⟩ n cap xs hown.1 holds a m c news hl hnews (by omega) (by omega) (growslice_fits (by omega) hbytes)
      obtain ⟨f1, f2, f3⟩ := fresh cap (by omega) _ rfl
      exact ⟨_, _, _, _, hr, f1, f2, .inr (Nat.le_refl _), f3⟩

theorem wp_append_sl {o : Oper} {a : Act} {w : World} {K : Act → World → Prop} {Q : Exit → Act → World → Prop} (s x : Operand) (t : TypeId)
    (ho : o.op = .call { callee := .builtin .append, args := #[s, x], argTypes := #[t, t] })
    (e : TypeId) (z : Value) (size bytes : Nat) (ht : P.underlying t = some (.slice e)) (hi : (P.info? e).map (fun i => (i.zero, i.size, i.bytes)) = some (some z, size, bytes)) (hzs : z.cells.size = size)
    (v : Value) (n : Nat) (xs : List Value) (hs : a.eval s = v) (hown : Sl w e size v n xs)
    (ad : Addr) (m c : Nat) (news : List Value) (hx : a.eval x = .slice (some ad) m c) (hl : news.length = m * size) (hnews : ∀ j u, news[j]? = some u → w.cell? (ad.add j) = some u) (h1 : news.all (·.oneCell') = true)
    (hm : 0 < m) (h63 : n + m ≤ maxLen) (hbytes : (n + m) * bytes ≤ 140737488355328)
    (h : ∀ g off cap w', Sl w' e size (.slice (some ⟨g, off, none⟩) (n + m) cap) (n + m) (xs ++ news) → Upd (ownB v) w w' → (g ∈ ownB v ∨ w.heap.size ≤ g) → g < w'.heap.size → K (a.put o.dst (.slice (some ⟨g, off, none⟩) (n + m) cap)) w') : o.wp P a w K Q := by
  obtain ⟨g, off, cap, w', hr, h2, h3, h4, h5⟩ := run_append_sl (P := P) w t o.type e z size bytes ht hi hzs v n xs hown ad m c news hl hnews h1 hm h63 hbytes
  unfold Oper.wp execOp
  simp only [ho, resolve, invoke, builtin, Sem.run_bind, Sem.run_pure, Result.andThen_ok, List.map_toArray, List.map_cons, List.map_nil, hs, hx, hr]
  exact h g off cap w' h2 h3 h4 h5

theorem wpList_append_sl {ops : Array Oper} {rest : List Oper} {o : Oper} {a : Act} {w : World} {Q : Exit → Act → World → Prop} (hgd : o.guard = none) (s x : Operand) (t : TypeId)
    (ho : o.op = .call { callee := .builtin .append, args := #[s, x], argTypes := #[t, t] })
    (e : TypeId) (z : Value) (size bytes : Nat) (ht : P.underlying t = some (.slice e)) (hi : (P.info? e).map (fun i => (i.zero, i.size, i.bytes)) = some (some z, size, bytes)) (hzs : z.cells.size = size)
    (v : Value) (n : Nat) (xs : List Value) (hs : a.eval s = v) (hown : Sl w e size v n xs)
    (ad : Addr) (m c : Nat) (news : List Value) (hx : a.eval x = .slice (some ad) m c) (hl : news.length = m * size) (hnews : ∀ j u, news[j]? = some u → w.cell? (ad.add j) = some u) (h1 : news.all (·.oneCell') = true)
    (hm : 0 < m) (h63 : n + m ≤ maxLen) (hbytes : (n + m) * bytes ≤ 140737488355328)
    (h : ∀ g off cap w', Sl w' e size (.slice (some ⟨g, off, none⟩) (n + m) cap) (n + m) (xs ++ news) → Upd (ownB v) w w' → (g ∈ ownB v ∨ w.heap.size ≤ g) → g < w'.heap.size → wpList P ops Q rest (a.put o.dst (.slice (some ⟨g, off, none⟩) (n + m) cap)) w') : wpList P ops Q (o :: rest) a w :=
  wpList_plain hgd fun _ hK => wp_append_sl s x t ho e z size bytes ht hi hzs v n xs hs hown ad m c news hx hl hnews h1 hm h63 hbytes fun g off cap w' h2 h3 h4 h5 => hK _ _ (h g off cap w' h2 h3 h4 h5)

/-- append of nothing. -/
theorem wpList_append_none {ops : Array Oper} {rest : List Oper} {o : Oper} {a : Act} {w : World} {Q : Exit → Act → World → Prop} (hgd : o.guard = none) (s x : Operand) (t e : TypeId)
    (ho : o.op = .call { callee := .builtin .append, args := #[s, x], argTypes := #[t, t] }) (ht : P.underlying t = some (.slice e)) (hi : (P.info? e).isSome = true)
    (b : Option Addr) (n cap : Nat) (hs : a.eval s = .slice b n cap) (hn : n ≤ cap) (b2 : Option Addr) (c : Nat) (hx : a.eval x = .slice b2 0 c)
    (h : wpList P ops Q rest (a.put o.dst (.slice b n cap)) w) : wpList P ops Q (o :: rest) a w := by
  refine wpList_plain hgd fun K hK => ?_
  obtain ⟨i, hi2⟩ := Option.isSome_iff_exists.1 hi
  have hr : (Builtin.append_ #[t, t] o.type #[.slice b n cap, .slice b2 0 c]).run P w = .ok (.slice b n cap) w := by
    cases b <;> cases b2 <;> simp [Builtin.append_, run_underlying ht, sizeOf, typeInfo, hi2, Builtin.lenOf, Builtin.firstCells, loadCells, loadCellsFrom, hn, storeCells]
  unfold Oper.wp execOp
  simp only [ho, resolve, invoke, builtin, Sem.run_bind, Sem.run_pure, Result.andThen_ok, List.map_toArray, List.map_cons, List.map_nil, hs, hx, hr]
  exact hK _ _ h

/-- s[k:] -/
theorem run_from_sl (t e : TypeId) (size : Nat) (ht : P.underlying t = some (.slice e)) (hi : (P.info? e).map (·.size) = some size) (w : World) (v : Value) (n : Nat) (xs : List Value) (h : Sl w e size v n xs) (k : Nat) (hk : k ≤ n) (hk2 : n ≤ 4611686018427387904) :
    ∃ v', (∀ W, (Instr.slice t v (some (.int .i64 k)) none none).run P W = .ok v' W) ∧ Sl w e size v' (n - k) (xs.drop (k * size)) ∧ ownB v' = ownB v := by
  have hs : ∀ W, (sizeOf e).run P W = .ok size W := by
    intro W
    cases hq : P.info? e with
    | none => simp [hq] at hi
    | some i => have : i.size = size := by simpa [hq] using hi
                simp [sizeOf, typeInfo, hq, this]
  have hw : IntKind.i64.wrap (k : Int) = k := by rw [IntKind.wrap_i64]; omega
  have hlen : (xs.drop (k * size)).length = (n - k) * size := by rw [List.length_drop, h.1, Nat.sub_mul]
  rcases h.2 with ⟨rfl, rfl⟩ | ⟨g, o, cap, cur, rfl, hb, hnc, hcm, hfit, htake⟩
  · obtain rfl : k = 0 := by omega
    refine ⟨.slice none 0 0, fun W => ?_, ⟨hlen, .inl ⟨rfl, by simp⟩⟩, rfl⟩
    simp [Instr.slice, run_underlying ht, Instr.sliceBounds, Instr.sliceBound, asIntOf, hs]
  · refine ⟨.slice (some (if cap = k then ⟨g, o, none⟩ else ⟨g, o + k * size, none⟩)) (n - k) (cap - k), fun W => ?_, ⟨hlen, ?_⟩, ?_⟩
    · by_cases hc : cap = k
      · have hkn : k ≤ n := hk
        simp [Instr.slice, run_underlying ht, Instr.sliceBounds, Instr.sliceBound, asIntOf, hs, hc, hkn]
      · simp [Instr.slice, run_underlying ht, Instr.sliceBounds, Instr.sliceBound, asIntOf, hs, hc, hk, Addr.add_lit]
    · by_cases hc : cap = k
      · have hnk : n - k = 0 := by omega
        rw [if_pos hc]
        have ho : o ≤ cur.length := by omega
        have hnk2 : n = k := by omega
        refine .inr ⟨g, o, cap - k, cur, rfl, hb, by omega, by omega, by rw [hc, Nat.sub_self]; simpa using ho, ?_⟩
        rw [hnk, Nat.zero_mul, List.take_zero, List.drop_eq_nil_of_le (by rw [h.1, hnk2]; exact Nat.le_refl _)]
      · rw [if_neg hc]
        have hle : k * size ≤ cap * size := Nat.mul_le_mul_right _ (by omega)
        refine .inr ⟨g, o + k * size, cap - k, cur, rfl, hb, by omega, by omega, by rw [Nat.sub_mul]; omega, ?_⟩
        rw [← htake, List.drop_take, List.drop_drop, Nat.sub_mul]
    · by_cases hc : cap = k
      · rw [if_pos hc]; rfl
      · rw [if_neg hc]; rfl
end
end Go.Proofs.YtndlbkiogagnaaaGreatDoor
