/- Going over a map that is told whole: which entries are still to come. -/
import Derived.Test.YtndlbkiogagnaaaGreatDoorMk
import Derived.Maps.RangeWalk
namespace Go.Proofs.YtndlbkiogagnaaaGreatDoor
set_option linter.unusedSimpArgs false
set_option linter.unusedVariables false
set_option linter.unnecessarySimpa false
open Go.RowKit Go.ChangeMaps
section
set_option linter.unusedSectionVars false
variable {P : Program} {κ : Type} [DecidableEq κ]

/-- Block r goes over the map in block b, whose entries are L; those of F are still to come. -/
def Rng (w : World) (r b : Nat) (kv : κ → Value) (L F : List (κ × Value × Nat)) : Prop :=
  Mp w b kv L ∧ r ≠ b ∧ ∃ since seen c0 clock, w.heap[r]? = some (.mapIter (some b) since seen c0) ∧ w.heap[b]? = some (.map (L.map (toE kv)).toArray clock) ∧ (∀ x ∈ L, x.2.2 < since) ∧ since ≤ c0 ∧ since ≤ clock ∧ F = L.filter fun x => !seen.contains x.2.2

theorem Rng.mp {w : World} {r b : Nat} {kv : κ → Value} {L F : List (κ × Value × Nat)} (h : Rng w r b kv L F) : Mp w b kv L := h.1
theorem Rng.lt {w : World} {r b : Nat} {kv : κ → Value} {L F : List (κ × Value × Nat)} (h : Rng w r b kv L F) : r < w.heap.size := by
  obtain ⟨-, -, _, _, _, _, h, -⟩ := h
  exact (Array.getElem?_eq_some_iff.1 h).1
theorem Rng.upd {w w' : World} {S : List Nat} {r b : Nat} {kv : κ → Value} {L F : List (κ × Value × Nat)} (h : Rng w r b kv L F) (hu : Upd S w w') (hr : r ∉ S) (hb : b ∉ S) : Rng w' r b kv L F := by
  have h1 := h.lt
  have h2 := h.1.lt
  obtain ⟨hm, hne, since, seen, c0, clock, k1, k2, k3⟩ := h
  exact ⟨hm.upd hu hb, hne, since, seen, c0, clock, (hu.block r h1 hr).trans k1, (hu.block b h2 hb).trans k2, k3⟩
theorem Rng.sub {w : World} {r b : Nat} {kv : κ → Value} {L F : List (κ × Value × Nat)} (h : Rng w r b kv L F) : ∀ x ∈ F, x ∈ L := by
  obtain ⟨-, -, _, _, _, _, _, _, _, _, _, rfl⟩ := h
  intro x hx
  exact (List.mem_filter.1 hx).1
theorem Rng.notMp {w : World} {κ' : Type} [DecidableEq κ'] {r b m : Nat} {kv : κ → Value} {kv' : κ' → Value} {L F : List (κ × Value × Nat)} {M : List (κ' × Value × Nat)} (h : Rng w r b kv L F) (hm : Mp w m kv' M) : r ≠ m := by
  obtain ⟨-, -, _, _, _, _, h, -⟩ := h
  obtain ⟨c, hm, -⟩ := hm
  intro e
  rw [e, hm] at h
  cases h
theorem Rng.notBlk {w : World} {r b : Nat} {kv : κ → Value} {L F : List (κ × Value × Nat)} (h : Rng w r b kv L F) (cs : List Value) (t : TypeId) : ¬ Blk w r cs t := by
  obtain ⟨-, -, _, _, _, _, h, -⟩ := h
  intro hb
  unfold Blk at hb
  rw [h] at hb
  cases hb

theorem toE_born (kv : κ → Value) (L : List (κ × Value × Nat)) : (L.map (toE kv)).map (·.born) = L.map (·.2.2) := by
  rw [List.map_map]; rfl

theorem run_range_mp {t kt et : TypeId} {kv : κ → Value} (hu : P.underlying t = some (.map kt et)) {w : World} {b : Nat} {L : List (κ × Value × Nat)} (h : Mp w b kv L) :
    ∃ w', (Instr.range t (.map (some b))).run P w = .ok (.pointer (some ⟨w.heap.size, 0, none⟩)) w' ∧ Rng w' w.heap.size b kv L L ∧ Upd [] w w' := by
  have hlt := h.lt
  have h0 := h
  obtain ⟨c, hb, hn, hc, hd⟩ := h
  refine ⟨_, run_range_map w t kt et b _ c hu hb, ⟨h0.upd ((Upd.refl [] w).alloc _) (by simp), by omega, c, #[], c, c, (MapKept.heap_alloc w _).1, ((MapKept.heap_alloc w _).2 b hlt).trans hb, hc, Nat.le_refl _, Nat.le_refl _, ?_⟩, (Upd.refl [] w).alloc _⟩
  rw [List.filter_eq_self.2]
  simp

theorem setBlock_upd (w : World) (r : Nat) (o : Obj) : Upd [r] w (setBlock w r o) := Upd.obj w r o

theorem run_next_mp {kv : κ → Value} {w : World} {r b : Nat} {L F : List (κ × Value × Nat)} (h : Rng w r b kv L F) :
    (F = [] ∧ ∀ ty, (Instr.next (.pointer (some ⟨r, 0, none⟩)) false ty).run P w = .ok (.tuple #[.bool false]) w) ∨
    ∃ x w', x ∈ F ∧ (∀ ty, (Instr.next (.pointer (some ⟨r, 0, none⟩)) false ty).run P w = .ok (.tuple #[.bool true, kv x.1, x.2.1]) w') ∧ Rng w' r b kv L (F.filter fun y => decide (y.1 ≠ x.1)) ∧ Upd [r] w w' ∧
      (Instr.entry (.pointer (some ⟨r, 0, none⟩))).run P w' = .ok (.tuple #[kv x.1, x.2.1]) w' := by
  have hlt := h.lt
  obtain ⟨hm, hne, since, seen, c0, clock, k1, k2, k3, k4, k5, rfl⟩ := h
  have hm0 := hm
  obtain ⟨c, hb, hn, hc, hd⟩ := hm
  have hl : (leftOf (L.map (toE kv)).toArray seen).toList = (L.filter fun x => !seen.contains x.2.2).map (toE kv) := by
    unfold leftOf
    simp only [Array.toList_filter, List.filter_map]
    rfl
  rcases run_next_at (P := P) w 0 r b since c0 seen (L.map (toE kv)).toArray clock k1 k2 (by
      intro x hx
      simp only [List.mem_map] at hx
      obtain ⟨y, hy, rfl⟩ := hx
      exact k3 y hy) k4 with ⟨h0, hrun⟩ | ⟨e, he, w1, hal, hrun⟩
  · left
    refine ⟨?_, fun _ => hrun⟩
    have : ((L.filter fun x => !seen.contains x.2.2).map (toE kv)).length = 0 := by rw [← hl]; simpa using h0
    simpa using this
  · right
    rw [hl] at he
    obtain ⟨x, hx, rfl⟩ := List.mem_map.1 he
    have hxL := (List.mem_filter.1 hx).1
    have u1 : Upd [] w w1 := by
      rcases hal with rfl | rfl
      · exact Upd.refl _ _
      · exact (Upd.refl [] w).drew
    have u2 : Upd [r] w (setBlock w1 r (.mapIter (some b) since (seen.push x.2.2) clock)) := (u1.mono (by simp)).trans (setBlock_upd _ _ _) (by simp)
    have hb' : (setBlock w1 r (.mapIter (some b) since (seen.push x.2.2) clock)).heap[b]? = some (.map (L.map (toE kv)).toArray clock) := (u2.block b hm0.lt (by simp; exact fun e => hne e.symm)).trans k2
    have hr' : (setBlock w1 r (.mapIter (some b) since (seen.push x.2.2) clock)).heap[r]? = some (.mapIter (some b) since (seen.push x.2.2) clock) := by
      have : r < w1.heap.size := by have := u1.size; omega
      exact heap_set_same w1 r _ this
    refine ⟨x, _, hx, fun _ => hrun, ⟨hm0.upd u2 (by simp; exact fun e => hne e.symm), hne, since, seen.push x.2.2, clock, clock, hr', hb', k3, k5, k5, ?_⟩, u2, ?_⟩
    · rw [List.filter_filter]
      apply List.filter_congr
      intro y hy
      have h1 : (y.1 = x.1) ↔ (y.2.2 = x.2.2) := by
        obtain ⟨i, hi⟩ := List.getElem?_of_mem hy
        obtain ⟨j, hj⟩ := List.getElem?_of_mem hxL
        have l1 := (List.getElem?_eq_some_iff.1 hi).1
        constructor
        · intro e
          have : i = j := (List.getElem?_inj (by simpa using l1) hn).1 (by rw [List.getElem?_map, List.getElem?_map, hi, hj]; simp [e])
          subst this
          rw [hi] at hj
          cases hj
          rfl
        · intro e
          have : i = j := (List.getElem?_inj (by simpa using l1) hd).1 (by rw [List.getElem?_map, List.getElem?_map, hi, hj]; simp [e])
          subst this
          rw [hi] at hj
          cases hj
          rfl
      rw [Array.contains_push]
      by_cases e : y.2.2 = x.2.2
      · simp [e, h1.2 e]
      · have e' : ¬ y.1 = x.1 := fun q => e (h1.1 q)
        have e2 : (y.2.2 == x.2.2) = false := by simpa using e
        have e3 : (x.2.2 == y.2.2) = false := by simpa using fun q => e q.symm
        simp [e', e2, e3]
    · exact run_entry_at _ r b since seen (L.map (toE kv)).toArray clock (toE kv x) hr' hb' (by simp; exact ⟨x.1, x.2.1, x.2.2, hxL, rfl⟩) (by
        show ((L.map (toE kv)).map (·.born)).Nodup
        rw [toE_born]; exact hd)

theorem wpList_range_mp {ops : Array Oper} {rest : List Oper} {o : Oper} {a : Act} {w : World} {Q : Exit → Act → World → Prop} {kt et : TypeId} {kv : κ → Value} (hgd : o.guard = none) (t : TypeId) (m : Operand) (ho : o.op = .range t m)
    (hu : P.underlying t = some (.map kt et)) {b : Nat} {L : List (κ × Value × Nat)} (h : Mp w b kv L) (hm : a.eval m = .map (some b))
    (hK : ∀ w', Rng w' w.heap.size b kv L L → Upd [] w w' → wpList P ops Q rest (a.put o.dst (.pointer (some ⟨w.heap.size, 0, none⟩))) w') : wpList P ops Q (o :: rest) a w := by
  refine wpList_plain hgd fun K' hK' => ?_
  obtain ⟨w', hr, h1, h2⟩ := run_range_mp (P := P) hu h
  unfold Oper.wp execOp
  simp only [ho, hm, hr, Sem.run_bind, Sem.run_pure, Result.andThen_ok]
  exact hK' _ _ (hK w' h1 h2)

theorem wpList_next_mp {ops : Array Oper} {rest : List Oper} {o : Oper} {a : Act} {w : World} {Q : Exit → Act → World → Prop} {kv : κ → Value} (hgd : o.guard = none) (it : Operand) (ho : o.op = .next it false)
    {r b : Nat} {L F : List (κ × Value × Nat)} (h : Rng w r b kv L F) (hit : a.eval it = .pointer (some ⟨r, 0, none⟩))
    (hDone : F = [] → wpList P ops Q rest (a.put o.dst (.tuple #[.bool false])) w)
    (hMore : ∀ x w', x ∈ F → Rng w' r b kv L (F.filter fun y => decide (y.1 ≠ x.1)) → Upd [r] w w' → (Instr.entry (.pointer (some ⟨r, 0, none⟩))).run P w' = .ok (.tuple #[kv x.1, x.2.1]) w' →
      wpList P ops Q rest (a.put o.dst (.tuple #[.bool true, kv x.1, x.2.1])) w') : wpList P ops Q (o :: rest) a w := by
  refine wpList_plain hgd fun K' hK' => ?_
  unfold Oper.wp execOp
  rcases run_next_mp (P := P) h with ⟨h0, hr⟩ | ⟨x, w', hx, hr, h1, h2, h3⟩
  · simp only [ho, hit, hr, Sem.run_bind, Sem.run_pure, Result.andThen_ok]
    exact hK' _ _ (hDone h0)
  · simp only [ho, hit, hr, Sem.run_bind, Sem.run_pure, Result.andThen_ok]
    exact hK' _ _ (hMore x w' hx h1 h2 h3)

theorem run_len_mp {t kt et ty : TypeId} {kv : κ → Value} (hu : P.underlying t = some (.map kt et)) {w : World} {r : Nat} {L : List (κ × Value × Nat)} (h : Mp w r kv L) :
    (Builtin.len_ #[t] ty #[.map (some r)]).run P w = .ok (.int .i64 L.length) w := by
  obtain ⟨c, hb, -⟩ := h
  simp [Builtin.len_, run_underlying hu, MapKept.run_getObj_map hb, goInt]
theorem filter_short {L : List (κ × Value × Nat)} {x : κ × Value × Nat} (h : x ∈ L) : (L.filter fun y => decide (y.1 ≠ x.1)).length < L.length := by
  apply List.length_filter_lt_length_iff_exists.2
  exact ⟨x, h, by simp⟩
theorem mem_short {L : List (κ × Value × Nat)} (hn : (L.map (·.1)).Nodup) {k : κ} {x : κ × Value × Nat} (F : List (κ × Value × Nat)) : k ∈ (F.filter fun y => decide (y.1 ≠ x.1)).map (·.1) ↔ k ∈ F.map (·.1) ∧ k ≠ x.1 := by
  simp only [List.mem_map, List.mem_filter, decide_eq_true_eq]
  constructor
  · rintro ⟨y, ⟨h1, h2⟩, rfl⟩; exact ⟨⟨y, h1, rfl⟩, h2⟩
  · rintro ⟨⟨y, h1, rfl⟩, h2⟩; exact ⟨y, ⟨h1, h2⟩, rfl⟩
end
end Go.Proofs.YtndlbkiogagnaaaGreatDoor
