/- Tries: what the laws use: trees of routes, matches as plain things. -/
import Derived.Test.YtndlbkiogagnaaaGreatDoorV21
namespace Go.Proofs.YtndlbkiogagnaaaGreatDoor
set_option linter.unusedSimpArgs false
set_option linter.unusedVariables false
set_option linter.unnecessarySimpa false
open Go.RowKit BigFrame

/-- Parameters that can be read. -/
def RdP (w : World) (v : Value) (L : List (Bs × Bs)) : Prop := ∃ a c, v = .slice a L.length c ∧ (0 < L.length → ∃ b o, a = some ⟨b, o, none⟩ ∧ b < w.heap.size ∧ ∀ j (h : j < L.length), w.cell? ⟨b, o + j * 2, none⟩ = some (S L[j].1) ∧ w.cell? ⟨b, o + j * 2 + 1, none⟩ = some (S L[j].2))
theorem RdP.upd {w w' : World} {v : Value} {L : List (Bs × Bs)} (h : RdP w v L) (hu : Upd [] w w') : RdP w' v L := by
  obtain ⟨a, c, h1, h2⟩ := h
  refine ⟨a, c, h1, fun h0 => ?_⟩
  obtain ⟨b, o, h3, h4, h5⟩ := h2 h0
  exact ⟨b, o, h3, Nat.lt_of_lt_of_le h4 hu.size, fun j hj => ⟨(hu.cell (p := ⟨b, _, none⟩) h4 (by simp)).trans (h5 j hj).1, (hu.cell (p := ⟨b, _, none⟩) h4 (by simp)).trans (h5 j hj).2⟩⟩
theorem pcells_get : ∀ (L : List (Bs × Bs)) (i : Nat) (hi : i < L.length), (pcells L)[i * 2]? = some (S L[i].1) ∧ (pcells L)[i * 2 + 1]? = some (S L[i].2)
  | x :: L, 0, _ => by simp [pcells]
  | x :: L, i + 1, hi => by
    have ih := pcells_get L i (by simpa using hi)
    have h1 : (i + 1) * 2 = i * 2 + 1 + 1 := by omega
    rw [h1]
    simp only [pcells, List.flatMap_cons, List.cons_append, List.nil_append, List.getElem?_cons_succ, List.getElem_cons_succ] at ih ⊢
    exact ih
theorem Sl.rdp {w : World} {v : Value} {L : List (Bs × Bs)} (h : Sl w 94 2 v L.length (pcells L)) : RdP w v L := by
  obtain ⟨a, c, rfl⟩ := h.form
  refine ⟨a, c, rfl, fun h0 => ?_⟩
  obtain ⟨b, o, c', hv, _, _, hc⟩ := h.some h0
  simp only [Value.slice.injEq] at hv
  have hlt := h.lt b (by rw [hv.1]; simp [ownB])
  refine ⟨b, o, hv.1, hlt, fun j hj => ?_⟩
  have := pcells_get L j hj
  exact ⟨(hc (j * 2) (by omega)).trans this.1, (hc (j * 2 + 1) (by omega)).trans this.2⟩
/-- A match, plainly. -/
structure Mt where
  h : Bs
  P : List (Bs × Bs)
  A : List Bs
  deriving DecidableEq
def MV (w : World) (v : Value) (m : Mt) : Prop := ∃ pv av, v = .agg #[S m.h, pv, av] ∧ RdP w pv m.P ∧ RdL w av m.A
theorem MV.upd {w w' : World} {v : Value} {m : Mt} (h : MV w v m) (hu : Upd [] w w') : MV w' v m := by
  obtain ⟨pv, av, h1, h2, h3⟩ := h
  exact ⟨pv, av, h1, h2.upd hu, h3.upd hu⟩
/-- What a tree of these routes finds. -/
def mtL (L : List Rt) (mth : Bs) (l : List Bs) : Mt × Bool := match (flatL L l).find? (byM mth) with
  | some r => (⟨r.h, parL (segsL r.p) l, []⟩, true)
  | none => (⟨[], [], sortL (dm (flatL L l) [])⟩, false)
/-- A tree of routes. -/
def Tr (w : World) (v : Value) (L : List Rt) : Prop := (∃ n, TrV w v n L.length ∧ Has n L) ∧ ∀ r ∈ L, Rgt r
theorem Tr.upd {w w' : World} {v : Value} {L : List Rt} (h : Tr w v L) (hu : Upd [] w w') : Tr w' v L := by
  obtain ⟨⟨n, h1, h2⟩, h3⟩ := h
  exact ⟨⟨n, h1.upd hu, h2⟩, h3⟩
theorem Tr.nil (w : World) : Tr w (.pointer none) [] := ⟨⟨.nil, .inl ⟨rfl, rfl, rfl⟩, Has.nil⟩, by simp⟩
theorem Rgt.nm {r : Rt} (h : Rgt r) : Nm (shp r) := (patR_nm h.1).1
theorem Tr.with_ (v lv : Value) (M L : List Rt) (w : World) (ht : Tr w v M) (hL : Sl w 90 3 lv L.length (L.flatMap Rt.cells)) (hr : ∀ r ∈ L, Rgt r) (hz : M.length + L.length ≤ 800000) :
    Calls Tryz.prog 86 #[v, lv] w fun e w' => ∃ b, e = .returned (.pointer (some ⟨b, 0, none⟩)) ∧ Tr w' (.pointer (some ⟨b, 0, none⟩)) (M ++ L) ∧ Upd [] w w' := by
  obtain ⟨⟨n, h1, h2⟩, h3⟩ := ht
  refine (with_ok v lv n M L w h1 h2 hL hr hz).mono ?_
  rintro e w' ⟨b, he, ht', hu⟩
  exact ⟨b, he, ⟨⟨_, by rw [List.length_append]; exact ht', h2.with L fun r hr' => (hr r hr').nm⟩, fun r hr' => by
    rcases List.mem_append.1 hr' with h | h
    · exact h3 r h
    · exact hr r h⟩, hu⟩
theorem cands_count : ∀ (l : List Bs), (cands l).length ≤ 2 ^ (l.length + 1) - 1
  | [] => by simp [cands]
  | s :: l => by
    have ih := cands_count l
    have h2 : 2 ^ (l.length + 1 + 1) = 2 * 2 ^ (l.length + 1) := by rw [Nat.pow_succ]; omega
    have h0 : 0 < 2 ^ (l.length + 1) := Nat.two_pow_pos _
    rw [cands, List.length_append]
    simp only [List.length_cons, List.length_nil] at *
    rw [h2]
    split
    · simp; omega
    · simp; omega
theorem flatL_len (L : List Rt) (l : List Bs) : (flatL L l).length ≤ (cands l).length * L.length := by
  unfold flatL
  generalize cands l = C
  induction C with
  | nil => simp
  | cons c C ih =>
    rw [List.flatMap_cons, List.length_append, List.length_cons, Nat.succ_mul]
    have := List.length_filter_le (fun r => decide (shp r = c)) L
    omega
theorem flatL_mem {L : List Rt} {l : List Bs} {r : Rt} (h : r ∈ flatL L l) : r ∈ L ∧ shp r ∈ cands l := by
  unfold flatL at h
  rw [List.mem_flatMap] at h
  obtain ⟨pat, h1, h2⟩ := h
  rw [List.mem_filter, decide_eq_true_iff] at h2
  exact ⟨h2.1, by rw [h2.2]; exact h1⟩
theorem Tr.match_ (v lv : Value) (L : List Rt) (mth : Bs) (l : List Bs) (w : World) (ht : Tr w v L) (hl : RdS w 1 lv l.length (l.map S)) (hz : sumL l ≤ 4503599627370496) (hn : l.length ≤ 12) (hk : L.length ≤ 100) :
    Calls Tryz.prog 31 #[v, S mth, lv] w fun e w' => ∃ mv, e = .returned (.tuple #[mv, .bool (mtL L mth l).2]) ∧ MV w' mv (mtL L mth l).1 ∧ Upd [] w w' := by
  obtain ⟨⟨n, h1, h2⟩, h3⟩ := ht
  have hf := h2.flat l
  refine (match_ok v lv n L.length mth l w h1 h2.ok hl hz ?_ ?_).mono ?_
  · intro en he r hr
    have hm : r ∈ (visit n l).flatten := List.mem_flatten.2 ⟨en, he, hr⟩
    rw [hf] at hm
    have := flatL_mem hm
    refine ⟨h3 r this.1, ?_⟩
    have h4 := cands_len l _ this.2
    simpa [shp] using h4
  · rw [hf]
    have h4 := flatL_len L l
    have h5 := cands_count l
    have h6 : 2 ^ (l.length + 1) ≤ 2 ^ 13 := Nat.pow_le_pow_right (by omega) (by omega)
    have h7 : (cands l).length ≤ 8191 := by omega
    have h8 : (cands l).length * L.length ≤ 8191 * 100 := Nat.mul_le_mul h7 hk
    omega
  · rw [hf]
    rintro e w' (⟨r, pv, hr, rfl, hb⟩ | ⟨av, hr, rfl, hb, hu⟩)
    · unfold mtL
      rw [hr]
      exact ⟨_, rfl, ⟨pv, _, rfl, hb.sl.rdp, ⟨none, 0, rfl, fun h => absurd h (by simp)⟩⟩, hb.upd⟩
    · unfold mtL
      rw [hr]
      exact ⟨_, rfl, ⟨_, av, rfl, ⟨none, 0, rfl, fun h => absurd h (by simp)⟩, hb⟩, hu⟩
end Go.Proofs.YtndlbkiogagnaaaGreatDoor
