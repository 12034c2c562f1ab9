/- Tries: matches and routes, as the laws over Some use them. -/
import Derived.Test.YtiombjmkaejjfaaDoorV31
import Derived.Test.YtiombjmkaejjfaaDoorV33
namespace Go.Proofs.YtiombjmkaejjfaaDoor
set_option linter.unusedSimpArgs false
set_option linter.unusedVariables false
set_option linter.unnecessarySimpa false
open Go.RowKit BigFrame

theorem mt_len (L : List Rt) (hr : ∀ r ∈ L, Rgt r) (hk : L.length ≤ 100) (mth : Bs) (l : List Bs) (hn : l.length ≤ 12) : (mtL L mth l).1.P.length ≤ 1000000 ∧ (mtL L mth l).1.A.length ≤ 1000000 := by
  unfold mtL
  cases hq : (flatL L l).find? (byM mth) with
  | some r =>
    have h1 := flatL_mem (List.mem_of_find?_eq_some hq)
    have h2 := cands_len l _ h1.2
    have h3 : (segsL r.p).length ≤ l.length := by simpa [shp] using h2
    have h4 := parI_le (segsL r.p) l (segsL r.p).length
    refine ⟨?_, by simp⟩
    show (parI (segsL r.p) l (segsL r.p).length).length ≤ _
    omega
  | none =>
    refine ⟨by simp, ?_⟩
    show (sortL (dm (flatL L l) [])).length ≤ _
    rw [sortL_len]
    have h3 := dm_len (flatL L l) []
    have h4 := flatL_len L l
    have h5 := cands_count l
    have h6 : 2 ^ (l.length + 1) ≤ 2 ^ 13 := Nat.pow_le_pow_right (by omega) (by omega)
    have h7 : (cands l).length ≤ 8191 := by omega
    have h8 : (cands l).length * L.length ≤ 8191 * 100 := Nat.mul_le_mul h7 hk
    simp only [List.length_nil] at h3
    omega
/-- What a match tells. -/
def MM (m : Mt × Bool) (w : World) (e : Ending) (w' : World) : Prop :=
  ∃ (hh : ByteArray) (pa aa : Option Addr) (pn pc an ac : Nat), e = .returned (.tuple #[.agg #[.string hh, .slice pa pn pc, .slice aa an ac], .bool m.2]) ∧ MV w' (.agg #[.string hh, .slice pa pn pc, .slice aa an ac]) m.1 ∧ Upd [] w w'
theorem tmatch (v lv : Value) (L : List Rt) (mth : ByteArray) (l : List Bs) (w : World) (ht : Tr w v L) (hl : RdS w 1 lv l.length (l.map S)) (hz : sumB l ≤ 1000 ∧ l.length ≤ 12) (hk : L.length ≤ 100) :
    Calls Tryd.prog 12 #[v, .string mth, lv] w (MM (mtL L mth.data.toList l) w) := by
  rw [show Value.string mth = S mth.data.toList from S_of rfl]
  refine (Tr.match_ v lv L mth.data.toList l w ht hl (by rw [sumL_B]; omega) hz.2 hk).mono ?_
  rintro e w' ⟨mv, rfl, hm, hu⟩
  have hm0 := hm
  obtain ⟨pv, av, rfl, ⟨pa, pc, rfl, -⟩, ⟨aa, ac, rfl, -⟩⟩ := hm
  exact ⟨_, _, _, _, _, _, _, rfl, hm0, hu⟩
theorem with_one (v : Value) (M : List Rt) (r : Rt) (b : Nat) (w : World) (ht : Tr w v M) (hb : Blk w b r.cells 26) (hr : Rgt r) (hk : M.length ≤ 100) :
    Calls Tryd.prog 11 #[v, .slice (some ⟨b, 0, none⟩) 1 1] w fun e w' => ∃ b, e = .returned (.pointer (some ⟨b, 0, none⟩)) ∧ Tr w' (.pointer (some ⟨b, 0, none⟩)) (M ++ [r]) ∧ Upd [] w w' := by
  have hsl : Sl w 26 3 (.slice (some ⟨b, 0, none⟩) 1 1) [r].length ([r].flatMap Rt.cells) := by
    have h1 := hb.sl 3 1 rfl (by decide)
    rw [show [r].flatMap Rt.cells = r.cells by simp]
    exact h1
  exact Tr.with_ v _ M [r] w ht hsl (fun x hx => by rw [List.mem_singleton] at hx; subst hx; exact hr) (by simp; omega)
/-- A route's three texts. -/
theorem route_parts (r : Rt) : ∃ m p h : ByteArray, r.cells = [.string m, .string p, .string h] := ⟨⟨r.m.toArray⟩, ⟨r.p.toArray⟩, ⟨r.h.toArray⟩, rfl⟩
theorem route_at {w : World} {L : List Rt} {g o cap : Nat} (h : Sl w 26 3 (.slice (some ⟨g, o, none⟩) L.length cap) L.length (L.flatMap Rt.cells)) (k : Nat) (hk : k < L.length) {m p hh : ByteArray} (hr : (L[k]).cells = [.string m, .string p, .string hh]) :
    w.cell? ⟨g, o + k * 3, none⟩ = some (.string m) ∧ w.cell? ⟨g, o + k * 3 + 1, none⟩ = some (.string p) ∧ w.cell? ⟨g, o + k * 3 + 2, none⟩ = some (.string hh) := by
  have e0 := flat_cells L k 0 hk (by omega)
  have e1 := flat_cells L k 1 hk (by omega)
  have e2 := flat_cells L k 2 hk (by omega)
  have k0 := h.cell (k * 3) (by omega)
  have k1 := h.cell (k * 3 + 1) (by omega)
  have k2 := h.cell (k * 3 + 2) (by omega)
  rw [Nat.add_zero] at e0
  rw [e0, hr] at k0
  rw [e1, hr, ← Nat.add_assoc] at k1
  rw [e2, hr, ← Nat.add_assoc] at k2
  exact ⟨k0, k1, k2⟩
end Go.Proofs.YtiombjmkaejjfaaDoor
