/- Store: calls that came in; light. -/
import Derived.Test.YtncahmodmgbacaaDoorS12

namespace Go.Proofs.YtncahmodmgbacaaDoor
set_option linter.unusedSimpArgs false
set_option linter.unusedVariables false
set_option linter.unnecessarySimpa false
open Go.RowKit BigFrame

structure Cl where
  kind : Int
  owner : Int
  shard : Int
  key : ByteArray
  val : ByteArray
  tag : Int
def Cl.cells (c : Cl) : List Value := [.int .i64 c.kind, .int .i64 c.owner, .int .i64 c.shard, .string c.key, .string c.val, .int .i64 c.tag]
def Cl.zero : Cl := ⟨0, 0, 0, ⟨#[]⟩, ⟨#[]⟩, 0⟩
def Rdc (w : World) (a : Option Addr) (n : Nat) (C : Nat → Cl) : Prop :=
  0 < n → ∃ b off, a = some ⟨b, off, none⟩ ∧ b < w.heap.size ∧ ∀ i, i < n → ∀ j, j < 6 → w.cell? ⟨b, off + (i * 6 + j), none⟩ = (C i).cells[j]?
theorem Rdc.upd {w w' : World} {a : Option Addr} {n : Nat} {C : Nat → Cl} (h : Rdc w a n C) (hu : Upd [] w w') : Rdc w' a n C := by
  intro h0
  obtain ⟨b, off, rfl, hb, hc⟩ := h h0
  exact ⟨b, off, rfl, Nat.lt_of_lt_of_le hb hu.size, fun i hi j hj => by rw [hu.cell (p := ⟨b, off + (i * 6 + j), none⟩) hb (by simp)]; exact hc i hi j hj⟩
theorem Rdc.at {w : World} {a : Option Addr} {n : Nat} {C : Nat → Cl} (h : Rdc w a n C) {i : Nat} (hi : i < n) : ∃ b off, a = some ⟨b, off, none⟩ ∧ b < w.heap.size ∧
    w.cell? ⟨b, off + i * 6, none⟩ = some (.int .i64 (C i).kind) ∧ w.cell? ⟨b, off + i * 6 + 1, none⟩ = some (.int .i64 (C i).owner) ∧ w.cell? ⟨b, off + i * 6 + 2, none⟩ = some (.int .i64 (C i).shard) ∧
    w.cell? ⟨b, off + i * 6 + 3, none⟩ = some (.string (C i).key) ∧ w.cell? ⟨b, off + i * 6 + 4, none⟩ = some (.string (C i).val) ∧ w.cell? ⟨b, off + i * 6 + 5, none⟩ = some (.int .i64 (C i).tag) := by
  obtain ⟨b, off, rfl, hb, hc⟩ := h (by omega)
  exact ⟨b, off, rfl, hb, hc i hi 0 (by omega), hc i hi 1 (by omega), hc i hi 2 (by omega), hc i hi 3 (by omega), hc i hi 4 (by omega), hc i hi 5 (by omega)⟩
theorem leaf_cl {w : World} {vs : List Value} (h : Leaf.oks w [.int .i64, .int .i64, .int .i64, .str, .str, .int .i64] vs) : ∃ c : Cl, vs = c.cells ∧ c.key.size ≤ 140737488351232 ∧ c.val.size ≤ 140737488351232 ∧ (Lit.int .i64 c.kind).wf = true ∧ (Lit.int .i64 c.shard).wf = true := by
  simp only [Leaf.oks, Leaf.ok] at h
  obtain ⟨_, _, rfl, ⟨k, rfl, hk⟩, _, _, rfl, ⟨b, rfl, -⟩, _, _, rfl, ⟨e, rfl, he⟩, _, _, rfl, ⟨s, rfl, h1⟩, _, _, rfl, ⟨u, rfl, h2⟩, _, _, rfl, ⟨t, rfl, -⟩, rfl⟩ := h
  exact ⟨⟨k, b, e, s, u, t⟩, rfl, h1, h2, hk, he⟩
def Shortc (C : Nat → Cl) (n : Nat) : Prop := ∀ i, i < n → (C i).key.size ≤ 140737488351232 ∧ (C i).val.size ≤ 140737488351232 ∧ (Lit.int .i64 (C i).kind).wf = true ∧ (Lit.int .i64 (C i).shard).wf = true
theorem leaf_rdc {w : World} {a : Option Addr} {n cap : Nat} (h : Leaf.ok w (.sl [.int .i64, .int .i64, .int .i64, .str, .str, .int .i64]) (.slice a n cap)) :
    ∃ C : Nat → Cl, Rdc w a n C ∧ Shortc C n ∧ n ≤ 140737488351232 := by
  have hn : n ≤ 140737488351232 := by
    simp only [Leaf.ok] at h
    obtain ⟨_, _, _, _, e, -, -, hz, -⟩ := h
    simp only [Value.slice.injEq] at e
    omega
  by_cases h0 : 0 < n
  · obtain ⟨b, off, V, rfl, hb, hm, hV⟩ := Leaf.open h h0 (by simp)
    have hx : ∀ i : Nat, ∃ c : Cl, i < n → V i = c.cells ∧ c.key.size ≤ 140737488351232 ∧ c.val.size ≤ 140737488351232 ∧ (Lit.int .i64 c.kind).wf = true ∧ (Lit.int .i64 c.shard).wf = true := by
      intro i
      by_cases hi : i < n
      · obtain ⟨o, ho⟩ := leaf_cl (hV i hi).1
        exact ⟨o, fun _ => ho⟩
      · exact ⟨Cl.zero, fun h => absurd h hi⟩
    obtain ⟨C, hC⟩ := Classical.axiomOfChoice hx
    refine ⟨C, fun _ => ⟨b, off, rfl, hb, fun i hi j hj => ?_⟩, fun i hi => (hC i hi).2, hn⟩
    rw [← (hC i hi).1]
    exact (hV i hi).2 j (by simpa using hj)
  · obtain rfl : n = 0 := by omega
    exact ⟨fun _ => Cl.zero, fun h => absurd h h0, fun i hi => by omega, hn⟩
/-- What light tells. -/
def LightQ (C : Nat → Cl) (n : Nat) (w : World) (e : Ending) (w' : World) : Prop := ∃ b, e = .returned (.bool b) ∧ (b = true → n ≤ 200 ∧ ∀ i, i < n → (C i).key.size + (C i).val.size ≤ 300) ∧ Upd [] w w'
set_option maxHeartbeats 1000000 in
theorem light_ok (a : Option Addr) (n cap : Nat) (C : Nat → Cl) (w : World) (h : Rdc w a n C) (hn : n ≤ 140737488351232) (hsh : Shortc C n) :
    Calls Tryd.prog 21 #[.slice a n cap] w (LightQ C n w) := by
  unfold Shortc at hsh
  have HR := Hd.mk h
  have HSH := Hd.mk hsh
  clear h hsh
  by_cases hl : 200 < n
  · have hl2 : (200 : Int) < n := by omega
    go_enter Tryd.func21, Tryd.ntmps21
    go_wp2_with fail
    go_ret
    exact ⟨false, rfl, by simp, Upd.refl _ _⟩
  have hl2 : ¬ (200 : Int) < n := by omega
  go_enter Tryd.func21, Tryd.ntmps21
  go_wp2_with fail
  go_loopg [4, 10] n (fun g s4 ii wr => ∃ i : Nat, ii = .int .i64 i ∧ g + i = n ∧ Hd (Upd [] w wr) ∧ Hd (∀ j, j < i → (C j).key.size + (C j).val.size ≤ 300))
  case atStart => exact ⟨0, rfl, by omega, Hd.mk (Upd.refl _ _), Hd.mk (by omega)⟩
  case round =>
    obtain ⟨i, rfl, hg, HU, HOK⟩ := hrel
    by_cases hlt : i < n
    · obtain ⟨b, off, rfl, hb, c0, c1, c2, c3, c4, c5⟩ := (HR.out.upd HU.out).at hlt
      have HG := Hd.mk hg
      clear hg
      go_upto_region 6 with (fail)
      refine wp_abs (fun W => Upd [] w W ∧ Blk W wr.heap.size (C i).cells 52) ⟨HU.out.alloc _, Blk.new wr (C i).cells 52 _ rfl⟩ ?_
      rintro w5 ⟨u5, tb⟩
      clear c0 c1 c2 c3 c4 c5 HU
      have HU := Hd.mk u5
      clear u5
      have c0 := tb.cell 0
      have c1 := tb.cell 1
      have c2 := tb.cell 2
      have c3 := tb.cell 3
      have c4 := tb.cell 4
      have c5 := tb.cell 5
      simp only [Cl.cells, List.getElem?_cons_zero, List.getElem?_cons_succ] at c0 c1 c2 c3 c4 c5
      clear tb hb
      generalize wr.heap.size = cb at *
      obtain ⟨s1, s2, -⟩ := HSH.out i hlt
      have HLT := Hd.mk hlt
      by_cases h0 : 300 < (C i).key.size + (C i).val.size
      · have d0 : decide ((300 : Int) < ((C i).key.size : Int) + (C i).val.size) = true := by simp; omega
        go_wp2_with fail
        go_ret
        exact ⟨false, rfl, by simp, HU.out⟩
      · have d0 : decide ((300 : Int) < ((C i).key.size : Int) + (C i).val.size) = false := by simp; omega
        have HN := Hd.mk (show ∀ j, j < i + 1 → (C j).key.size + (C j).val.size ≤ 300 from fun j hj => by
          by_cases e : j = i
          · subst e; omega
          · exact HOK.out j (by omega))
        go_wp2_with fail
        go_roundg (gk - 1)
        case measure => have := HG.out; omega
        case rel => exact ⟨i + 1, by go_num, by have := HG.out; omega, HU, HN⟩
    · obtain rfl : i = n := by omega
      clear hlt
      go_wp2_with fail
      go_ret
      exact ⟨true, rfl, fun _ => ⟨by omega, HOK.out⟩, HU.out⟩
end Go.Proofs.YtncahmodmgbacaaDoor
