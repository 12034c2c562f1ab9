/- Judge: the laws' fit; light. -/
import Derived.Test.YtbdiejlodedelaaJ6
import Derived.Test.YtbdiejlodedelaaFlat
namespace Go.Proofs.Ytbdiejlodedelaa
set_option linter.unusedSimpArgs false
set_option linter.unusedVariables false
set_option linter.unnecessarySimpa false
open Go.RowKit BigFrame

def Op.zero : Op := ⟨0, 0, 0, ⟨#[]⟩, ⟨#[]⟩, false⟩
def opsOf (l : List Op) : Nat → Op := fun i => l.getD i Op.zero
theorem cells_at : ∀ (l : List Op) (i j : Nat), i < l.length → j < 6 → (l.flatMap Op.cells)[i * 6 + j]? = (opsOf l i).cells[j]?
  | [], i, j, hi, _ => by simp at hi
  | o :: l, 0, j, _, hj => by
    rw [List.flatMap_cons, List.getElem?_append_left (by simp [Op.cells]; omega)]
    simp [opsOf]
  | o :: l, i + 1, j, hi, hj => by
    rw [List.flatMap_cons, List.getElem?_append_right (by simp [Op.cells]; omega)]
    have := cells_at l i j (by simpa using hi) hj
    rw [show (i + 1) * 6 + j - o.cells.length = i * 6 + j by simp [Op.cells]; omega, this]
    simp [opsOf]
theorem cells_len (l : List Op) : (l.flatMap Op.cells).length = l.length * 6 := by
  induction l with
  | nil => rfl
  | cons o l ih => rw [List.flatMap_cons, List.length_append, ih, List.length_cons]; simp [Op.cells]; omega
theorem Rd.of_sl {w : World} {a : Option Addr} {n cap : Nat} {l : List Op} (h : Sl w 31 6 (.slice a n cap) n (l.flatMap Op.cells)) : Rd w a n (opsOf l) := by
  intro h0
  have hl := h.1
  rw [cells_len] at hl
  have h' := h
  obtain ⟨g, o, c, he, h2, h3, h4⟩ := h.some h0
  simp only [Value.slice.injEq] at he
  obtain ⟨rfl, -, rfl⟩ := he
  have hg := h'.lt g (by simp [ownB])
  refine ⟨g, o, rfl, hg, fun i hi j hj => ?_⟩
  rw [h4 (i * 6 + j) (by omega)]
  exact cells_at l i j (by omega) hj
theorem Rd.of_blk {w : World} {b : Nat} {l : List Op} (h : Blk w b (l.flatMap Op.cells) 31) (hl : l.length ≤ maxLen) : Rd w (some ⟨b, 0, none⟩) l.length (opsOf l) :=
  Rd.of_sl (cap := l.length) (h.sl 6 l.length (cells_len l) hl)

/-- Ops that came in. -/
theorem leaf_op {w : World} {vs : List Value} (h : Leaf.oks w [.int .i64, .int .i64, .int .i64, .str, .str, .bool] vs) : ∃ o : Op, vs = o.cells ∧ o.key.size ≤ 140737488351232 ∧ o.val.size ≤ 140737488351232 ∧ (Lit.int .i64 o.kind).wf = true := by
  simp only [Leaf.oks, Leaf.ok] at h
  obtain ⟨_, _, rfl, ⟨k, rfl, hk⟩, _, _, rfl, ⟨b, rfl, -⟩, _, _, rfl, ⟨e, rfl, -⟩, _, _, rfl, ⟨s, rfl, h1⟩, _, _, rfl, ⟨u, rfl, h2⟩, _, _, rfl, ⟨th, rfl⟩, rfl⟩ := h
  exact ⟨⟨k, b, e, s, u, th⟩, rfl, h1, h2, hk⟩
theorem leaf_rd {w : World} {a : Option Addr} {n cap : Nat} (h : Leaf.ok w (.sl [.int .i64, .int .i64, .int .i64, .str, .str, .bool]) (.slice a n cap)) :
    ∃ O : Nat → Op, Rd w a n O ∧ (∀ i, i < n → (O i).key.size ≤ 140737488351232 ∧ (O i).val.size ≤ 140737488351232) ∧ n ≤ maxLen ∧ ∀ i, i < n → (Lit.int .i64 (O i).kind).wf = true := by
  by_cases h0 : 0 < n
  · obtain ⟨b, off, V, rfl, hb, hm, hV⟩ := Leaf.open h h0 (by simp)
    have hx : ∀ i : Nat, ∃ o : Op, i < n → V i = o.cells ∧ o.key.size ≤ 140737488351232 ∧ o.val.size ≤ 140737488351232 ∧ (Lit.int .i64 o.kind).wf = true := by
      intro i
      by_cases hi : i < n
      · obtain ⟨o, ho⟩ := leaf_op (hV i hi).1
        exact ⟨o, fun _ => ho⟩
      · exact ⟨Op.zero, fun h => absurd h hi⟩
    obtain ⟨O, hO⟩ := Classical.axiomOfChoice hx
    refine ⟨O, fun _ => ⟨b, off, rfl, hb, fun i hi j hj => ?_⟩, fun i hi => ⟨(hO i hi).2.1, (hO i hi).2.2.1⟩, hm, fun i hi => (hO i hi).2.2.2⟩
    rw [← (hO i hi).1]
    exact (hV i hi).2 j (by simpa using hj)
  · obtain rfl : n = 0 := by omega
    exact ⟨fun _ => Op.zero, fun h => absurd h h0, by omega, by unfold maxLen; omega, by omega⟩

def oa : ByteArray := ⟨#[97]⟩
def ov : ByteArray := ⟨#[118]⟩
def fit1 : List Op := [⟨0, 1, 2, oa, ov, true⟩, ⟨1, 3, 4, oa, ov, false⟩]
def fit2 : List Op := [⟨0, 1, 3, oa, ov, true⟩, ⟨1, 3, 4, oa, ov, false⟩]
theorem fit1_no : ordRes (opsOf fit1) 2 = none := by decide +kernel
theorem fit2_yes : ordRes (opsOf fit2) 2 = some [1, 0] := by decide +kernel

set_option maxHeartbeats 2000000 in
theorem fit_ok (w : World) : Calls Try.prog 7 #[] w fun e w' => e = .returned (.bool true) ∧ Upd [] w w' := by
  go_enter Try.func7, Try.ntmps7
  go_wp2_with fail
  have b1 := Blk.new w (fit1.flatMap Op.cells) 31 _ rfl
  have R1 := Hd.mk (Rd.of_blk b1 (by decide))
  clear b1
  refine (order_ok (some ⟨w.heap.size, 0, none⟩) 2 2 (opsOf fit1) _ R1.out (by decide)).mono ?_
  rintro e w1 (⟨l, v, h, -⟩ | ⟨-, rfl, u1⟩)
  · rw [fit1_no] at h; cases h
  have U1 := Hd.mk (((Upd.refl [] w).alloc _).trans u1 (by simp))
  clear u1 R1
  go_wp2_with fail
  have b1 := Blk.new w1 (fit2.flatMap Op.cells) 31 _ rfl
  have R1 := Hd.mk (Rd.of_blk b1 (by decide))
  clear b1
  refine (order_ok (some ⟨w1.heap.size, 0, none⟩) 2 2 (opsOf fit2) _ R1.out (by decide)).mono ?_
  rintro e w2 (⟨l, v, h, rfl, hb⟩ | ⟨h, -⟩)
  rotate_left
  · rw [fit2_yes] at h; cases h
  rw [fit2_yes] at h
  simp only [Option.some.injEq] at h
  subst h
  obtain ⟨g, o, c, rfl, -, -, h4⟩ := hb.sl.some (by decide)
  have c0 := h4 0 (by decide)
  have U2 := Hd.mk ((U1.out.trans ((Upd.refl [] w1).alloc _) (by simp)).trans hb.upd (by simp))
  simp [nums] at c0
  clear h4 hb R1
  go_wp2_with fail
  go_ret
  exact ⟨rfl, U2.out⟩

def lightB (O : Nat → Op) (n : Nat) : Bool := (List.range n).all (fun i => decide ((O i).key.size + (O i).val.size ≤ 100)) && decide (n ≤ 20)
theorem light_no {O : Nat → Op} {n i : Nat} (hi : i < n) (h : 100 < (O i).key.size + (O i).val.size) : lightB O n = false := by
  unfold lightB
  rw [show (List.range n).all (fun i => decide ((O i).key.size + (O i).val.size ≤ 100)) = false by rw [List.all_eq_false]; exact ⟨i, by simpa using hi, by simp; omega⟩]
  rfl
theorem light_yes {O : Nat → Op} {n : Nat} (h : ∀ i, i < n → (O i).key.size + (O i).val.size ≤ 100) : lightB O n = decide (n ≤ 20) := by
  unfold lightB
  rw [show (List.range n).all (fun i => decide ((O i).key.size + (O i).val.size ≤ 100)) = true by rw [List.all_eq_true]; intro i hi; simpa using h i (by simpa using hi)]
  rfl
def Short (O : Nat → Op) (n : Nat) : Prop := ∀ i, i < n → (O i).key.size ≤ 140737488351232 ∧ (O i).val.size ≤ 140737488351232

set_option maxHeartbeats 1000000 in
theorem light_ok (a : Option Addr) (n cap : Nat) (O : Nat → Op) (w : World) (h : Rd w a n O) (hn : n ≤ maxLen) (hsh : Short O n) :
    Calls Try.prog 8 #[.slice a n cap] w fun e w' => e = .returned (.bool (lightB O n)) ∧ Upd [] w w' := by
  unfold maxLen at hn
  unfold Short at hsh
  have HR := Hd.mk h
  have HSH := Hd.mk hsh
  clear h hsh
  go_enter Try.func8, Try.ntmps8
  go_wp2
  go_loopg [7] n (fun g ii wr => ∃ i : Nat, ii = .int .i64 i ∧ g + i = n ∧ Upd [] w wr ∧ Hd (∀ j, j < i → (O j).key.size + (O j).val.size ≤ 100))
  case atStart => exact ⟨0, rfl, by omega, Upd.refl _ _, Hd.mk (by omega)⟩
  case round =>
    obtain ⟨i, rfl, hg, u, HOK⟩ := hrel
    by_cases hlt : i < n
    · obtain ⟨b, off, rfl, hb, c0, c1, c2, c3, c4, c5⟩ := (HR.out.upd u).at i hlt
      have HU := Hd.mk u
      have HG := Hd.mk hg
      clear u hg
      go_upto_region 4 with (fail)
      refine wp_abs (fun W => Upd [] w W ∧ Blk W wr.heap.size (O i).cells 31) ⟨HU.out.alloc _, Blk.new wr (O i).cells 31 _ rfl⟩ ?_
      rintro w5 ⟨u5, tb⟩
      clear c0 c1 c2 c3 c4 c5
      have c0 := tb.cell 0
      have c1 := tb.cell 1
      have c2 := tb.cell 2
      have c3 := tb.cell 3
      have c4 := tb.cell 4
      have c5 := tb.cell 5
      simp only [Op.cells, List.getElem?_cons_zero, List.getElem?_cons_succ] at c0 c1 c2 c3 c4 c5
      generalize wr.heap.size = cb at *
      obtain ⟨s1, s2⟩ := HSH.out i hlt
      by_cases h0 : 100 < (O i).key.size + (O i).val.size
      · have hf := Hd.mk (light_no hlt h0)
        have d0 : decide ((100 : Int) < ((O i).key.size : Int) + (O i).val.size) = true := by simp; omega
        go_wp2
        go_ret
        exact ⟨rb hf.out.symm, u5⟩
      · have d0 : decide ((100 : Int) < ((O i).key.size : Int) + (O i).val.size) = false := by simp; omega
        have HN := Hd.mk (show ∀ j, j < i + 1 → (O j).key.size + (O j).val.size ≤ 100 from fun j hj => by
          by_cases e : j = i
          · subst e; omega
          · exact HOK.out j (by omega))
        go_wp2
        go_roundg (gk - 1)
        case measure => have := HG.out; omega
        case rel => exact ⟨i + 1, by go_num, by have := HG.out; omega, u5, HN⟩
    · obtain rfl : i = n := by omega
      have hf := Hd.mk (light_yes HOK.out)
      clear hlt
      go_wp2
      go_ret
      exact ⟨by rw [hf.out]; simp; norm_cast, u⟩
end Go.Proofs.Ytbdiejlodedelaa
