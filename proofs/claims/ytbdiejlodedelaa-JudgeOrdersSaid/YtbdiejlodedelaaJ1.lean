/- Judge: what Right, Step, may do. -/
import Derived.Test.YtbdiejlodedelaaRows
import Derived.Test.YtbdiejlodedelaaQt
import Derived.Test.YtbdiejlodedelaaOps
import Derived.Test.YtbdiejlodedelaaSl
import Derived.Test.YtbdiejlodedelaaRg
import Derived.Test.YtbdiejlodedelaaStr
import Derived.Test.YtbdiejlodedelaaJ0
import Derived.Test.YtbdiejlodedelaaBits
import Derived.Deep.DeepCutAuto
import Derived.Deep.RegionWith
import Derived.Deep.CutBlock
namespace Go.Proofs.Ytbdiejlodedelaa
set_option linter.unusedSimpArgs false
set_option linter.unusedVariables false
set_option linter.unnecessarySimpa false
open Go.RowKit BigFrame

def Op.cells (o : Op) : List Value := [.int .i64 o.kind, .int .i64 o.b, .int .i64 o.e, .string o.key, .string o.val, .bool o.there]
/-- A slice of ops: its cells can be read. -/
def Rd (w : World) (a : Option Addr) (n : Nat) (O : Nat → Op) : Prop :=
  0 < n → ∃ b off, a = some ⟨b, off, none⟩ ∧ b < w.heap.size ∧ ∀ i, i < n → ∀ j, j < 6 → w.cell? ⟨b, off + (i * 6 + j), none⟩ = (O i).cells[j]?
theorem Rd.upd {w w' : World} {a : Option Addr} {n : Nat} {O : Nat → Op} (h : Rd w a n O) (hu : Upd [] w w') : Rd w' a n O := by
  intro h0
  obtain ⟨b, off, rfl, hb, hc⟩ := h h0
  exact ⟨b, off, rfl, Nat.lt_of_lt_of_le hb hu.size, fun i hi j hj => by rw [hu.cell (p := ⟨b, off + (i * 6 + j), none⟩) hb (by simp)]; exact hc i hi j hj⟩
/-- One op's cells, one by one. -/
theorem Rd.at {w : World} {a : Option Addr} {n : Nat} {O : Nat → Op} (h : Rd w a n O) (i : Nat) (hi : i < n) : ∃ b off, a = some ⟨b, off, none⟩ ∧ b < w.heap.size ∧
    w.cell? ⟨b, off + i * 6, none⟩ = some (.int .i64 (O i).kind) ∧ w.cell? ⟨b, off + i * 6 + 1, none⟩ = some (.int .i64 (O i).b) ∧ w.cell? ⟨b, off + i * 6 + 2, none⟩ = some (.int .i64 (O i).e) ∧
    w.cell? ⟨b, off + i * 6 + 3, none⟩ = some (.string (O i).key) ∧ w.cell? ⟨b, off + i * 6 + 4, none⟩ = some (.string (O i).val) ∧ w.cell? ⟨b, off + i * 6 + 5, none⟩ = some (.bool (O i).there) := by
  obtain ⟨b, off, rfl, hb, hc⟩ := h (by omega)
  exact ⟨b, off, rfl, hb, hc i hi 0 (by omega), hc i hi 1 (by omega), hc i hi 2 (by omega), hc i hi 3 (by omega), hc i hi 4 (by omega), hc i hi 5 (by omega)⟩

def okOp (o : Op) : Bool := !(decide (o.kind < 0)) && !(decide (2 < o.kind)) && !(decide (o.e < o.b))
def rightB (O : Nat → Op) (n : Nat) : Bool := (List.range n).all (fun i => okOp (O i)) && decide (n ≤ 12)
theorem right_no {O : Nat → Op} {n i : Nat} (hi : i < n) (h : okOp (O i) = false) : rightB O n = false := by
  unfold rightB
  rw [show (List.range n).all (fun i => okOp (O i)) = false by rw [List.all_eq_false]; exact ⟨i, by simpa using hi, by simp [h]⟩]
  rfl
theorem right_yes {O : Nat → Op} {n : Nat} (h : ∀ i, i < n → okOp (O i) = true) : rightB O n = decide (n ≤ 12) := by
  unfold rightB
  rw [show (List.range n).all (fun i => okOp (O i)) = true by rw [List.all_eq_true]; intro i hi; exact h i (by simpa using hi)]
  rfl

set_option maxHeartbeats 1000000 in
theorem right_ok (a : Option Addr) (n cap : Nat) (O : Nat → Op) (w : World) (h : Rd w a n O) (hn : n ≤ maxLen) :
    Calls Try.prog 10 #[.slice a n cap] w fun e w' => e = .returned (.bool (rightB O n)) ∧ Upd [] w w' := by
  unfold maxLen at hn
  have HR := Hd.mk h
  clear h
  go_enter Try.func10, Try.ntmps10
  go_wp2
  go_loopg [7] n (fun g ii wr => ∃ i : Nat, ii = .int .i64 i ∧ g + i = n ∧ Upd [] w wr ∧ Hd (∀ j, j < i → okOp (O j) = true))
  case atStart => exact ⟨0, rfl, by omega, Upd.refl _ _, Hd.mk (by omega)⟩
  case round =>
    obtain ⟨i, rfl, hg, u, HOK⟩ := hrel
    by_cases hlt : i < n
    · obtain ⟨b, off, rfl, hb, c0, c1, c2, c3, c4, c5⟩ := (HR.out.upd u).at i hlt
      have HU := Hd.mk u
      have HG := Hd.mk hg
      clear u hg
      go_upto_region 4 with (fail)
      refine wp_abs (fun W => Upd [] w W ∧ Blk W wr.heap.size (O i).cells 31) ⟨HU.out.alloc _, Blk.new wr (O i).cells 31 _ rfl⟩ ?_
      rintro w5 ⟨u5, tb⟩
      clear c0 c1 c2 c3 c4 c5
      have c0 := tb.cell 0
      have c1 := tb.cell 1
      have c2 := tb.cell 2
      have c3 := tb.cell 3
      have c4 := tb.cell 4
      have c5 := tb.cell 5
      simp only [Op.cells, List.getElem?_cons_zero, List.getElem?_cons_succ] at c0 c1 c2 c3 c4 c5
      generalize wr.heap.size = cb at *
      by_cases h0 : (O i).kind < 0
      · have d0 : decide ((O i).kind < 0) = true := by simpa using h0
        have hf := Hd.mk (right_no hlt (show okOp (O i) = false by simp [okOp, d0]))
        go_wp2
        go_ret
        exact ⟨rb hf.out.symm, u5⟩
      have d0 : decide ((O i).kind < 0) = false := by simpa using h0
      by_cases h1 : 2 < (O i).kind
      · have d1 : decide (2 < (O i).kind) = true := by simpa using h1
        have hf := Hd.mk (right_no hlt (show okOp (O i) = false by simp [okOp, d1]))
        go_wp2
        go_ret
        exact ⟨rb hf.out.symm, u5⟩
      have d1 : decide (2 < (O i).kind) = false := by simpa using h1
      by_cases h2 : (O i).e < (O i).b
      · have d2 : decide ((O i).e < (O i).b) = true := by simpa using h2
        have hf := Hd.mk (right_no hlt (show okOp (O i) = false by simp [okOp, d2]))
        go_wp2
        go_ret
        exact ⟨rb hf.out.symm, u5⟩
      have d2 : decide ((O i).e < (O i).b) = false := by simpa using h2
      have hf := Hd.mk (show okOp (O i) = true by simp [okOp, d0, d1, d2])
      go_wp2
      go_roundg (gk - 1)
      case measure => have := HG.out; omega
      case rel => exact ⟨i + 1, by go_num, by have := HG.out; omega, u5, Hd.mk (fun j hj => by
        by_cases e : j = i
        · subst e; exact hf.out
        · exact HOK.out j (by omega))⟩
    · obtain rfl : i = n := by omega
      have hf := Hd.mk (right_yes HOK.out)
      clear hlt
      go_wp2
      go_ret
      exact ⟨by rw [hf.out]; simp; norm_cast, u⟩
end Go.Proofs.Ytbdiejlodedelaa
