/- A walker: its steps. -/
import Derived.Test.YtljleibefijkkaaDoorRows
import Derived.Test.YtljleibefijkkaaDoorQt
import Derived.Test.YtljleibefijkkaaDoorOps
import Derived.Test.YtljleibefijkkaaDoorFl
import Derived.Deep.LoopGhost
namespace Go.Proofs.YtljleibefijkkaaDoor
set_option linter.unusedSimpArgs false
set_option linter.unusedVariables false
set_option linter.unnecessarySimpa false
open Go.RowKit BigFrame

section
variable (P : Program) (w : World) (a : Addr) (m : Mode)
@[go_sem] theorem run_store_complex (k : FloatKind) (x y : Nat) : (store a (.complex k x y) m).run P w = stored P w a (.complex k x y) m := run_store P w a _ m rfl
@[go_sem] theorem run_store_float (k : FloatKind) (x : Nat) : (store a (.float k x) m).run P w = stored P w a (.float k x) m := run_store P w a _ m rfl
end

structure Wk where
  x : Int
  y : Int
  dx : Int
  dy : Int
def Wk.new : Wk := ⟨0, 0, 1, 0⟩
def Wk.zero : Wk := ⟨0, 0, 0, 0⟩
def Wk.step (k : Wk) (c : Nat) : Option Wk :=
  if c = 70 then some ⟨k.x + k.dx, k.y + k.dy, k.dx, k.dy⟩
  else if c = 66 then some ⟨k.x - k.dx, k.y - k.dy, k.dx, k.dy⟩
  else if c = 76 then some ⟨k.x, k.y, -k.dy, k.dx⟩
  else if c = 82 then some ⟨k.x, k.y, k.dy, -k.dx⟩
  else none
/-- No further away than n steps; it looks along an axis. -/
structure Wk.ok (n : Nat) (k : Wk) : Prop where
  x : small n k.x
  y : small n k.y
  d : (k.dx = 1 ∧ k.dy = 0) ∨ (k.dx = 0 ∧ k.dy = 1) ∨ (k.dx = -1 ∧ k.dy = 0) ∨ (k.dx = 0 ∧ k.dy = -1)
theorem Wk.ok.step {n : Nat} {k k' : Wk} {c : Nat} (h : k.ok n) (hs : k.step c = some k') : k'.ok (n + 1) := by
  obtain ⟨hx, hy, hd⟩ := h
  unfold small at hx hy
  unfold Wk.step at hs
  by_cases h1 : c = 70
  · rw [if_pos h1] at hs; cases hs; exact ⟨by unfold small; simp only; omega, by unfold small; simp only; omega, hd⟩
  · rw [if_neg h1] at hs
    by_cases h2 : c = 66
    · rw [if_pos h2] at hs; cases hs; exact ⟨by unfold small; simp only; omega, by unfold small; simp only; omega, hd⟩
    · rw [if_neg h2] at hs
      by_cases h3 : c = 76
      · rw [if_pos h3] at hs; cases hs; exact ⟨by unfold small; simp only; omega, by unfold small; simp only; omega, by simp only; omega⟩
      · rw [if_neg h3] at hs
        by_cases h4 : c = 82
        · rw [if_pos h4] at hs; cases hs; exact ⟨by unfold small; simp only; omega, by unfold small; simp only; omega, by simp only; omega⟩
        · rw [if_neg h4] at hs; cases hs
theorem Wk.ok.more {n m : Nat} {k : Wk} (h : k.ok n) (hm : n ≤ m) : k.ok m :=
  ⟨by have := h.x; unfold small at *; omega, by have := h.y; unfold small at *; omega, h.d⟩
theorem Wk.ok.new : Wk.new.ok 0 := ⟨⟨by simp [Wk.new], by simp [Wk.new]⟩, ⟨by simp [Wk.new], by simp [Wk.new]⟩, .inl ⟨rfl, rfl⟩⟩

/-- The cells of a walker. -/
def WkC (k : Wk) (cs : List Value) : Prop := ∃ a b c d, cs = [.complex .f64 a b, .complex .f64 c d] ∧ Z a k.x ∧ Z b k.y ∧ Z c k.dx ∧ Z d k.dy
def zeroW : List Value := [.complex .f64 0 0, .complex .f64 0 0]
theorem Z.i : Z 4607182418800017408 1 := show _ ∈ zs _ from by decide +kernel
theorem Z.mi : Z 13830554455654793216 (-1) := show _ ∈ zs _ from by decide +kernel
theorem Z.o : Z 0 0 := show _ ∈ zs _ from by decide +kernel
theorem WkC.zero : WkC Wk.zero zeroW := ⟨0, 0, 0, 0, rfl, Z.o, Z.o, Z.o, Z.o⟩
def RetS (k : Wk) (w : World) (e : Ending) (w' : World) : Prop := ∃ cs, WkC k cs ∧ e = .returned (.tuple #[.agg cs.toArray, .bool true]) ∧ Upd [] w w'

set_option maxHeartbeats 1000000 in
theorem step_some (k k' : Wk) (c : Nat) (cs : List Value) (w : World) (hv : WkC k cs) (ho : k.ok 40) (h : k.step c = some k') :
    Calls Tryd.prog 13 #[.agg cs.toArray, .int .u8 c] w (RetS k' w) := by
  obtain ⟨a, b, x, y, rfl, h1, h2, h3, h4⟩ := hv
  have o1 : small 41 k.x := by have := ho.x; unfold small at *; omega
  have o2 : small 41 k.y := by have := ho.y; unfold small at *; omega
  have o3 : small 1 k.dx := by have := ho.d; unfold small at *; omega
  have o4 : small 1 k.dy := by have := ho.d; unfold small at *; omega
  have o5 : small 41 k.dx := by unfold small at *; omega
  have o6 : small 41 k.dy := by unfold small at *; omega
  unfold Wk.step at h
  have hc : c = 70 ∨ c = 66 ∨ c = 76 ∨ c = 82 := by
    by_cases e1 : c = 70
    · exact .inl e1
    · by_cases e2 : c = 66
      · exact .inr (.inl e2)
      · by_cases e3 : c = 76
        · exact .inr (.inr (.inl e3))
        · by_cases e4 : c = 82
          · exact .inr (.inr (.inr e4))
          · rw [if_neg e1, if_neg e2, if_neg e3, if_neg e4] at h; cases h
  rcases hc with rfl | rfl | rfl | rfl
  · simp only [Nat.reduceEqDiff, if_true, if_false, Option.some.injEq] at h
    subst h
    obtain ⟨re, im, hr, z1, z2⟩ := h1.csum h2 h3 h4 o1 o2 o3 o4
    have hrun := fun w => run_complex_sum (P := Tryd.prog) w .add (.inl rfl) 24 .f64 a b x y re im hr
    have HF := Hd.mk (show WkC ⟨k.x + k.dx, k.y + k.dy, k.dx, k.dy⟩ _ from ⟨_, _, _, _, rfl, z1, z2, h3, h4⟩)
    clear hr z1 z2 h1 h2 h3 h4 o1 o2 o3 o4 o5 o6 ho
    go_enter Tryd.func13, Tryd.ntmps13
    go_wp2_with fail
    exact bodyPost_ret (results_cell_tmp _ _ _ 4 5 26 (w.heap.size + 1) _ 26 rfl rfl (Blk.new (w.alloc _) _ _ _ (by simp)) (by kernel_rfl) (by kernel_rfl)) rfl ⟨_, HF.out, rfl, ((Upd.refl _ _).alloc _).alloc _⟩
  · simp only [Nat.reduceEqDiff, if_true, if_false, Option.some.injEq] at h
    subst h
    obtain ⟨re, im, hr, z1, z2⟩ := h1.csub h2 h3 h4 o1 o2 o3 o4
    have hrun := fun w => run_complex_sum (P := Tryd.prog) w .sub (.inr rfl) 24 .f64 a b x y re im hr
    have HF := Hd.mk (show WkC ⟨k.x - k.dx, k.y - k.dy, k.dx, k.dy⟩ _ from ⟨_, _, _, _, rfl, z1, z2, h3, h4⟩)
    clear hr z1 z2 h1 h2 h3 h4 o1 o2 o3 o4 o5 o6 ho
    go_enter Tryd.func13, Tryd.ntmps13
    go_wp2_with fail
    exact bodyPost_ret (results_cell_tmp _ _ _ 4 5 26 (w.heap.size + 1) _ 26 rfl rfl (Blk.new (w.alloc _) _ _ _ (by simp)) (by kernel_rfl) (by kernel_rfl)) rfl ⟨_, HF.out, rfl, ((Upd.refl _ _).alloc _).alloc _⟩
  · simp only [Nat.reduceEqDiff, if_true, if_false, Option.some.injEq] at h
    subst h
    obtain ⟨re, im, hr, z1, z2⟩ := h3.cmul h4 Z.o Z.i o5 o6 (.inr ⟨rfl, by unfold small; omega⟩)
    have hrun := fun w => run_complex_mul (P := Tryd.prog) w 24 x y 0 4607182418800017408 re im hr
    have HF := Hd.mk (show WkC ⟨k.x, k.y, -k.dy, k.dx⟩ _ from ⟨_, _, _, _, rfl, h1, h2, (by simpa using z1), (by simpa using z2)⟩)
    clear hr z1 z2 h1 h2 h3 h4 o1 o2 o3 o4 o5 o6 ho
    go_enter Tryd.func13, Tryd.ntmps13
    go_wp2_with fail
    exact bodyPost_ret (results_cell_tmp _ _ _ 4 5 26 (w.heap.size + 1) _ 26 rfl rfl (Blk.new (w.alloc _) _ _ _ (by simp)) (by kernel_rfl) (by kernel_rfl)) rfl ⟨_, HF.out, rfl, ((Upd.refl _ _).alloc _).alloc _⟩
  · simp only [Nat.reduceEqDiff, if_true, if_false, Option.some.injEq] at h
    subst h
    obtain ⟨re, im, hr, z1, z2⟩ := h3.cmul h4 Z.o Z.mi o5 o6 (.inr ⟨rfl, by unfold small; omega⟩)
    have hrun := fun w => run_complex_mul (P := Tryd.prog) w 24 x y 0 13830554455654793216 re im hr
    have HF := Hd.mk (show WkC ⟨k.x, k.y, k.dy, -k.dx⟩ _ from ⟨_, _, _, _, rfl, h1, h2, (by simpa using z1), (by simpa using z2)⟩)
    clear hr z1 z2 h1 h2 h3 h4 o1 o2 o3 o4 o5 o6 ho
    go_enter Tryd.func13, Tryd.ntmps13
    go_wp2_with fail
    exact bodyPost_ret (results_cell_tmp _ _ _ 4 5 26 (w.heap.size + 1) _ 26 rfl rfl (Blk.new (w.alloc _) _ _ _ (by simp)) (by kernel_rfl) (by kernel_rfl)) rfl ⟨_, HF.out, rfl, ((Upd.refl _ _).alloc _).alloc _⟩

theorem step_four {c : Nat} {k : Wk} (h : k.step c = none) : c ≠ 70 ∧ c ≠ 66 ∧ c ≠ 76 ∧ c ≠ 82 := by
  unfold Wk.step at h
  by_cases e1 : c = 70
  · rw [if_pos e1] at h; cases h
  · by_cases e2 : c = 66
    · rw [if_neg e1, if_pos e2] at h; cases h
    · by_cases e3 : c = 76
      · rw [if_neg e1, if_neg e2, if_pos e3] at h; cases h
      · by_cases e4 : c = 82
        · rw [if_neg e1, if_neg e2, if_neg e3, if_pos e4] at h; cases h
        · exact ⟨e1, e2, e3, e4⟩

set_option maxHeartbeats 1000000 in
theorem step_none (k : Wk) (c : Nat) (cs : List Value) (w : World) (hv : WkC k cs) (h : k.step c = none) :
    Calls Tryd.prog 13 #[.agg cs.toArray, .int .u8 c] w fun e w' => e = .returned (.tuple #[.agg zeroW.toArray, .bool false]) ∧ Upd [] w w' := by
  obtain ⟨a, b, x, y, rfl, -⟩ := hv
  obtain ⟨e1, e2, e3, e4⟩ := step_four h
  have d1 : ((c : Int) == 70) = false := by simp; omega
  have d2 : ((c : Int) == 66) = false := by simp; omega
  have d3 : ((c : Int) == 76) = false := by simp; omega
  have d4 : ((c : Int) == 82) = false := by simp; omega
  clear e1 e2 e3 e4 h
  go_enter Tryd.func13, Tryd.ntmps13
  go_wp2_with fail
  exact bodyPost_ret (results_cell_tmp _ _ _ 4 5 26 (w.heap.size + 1) zeroW 26 rfl rfl (Blk.new (w.alloc _) zeroW _ _ (by simp)) (by kernel_rfl) (by kernel_rfl)) rfl ⟨rfl, ((Upd.refl _ _).alloc _).alloc _⟩

def newW : List Value := [.complex .f64 0 0, .complex .f64 4607182418800017408 0]
theorem WkC.new : WkC Wk.new newW := ⟨_, _, _, _, rfl, Z.o, Z.o, Z.i, Z.o⟩
theorem new_ok (w : World) : Calls Tryd.prog 11 #[] w fun e w' => e = .returned (.agg newW.toArray) ∧ Upd [] w w' := by
  go_enter Tryd.func11, Tryd.ntmps11
  go_wp2_with fail
  exact bodyPost_ret (results_cell _ _ _ 0 26 w.heap.size newW 26 rfl rfl (Blk.new w newW _ _ rfl) (by kernel_rfl) (by kernel_rfl)) rfl ⟨rfl, (Upd.refl _ _).alloc _⟩

/-- So many steps of a text. -/
def steps (l : List UInt8) : Option Wk := l.foldl (fun o c => o.bind fun k => k.step c.toNat) (some Wk.new)
theorem foldl_none (l : List UInt8) : l.foldl (fun (o : Option Wk) c => o.bind fun k => k.step c.toNat) none = none := by
  induction l with
  | nil => rfl
  | cons c l ih => exact ih
theorem steps_snoc (l : List UInt8) (c : UInt8) : steps (l ++ [c]) = (steps l).bind fun k => k.step c.toNat := by
  simp [steps, List.foldl_append]
theorem steps_ok (l : List UInt8) (k : Wk) (h : steps l = some k) : k.ok l.length := by
  induction hn : l.length generalizing l k with
  | zero =>
    have : l = [] := List.eq_nil_of_length_eq_zero hn
    subst this
    cases h
    exact Wk.ok.new
  | succ n ih =>
    have hne : l ≠ [] := by intro e; subst e; cases hn
    rw [← List.dropLast_concat_getLast hne, steps_snoc] at h
    cases hs : steps l.dropLast with
    | none => rw [hs] at h; cases h
    | some k0 =>
      rw [hs] at h
      exact (ih l.dropLast k0 hs (by simp [hn])).step h
theorem steps_take (l m : List UInt8) (h : steps l = none) : steps (l ++ m) = none := by
  unfold steps at h ⊢
  rw [List.foldl_append, h, foldl_none]
def walkM (l : List UInt8) : Option Wk := if l.length ≤ 40 then steps l else none
end Go.Proofs.YtljleibefijkkaaDoor
