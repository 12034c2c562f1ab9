/- What reads a connection. -/
import Derived.Test.YtpjkckhgkaefdaaN1
namespace Go.Proofs.Ytpjkckhgkaefdaa
set_option linter.unusedSimpArgs false
set_option linter.unusedVariables false
set_option linter.unnecessarySimpa false
open Go.RowKit BigFrame

set_option maxHeartbeats 400000 in
theorem came_none (p n : Nat) (M : Nat → Cn) (D : List Nat) (F : List Nat) (w : World) (i : Int) (h : NetAt w p n M D F) (hi : i < 0 ∨ (n : Int) ≤ i) :
    Calls Try.prog 12 #[.pointer (some ⟨p, 0, none⟩), .int .i64 i] w fun e w' => e = .returned (.int .i64 0) ∧ ∃ k, w' = w.drewN k := by
  obtain ⟨sc, sd, bs, vs, h, -⟩ := h
  go_enter Try.func12, Try.ntmps12
  go_wp2_with fail
  refine (at_none p n M D sc sd bs vs w i h hi).mono ?_
  rintro e w1 ⟨rfl, rfl⟩
  go_wp2_with fail
  go_ret
  exact ⟨rfl, 0, rfl⟩

set_option maxHeartbeats 400000 in
theorem came_some (p n : Nat) (M : Nat → Cn) (D : List Nat) (F : List Nat) (w : World) (i : Nat) (h : NetAt w p n M D F) (hi : i < n) :
    Calls Try.prog 12 #[.pointer (some ⟨p, 0, none⟩), .int .i64 i] w fun e w' => e = .returned (.int .i64 (M i).came) ∧ ∃ k, w' = w.drewN k := by
  obtain ⟨sc, sd, bs, vs, h, -⟩ := h
  have h1 := h.blk i hi
  have c0 := h1.cell 0
  have c1 := h1.cell 1
  have c2 := h1.cell 2
  have c3 := h1.cell 3
  have c4 := h1.cell 4
  have c5 := h1.cell 5
  have c6 := h1.cell 6
  simp only [Cn.cells, List.getElem?_cons_zero, List.getElem?_cons_succ] at c0 c1 c2 c3 c4 c5 c6
  clear h1
  go_enter Try.func12, Try.ntmps12
  go_wp2_with fail
  refine (at_some p n M D sc sd bs vs w i h hi).mono ?_
  rintro e w1 ⟨rfl, rfl⟩
  go_wp2_with fail
  go_ret
  exact ⟨rfl, 0, rfl⟩

set_option maxHeartbeats 400000 in
theorem gone_none (p n : Nat) (M : Nat → Cn) (D : List Nat) (F : List Nat) (w : World) (i : Int) (h : NetAt w p n M D F) (hi : i < 0 ∨ (n : Int) ≤ i) :
    Calls Try.prog 20 #[.pointer (some ⟨p, 0, none⟩), .int .i64 i] w fun e w' => e = .returned (.bool false) ∧ ∃ k, w' = w.drewN k := by
  obtain ⟨sc, sd, bs, vs, h, -⟩ := h
  go_enter Try.func20, Try.ntmps20
  go_wp2_with fail
  refine (at_none p n M D sc sd bs vs w i h hi).mono ?_
  rintro e w1 ⟨rfl, rfl⟩
  go_wp2_with fail
  go_ret
  exact ⟨rfl, 0, rfl⟩

set_option maxHeartbeats 400000 in
theorem gone_some (p n : Nat) (M : Nat → Cn) (D : List Nat) (F : List Nat) (w : World) (i : Nat) (h : NetAt w p n M D F) (hi : i < n) :
    Calls Try.prog 20 #[.pointer (some ⟨p, 0, none⟩), .int .i64 i] w fun e w' => e = .returned (.bool (M i).reset) ∧ ∃ k, w' = w.drewN k := by
  obtain ⟨sc, sd, bs, vs, h, -⟩ := h
  have h1 := h.blk i hi
  have c0 := h1.cell 0
  have c1 := h1.cell 1
  have c2 := h1.cell 2
  have c3 := h1.cell 3
  have c4 := h1.cell 4
  have c5 := h1.cell 5
  have c6 := h1.cell 6
  simp only [Cn.cells, List.getElem?_cons_zero, List.getElem?_cons_succ] at c0 c1 c2 c3 c4 c5 c6
  clear h1
  go_enter Try.func20, Try.ntmps20
  go_wp2_with fail
  refine (at_some p n M D sc sd bs vs w i h hi).mono ?_
  rintro e w1 ⟨rfl, rfl⟩
  go_wp2_with fail
  go_ret
  exact ⟨rfl, 0, rfl⟩

set_option maxHeartbeats 400000 in
theorem closed_none (p n : Nat) (M : Nat → Cn) (D : List Nat) (F : List Nat) (w : World) (i : Int) (h : NetAt w p n M D F) (hi : i < 0 ∨ (n : Int) ≤ i) :
    Calls Try.prog 19 #[.pointer (some ⟨p, 0, none⟩), .int .i64 i] w fun e w' => e = .returned (.bool false) ∧ ∃ k, w' = w.drewN k := by
  obtain ⟨sc, sd, bs, vs, h, -⟩ := h
  go_enter Try.func19, Try.ntmps19
  go_wp2_with fail
  refine (at_none p n M D sc sd bs vs w i h hi).mono ?_
  rintro e w1 ⟨rfl, rfl⟩
  go_wp2_with fail
  go_ret
  exact ⟨rfl, 0, rfl⟩

set_option maxHeartbeats 400000 in
theorem closed_some (p n : Nat) (M : Nat → Cn) (D : List Nat) (F : List Nat) (w : World) (i : Nat) (h : NetAt w p n M D F) (hi : i < n) :
    Calls Try.prog 19 #[.pointer (some ⟨p, 0, none⟩), .int .i64 i] w fun e w' => e = .returned (.bool (M i).closed) ∧ ∃ k, w' = w.drewN k := by
  obtain ⟨sc, sd, bs, vs, h, -⟩ := h
  have h1 := h.blk i hi
  have c0 := h1.cell 0
  have c1 := h1.cell 1
  have c2 := h1.cell 2
  have c3 := h1.cell 3
  have c4 := h1.cell 4
  have c5 := h1.cell 5
  have c6 := h1.cell 6
  simp only [Cn.cells, List.getElem?_cons_zero, List.getElem?_cons_succ] at c0 c1 c2 c3 c4 c5 c6
  clear h1
  go_enter Try.func19, Try.ntmps19
  go_wp2_with fail
  refine (at_some p n M D sc sd bs vs w i h hi).mono ?_
  rintro e w1 ⟨rfl, rfl⟩
  go_wp2_with fail
  go_ret
  exact ⟨rfl, 0, rfl⟩

set_option maxHeartbeats 400000 in
theorem written_none (p n : Nat) (M : Nat → Cn) (D : List Nat) (F : List Nat) (w : World) (i : Int) (h : NetAt w p n M D F) (hi : i < 0 ∨ (n : Int) ≤ i) :
    Calls Try.prog 18 #[.pointer (some ⟨p, 0, none⟩), .int .i64 i] w fun e w' => e = .returned (.string ⟨#[]⟩) ∧ ∃ k, w' = w.drewN k := by
  obtain ⟨sc, sd, bs, vs, h, -⟩ := h
  go_enter Try.func18, Try.ntmps18
  go_wp2_with fail
  refine (at_none p n M D sc sd bs vs w i h hi).mono ?_
  rintro e w1 ⟨rfl, rfl⟩
  go_wp2_with fail
  go_ret
  exact ⟨rfl, 0, rfl⟩

set_option maxHeartbeats 400000 in
theorem written_some (p n : Nat) (M : Nat → Cn) (D : List Nat) (F : List Nat) (w : World) (i : Nat) (h : NetAt w p n M D F) (hi : i < n) :
    Calls Try.prog 18 #[.pointer (some ⟨p, 0, none⟩), .int .i64 i] w fun e w' => e = .returned (.string (M i).written) ∧ ∃ k, w' = w.drewN k := by
  obtain ⟨sc, sd, bs, vs, h, -⟩ := h
  have h1 := h.blk i hi
  have c0 := h1.cell 0
  have c1 := h1.cell 1
  have c2 := h1.cell 2
  have c3 := h1.cell 3
  have c4 := h1.cell 4
  have c5 := h1.cell 5
  have c6 := h1.cell 6
  simp only [Cn.cells, List.getElem?_cons_zero, List.getElem?_cons_succ] at c0 c1 c2 c3 c4 c5 c6
  clear h1
  go_enter Try.func18, Try.ntmps18
  go_wp2_with fail
  refine (at_some p n M D sc sd bs vs w i h hi).mono ?_
  rintro e w1 ⟨rfl, rfl⟩
  go_wp2_with fail
  go_ret
  exact ⟨rfl, 0, rfl⟩

set_option maxHeartbeats 400000 in
theorem ready_none (p n : Nat) (M : Nat → Cn) (D : List Nat) (F : List Nat) (w : World) (i : Int) (h : NetAt w p n M D F) (hi : i < 0 ∨ (n : Int) ≤ i) :
    Calls Try.prog 21 #[.pointer (some ⟨p, 0, none⟩), .int .i64 i] w fun e w' => e = .returned (.bool false) ∧ ∃ k, w' = w.drewN k := by
  obtain ⟨sc, sd, bs, vs, h, -⟩ := h
  go_enter Try.func21, Try.ntmps21
  go_wp2_with fail
  refine (at_none p n M D sc sd bs vs w i h hi).mono ?_
  rintro e w1 ⟨rfl, rfl⟩
  go_wp2_with fail
  go_ret
  exact ⟨rfl, 0, rfl⟩

def Cn.ready (x : Cn) : Bool := decide (0 < x.inn.length) || x.shut || x.reset

set_option maxHeartbeats 800000 in
theorem ready_some (p n : Nat) (M : Nat → Cn) (D : List Nat) (F : List Nat) (w : World) (i : Nat) (h : NetAt w p n M D F) (hi : i < n) :
    Calls Try.prog 21 #[.pointer (some ⟨p, 0, none⟩), .int .i64 i] w fun e w' => e = .returned (.bool (M i).ready) ∧ ∃ k, w' = w.drewN k := by
  obtain ⟨sc, sd, bs, vs, h, -⟩ := h
  have h1 := h.blk i hi
  obtain ⟨a, cap, hv⟩ := (h.inn i hi).form
  rw [hv] at h1
  obtain ⟨x, hx⟩ : ∃ x, x = M i := ⟨_, rfl⟩
  rw [← hx] at h1 ⊢
  have c0 := h1.cell 0
  have c1 := h1.cell 1
  have c2 := h1.cell 2
  have c3 := h1.cell 3
  have c4 := h1.cell 4
  have c5 := h1.cell 5
  have c6 := h1.cell 6
  simp only [Cn.cells, List.getElem?_cons_zero, List.getElem?_cons_succ] at c0 c1 c2 c3 c4 c5 c6
  have HX := Hd.mk hx
  clear h1 hv hx
  unfold Cn.ready
  by_cases hl : 0 < x.inn.length
  · have hl' : decide (0 < x.inn.length) = true := by simpa using hl
    go_enter Try.func21, Try.ntmps21
    go_wp2_with fail
    refine (at_some p n M D sc sd bs vs w i h hi).mono ?_
    rintro e w1 ⟨rfl, rfl⟩
    go_wp2_with fail
    go_ret
    exact ⟨by simp [hl'], 0, rfl⟩
  · have hl' : decide (0 < x.inn.length) = false := by simpa using hl
    obtain ⟨inn, came, shut, reset, taken, closed, written⟩ := x
    cases shut <;> cases reset
    all_goals
      go_enter Try.func21, Try.ntmps21
      go_wp2_with fail
      refine (at_some p n M D sc sd bs vs w i h hi).mono ?_
      rintro e w1 ⟨rfl, rfl⟩
      go_wp2_with fail
      go_ret
      exact ⟨by simp [hl'], 0, rfl⟩
end Go.Proofs.Ytpjkckhgkaefdaa
