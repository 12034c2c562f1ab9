/- Connections in memory: what each function of net does. -/
import Derived.Test.YtpjkckhgkaefdaaRows
import Derived.Test.YtpjkckhgkaefdaaQt
import Derived.Test.YtpjkckhgkaefdaaOps
import Derived.Test.YtpjkckhgkaefdaaSl
import Derived.Deep.Cut

namespace Go.Proofs.Ytpjkckhgkaefdaa
set_option linter.unusedSimpArgs false
set_option linter.unusedVariables false
set_option linter.unnecessarySimpa false
open Go.RowKit BigFrame

/-- A connection, but for its slice of what came. -/
structure Cn where
  inn : List ByteArray
  came : Nat
  shut : Bool
  reset : Bool
  taken : Bool
  closed : Bool
  written : ByteArray
def Cn.cells (x : Cn) (v : Value) : List Value := [v, .int .i64 x.came, .bool x.shut, .bool x.reset, .bool x.taken, .bool x.closed, .string x.written]
def Cn.new : Cn := ⟨[], 0, false, false, false, false, ⟨#[]⟩⟩

/-- The net at p: n connections; D wait. -/
structure IsN (w : World) (p n : Nat) (M : Nat → Cn) (D : List Nat) (sc sd : Value) (bs : Nat → Nat) (vs : Nat → Value) : Prop where
  head : Blk w p [sc, sd] 27
  conns : Sl w 51 1 sc n ((List.range n).map fun i => .pointer (some ⟨bs i, 0, none⟩))
  dials : Sl w 3 1 sd D.length (D.map fun (d : Nat) => .int .i64 d)
  blk : ∀ i, i < n → Blk w (bs i) ((M i).cells (vs i)) 53
  inn : ∀ i, i < n → Sl w 9 1 (vs i) (M i).inn.length ((M i).inn.map .string)
  inj : ∀ i j, i < n → j < n → bs i = bs j → i = j
  apart : ∀ i j, i < n → j < n → i ≠ j → ∀ k, k ∈ ownB (vs i) → k ∉ ownB (vs j)
  few : ∀ d ∈ D, d < n
def foot (p n : Nat) (sc sd : Value) (bs : Nat → Nat) (vs : Nat → Value) : List Nat :=
  p :: (ownB sc ++ ownB sd ++ (List.range n).map bs ++ (List.range n).flatMap fun i => ownB (vs i))
def NetAt (w : World) (p n : Nat) (M : Nat → Cn) (D : List Nat) (F : List Nat) : Prop := ∃ sc sd bs vs, IsN w p n M D sc sd bs vs ∧ F = foot p n sc sd bs vs

theorem IsN.upd {w w' : World} {p n : Nat} {M : Nat → Cn} {D : List Nat} {sc sd : Value} {bs : Nat → Nat} {vs : Nat → Value} {S : List Nat} (h : IsN w p n M D sc sd bs vs) (hu : Upd S w w') (hS : ∀ k, k ∈ foot p n sc sd bs vs → k ∉ S) : IsN w' p n M D sc sd bs vs where
  head := hu.blk h.head (hS p (by simp [foot]))
  conns := h.conns.upd hu (fun k hk => hS k (by simp [foot, hk]))
  dials := h.dials.upd hu (fun k hk => hS k (by simp [foot, hk]))
  blk := fun i hi => hu.blk (h.blk i hi) (hS _ (by simp only [foot, List.mem_cons, List.mem_append, List.mem_map, List.mem_range]; exact .inr (.inl (.inr ⟨i, hi, rfl⟩))))
  inn := fun i hi => (h.inn i hi).upd hu (fun k hk => hS k (by simp only [foot, List.mem_cons, List.mem_append, List.mem_flatMap, List.mem_range]; exact .inr (.inr ⟨i, hi, hk⟩)))
  inj := h.inj
  apart := h.apart
  few := h.few
theorem NetAt.upd {w w' : World} {p n : Nat} {M : Nat → Cn} {D F : List Nat} {S : List Nat} (h : NetAt w p n M D F) (hu : Upd S w w') (hS : ∀ k, k ∈ F → k ∉ S) : NetAt w' p n M D F := by
  obtain ⟨sc, sd, bs, vs, h1, rfl⟩ := h
  exact ⟨sc, sd, bs, vs, h1.upd hu hS, rfl⟩
theorem NetAt.lt {w : World} {p n : Nat} {M : Nat → Cn} {D F : List Nat} (h : NetAt w p n M D F) : ∀ k, k ∈ F → k < w.heap.size := by
  obtain ⟨sc, sd, bs, vs, h1, rfl⟩ := h
  intro k hk
  simp only [foot, List.mem_cons, List.mem_append, List.mem_map, List.mem_flatMap, List.mem_range] at hk
  rcases hk with rfl | ((h2 | h2) | ⟨i, hi, rfl⟩) | ⟨i, hi, h2⟩
  · exact h1.head.lt
  · exact h1.conns.lt _ h2
  · exact h1.dials.lt _ h2
  · exact (h1.blk i hi).lt
  · exact (h1.inn i hi).lt _ h2

set_option maxHeartbeats 400000 in
theorem len_ok (p n : Nat) (M : Nat → Cn) (D : List Nat) (F : List Nat) (w : World) (h : NetAt w p n M D F) :
    Calls Try.prog 22 #[.pointer (some ⟨p, 0, none⟩)] w fun e w' => e = .returned (.int .i64 n) ∧ ∃ k, w' = w.drewN k := by
  obtain ⟨sc, sd, bs, vs, h, -⟩ := h
  obtain ⟨ac, cc, rfl⟩ := h.conns.form
  have h1 := h.head
  have c0 := h1.cell 0
  have c1 := h1.cell 1
  simp only [List.getElem?_cons_zero, List.getElem?_cons_succ] at c0 c1
  clear h h1
  go_enter Try.func22, Try.ntmps22
  go_wp2
  go_ret
  exact ⟨rfl, 0, rfl⟩

set_option maxHeartbeats 400000 in
theorem dials_ok (p n : Nat) (M : Nat → Cn) (D : List Nat) (F : List Nat) (w : World) (h : NetAt w p n M D F) :
    Calls Try.prog 13 #[.pointer (some ⟨p, 0, none⟩)] w fun e w' => e = .returned (.int .i64 D.length) ∧ ∃ k, w' = w.drewN k := by
  obtain ⟨sc, sd, bs, vs, h, -⟩ := h
  obtain ⟨ad, cd, rfl⟩ := h.dials.form
  have h1 := h.head
  have c0 := h1.cell 0
  have c1 := h1.cell 1
  simp only [List.getElem?_cons_zero, List.getElem?_cons_succ] at c0 c1
  clear h h1
  go_enter Try.func13, Try.ntmps13
  go_wp2
  go_ret
  exact ⟨rfl, 0, rfl⟩

set_option maxHeartbeats 400000 in
theorem at_none (p n : Nat) (M : Nat → Cn) (D : List Nat) (sc sd : Value) (bs : Nat → Nat) (vs : Nat → Value) (w : World) (i : Int) (h : IsN w p n M D sc sd bs vs) (hi : i < 0 ∨ (n : Int) ≤ i) :
    Calls Try.prog 23 #[.pointer (some ⟨p, 0, none⟩), .int .i64 i] w fun e w' => e = .returned (.pointer none) ∧ w' = w := by
  obtain ⟨ac, cc, rfl⟩ := h.conns.form
  have h1 := h.head
  have c0 := h1.cell 0
  have c1 := h1.cell 1
  simp only [List.getElem?_cons_zero, List.getElem?_cons_succ] at c0 c1
  clear h h1
  by_cases h0 : i < 0
  · have d0 : decide (i < 0) = true := by simpa using h0
    go_enter Try.func23, Try.ntmps23
    go_wp2
    go_ret
    exact ⟨rfl, rfl⟩
  · have d0 : decide (i < 0) = false := by simpa using h0
    have d1 : decide ((n : Int) ≤ i) = true := by simp; omega
    go_enter Try.func23, Try.ntmps23
    go_wp2
    go_ret
    exact ⟨rfl, rfl⟩

set_option maxHeartbeats 400000 in
theorem at_some (p n : Nat) (M : Nat → Cn) (D : List Nat) (sc sd : Value) (bs : Nat → Nat) (vs : Nat → Value) (w : World) (i : Nat) (h : IsN w p n M D sc sd bs vs) (hi : i < n) :
    Calls Try.prog 23 #[.pointer (some ⟨p, 0, none⟩), .int .i64 i] w fun e w' => e = .returned (.pointer (some ⟨bs i, 0, none⟩)) ∧ w' = w := by
  obtain ⟨g, o, cap, rfl, h2, h3, h4⟩ := h.conns.some (by omega)
  have h1 := h.head
  have h5 := h4 i (by omega)
  simp only [List.getElem?_map, List.getElem?_range hi, Option.map_some] at h5
  have c0 := h1.cell 0
  have c1 := h1.cell 1
  simp only [List.getElem?_cons_zero, List.getElem?_cons_succ] at c0 c1
  clear h h1 h4
  have d0 : decide ((i : Int) < 0) = false := decide_eq_false (by omega)
  have d1 : decide ((n : Int) ≤ i) = false := decide_eq_false (by omega)
  go_enter Try.func23, Try.ntmps23
  go_wp2
  go_ret
  exact ⟨rfl, rfl⟩
end Go.Proofs.Ytpjkckhgkaefdaa
