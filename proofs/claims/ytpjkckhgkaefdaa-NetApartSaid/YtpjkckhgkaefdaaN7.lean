/- Reading a net in a region that draws its order; the laws' fit. -/
import Derived.Test.YtpjkckhgkaefdaaN6
namespace Go.Proofs.Ytpjkckhgkaefdaa
set_option linter.unusedSimpArgs false
set_option linter.unusedVariables false
set_option linter.unnecessarySimpa false
open Go.RowKit BigFrame

theorem Own.new {w0 w : World} (hu : Upd [] w0 w) : Own w0 (w.alloc (.cells #[.slice none 0 0, .slice none 0 0] 27)) w.heap.size 0 (fun _ => Cn.new) [] :=
  ⟨_, IsN.empty w, hu.alloc _, fun k hk => by have := hu.size; simp at hk; omega⟩
theorem Own.out {w0 w : World} {p n : Nat} {M : Nat → Cn} {D : List Nat} (h : Own w0 w p n M D) : Upd [] w0 w := by
  obtain ⟨F, _, h2, _⟩ := h; exact h2

/-- The connection of a number; a new one, where there is none. -/
def nth (M : Nat → Cn) (n : Nat) (i : Int) : Cn := if 0 ≤ i ∧ i < n then M i.toNat else Cn.new
theorem nth_in {M : Nat → Cn} {n : Nat} {i : Nat} (h : i < n) : nth M n i = M i := by
  unfold nth; rw [if_pos ⟨by omega, by omega⟩]; rfl
theorem nth_out {M : Nat → Cn} {n : Nat} {i : Int} (h : i < 0 ∨ (n : Int) ≤ i) : nth M n i = Cn.new := by
  unfold nth; rw [if_neg (by omega)]
theorem int_split (i : Int) (n : Nat) : (∃ k : Nat, i = k ∧ k < n) ∨ (i < 0 ∨ (n : Int) ≤ i) := by
  by_cases h : 0 ≤ i ∧ i < n
  · exact .inl ⟨i.toNat, by omega, by omega⟩
  · exact .inr (by omega)

theorem Own.q_came {w0 w : World} {p n : Nat} {M : Nat → Cn} {D : List Nat} (h : Own w0 w p n M D) (i : Int) (v : Int) (hv : ((nth M n i).came : Int) = v) :
    ∀ k, Calls Try.prog 12 #[.pointer (some ⟨p, 0, none⟩), .int .i64 i] (w.drewN k) fun e w' => e = .returned (.int .i64 v) ∧ ∃ m, w' = (w.drewN k).drewN m := by
  intro k
  obtain ⟨F, h1, h2, h3⟩ := h
  have h1 := h1.upd ((Upd.refl [] w).drewN k) (by simp)
  subst hv
  rcases int_split i n with ⟨j, rfl, hj⟩ | hj
  · rw [nth_in hj]
    exact came_some p n M D F _ j h1 hj
  · rw [nth_out hj]
    exact came_none p n M D F _ i h1 hj

theorem Own.q_gone {w0 w : World} {p n : Nat} {M : Nat → Cn} {D : List Nat} (h : Own w0 w p n M D) (i : Int) (v : Bool) (hv : (nth M n i).reset = v) :
    ∀ k, Calls Try.prog 20 #[.pointer (some ⟨p, 0, none⟩), .int .i64 i] (w.drewN k) fun e w' => e = .returned (.bool v) ∧ ∃ m, w' = (w.drewN k).drewN m := by
  intro k
  obtain ⟨F, h1, h2, h3⟩ := h
  have h1 := h1.upd ((Upd.refl [] w).drewN k) (by simp)
  subst hv
  rcases int_split i n with ⟨j, rfl, hj⟩ | hj
  · rw [nth_in hj]
    exact gone_some p n M D F _ j h1 hj
  · rw [nth_out hj]
    exact gone_none p n M D F _ i h1 hj

theorem Own.q_closed {w0 w : World} {p n : Nat} {M : Nat → Cn} {D : List Nat} (h : Own w0 w p n M D) (i : Int) (v : Bool) (hv : (nth M n i).closed = v) :
    ∀ k, Calls Try.prog 19 #[.pointer (some ⟨p, 0, none⟩), .int .i64 i] (w.drewN k) fun e w' => e = .returned (.bool v) ∧ ∃ m, w' = (w.drewN k).drewN m := by
  intro k
  obtain ⟨F, h1, h2, h3⟩ := h
  have h1 := h1.upd ((Upd.refl [] w).drewN k) (by simp)
  subst hv
  rcases int_split i n with ⟨j, rfl, hj⟩ | hj
  · rw [nth_in hj]
    exact closed_some p n M D F _ j h1 hj
  · rw [nth_out hj]
    exact closed_none p n M D F _ i h1 hj

theorem Own.q_written {w0 w : World} {p n : Nat} {M : Nat → Cn} {D : List Nat} (h : Own w0 w p n M D) (i : Int) (v : ByteArray) (hv : (nth M n i).written = v) :
    ∀ k, Calls Try.prog 18 #[.pointer (some ⟨p, 0, none⟩), .int .i64 i] (w.drewN k) fun e w' => e = .returned (.string v) ∧ ∃ m, w' = (w.drewN k).drewN m := by
  intro k
  obtain ⟨F, h1, h2, h3⟩ := h
  have h1 := h1.upd ((Upd.refl [] w).drewN k) (by simp)
  subst hv
  rcases int_split i n with ⟨j, rfl, hj⟩ | hj
  · rw [nth_in hj]
    exact written_some p n M D F _ j h1 hj
  · rw [nth_out hj]
    exact written_none p n M D F _ i h1 hj

theorem Own.q_ready {w0 w : World} {p n : Nat} {M : Nat → Cn} {D : List Nat} (h : Own w0 w p n M D) (i : Int) (v : Bool) (hv : (nth M n i).ready = v) :
    ∀ k, Calls Try.prog 21 #[.pointer (some ⟨p, 0, none⟩), .int .i64 i] (w.drewN k) fun e w' => e = .returned (.bool v) ∧ ∃ m, w' = (w.drewN k).drewN m := by
  intro k
  obtain ⟨F, h1, h2, h3⟩ := h
  have h1 := h1.upd ((Upd.refl [] w).drewN k) (by simp)
  subst hv
  rcases int_split i n with ⟨j, rfl, hj⟩ | hj
  · rw [nth_in hj]
    exact ready_some p n M D F _ j h1 hj
  · rw [nth_out hj]
    exact ready_none p n M D F _ i h1 hj

theorem Own.q_len {w0 w : World} {p n : Nat} {M : Nat → Cn} {D : List Nat} (h : Own w0 w p n M D) :
    ∀ k, Calls Try.prog 22 #[.pointer (some ⟨p, 0, none⟩)] (w.drewN k) fun e w' => e = .returned (.int .i64 n) ∧ ∃ m, w' = (w.drewN k).drewN m := by
  intro k
  obtain ⟨F, h1, h2, h3⟩ := h
  exact len_ok p n M D F _ (h1.upd ((Upd.refl [] w).drewN k) (by simp))
theorem Own.q_dials {w0 w : World} {p n : Nat} {M : Nat → Cn} {D : List Nat} (h : Own w0 w p n M D) (v : Int) (hv : (D.length : Int) = v) :
    ∀ k, Calls Try.prog 13 #[.pointer (some ⟨p, 0, none⟩)] (w.drewN k) fun e w' => e = .returned (.int .i64 v) ∧ ∃ m, w' = (w.drewN k).drewN m := by
  intro k
  subst hv
  obtain ⟨F, h1, h2, h3⟩ := h
  exact dials_ok p n M D F _ (h1.upd ((Upd.refl [] w).drewN k) (by simp))

set_option maxHeartbeats 1000000 in
theorem fit_ok (w : World) : Calls Try.prog 7 #[] w fun e w' => e = .returned (.bool true) ∧ Upd [] w w' := by
  go_enter Try.func7, Try.ntmps7
  have q0 := Own.new (Upd.refl [] w)
  generalize hp : w.heap.size = p at q0
  go_wp2_with fail
  refine (o_dial w p 0 _ [] _ q0 (by omega) (by simp)).mono ?_
  rintro e w1 ⟨rfl, q1⟩
  go_wp2_with fail
  refine (o_send w p 1 _ _ _ 0 ⟨#[97, 98]⟩ q1 (by omega) (by decide +kernel) (by decide +kernel)).mono ?_
  rintro e w2 ⟨rfl, q2⟩
  have e1 : sendOk (dialTo (fun _ => Cn.new) 0 0) ⟨#[97, 98]⟩ = true := by kernel_rfl
  rw [e1]
  go_wp2_with fail
  refine (o_accept w p 1 0 _ [] _ q2 (by simp)).mono ?_
  rintro e w3 ⟨rfl, q3⟩
  go_wp2_with fail
  refine (o_read w p 1 _ _ _ 0 ⟨#[97, 98]⟩ [] q3 (by omega) (by kernel_rfl) (by decide +kernel)).mono ?_
  rintro e w4 ⟨rfl, q4⟩
  go_wp2_with fail
  refine (o_write w p 1 _ _ _ 0 ⟨#[120]⟩ q4 (by omega) (by decide +kernel)).mono ?_
  rintro e w5 ⟨rfl, q5⟩
  have c1 := Hd.mk (q5.q_written 0 ⟨#[120]⟩ (by kernel_rfl))
  have c2 := Hd.mk (q5.q_came 0 2 (by kernel_rfl))
  have c3 := Hd.mk q5.q_len
  have u5 := Hd.mk q5.out
  clear q0 q1 q2 q3 q4 q5 e1
  go_wp2_with fail
  refine (c1.out 0).mono ?_
  rintro e w6 ⟨rfl, k6, rfl⟩
  go_wp2_with fail
  refine (c2.out _).mono ?_
  rintro e w7 ⟨rfl, k7, rfl⟩
  go_wp2_with fail
  refine (c3.out _).mono ?_
  rintro e w8 ⟨rfl, k8, rfl⟩
  go_wp2_with fail
  go_ret
  exact ⟨rfl, u5.out.drewN _⟩
end Go.Proofs.Ytpjkckhgkaefdaa