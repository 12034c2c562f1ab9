/- Calls to a net by any number: what they answer, and what becomes of the connections. -/
import Derived.Test.YtpjkckhgkaefdaaN7
namespace Go.Proofs.Ytpjkckhgkaefdaa
set_option linter.unusedSimpArgs false
set_option linter.unusedVariables false
set_option linter.unnecessarySimpa false
open Go.RowKit BigFrame

def Cn.send (s : ByteArray) (x : Cn) : Cn := if sendOk x s then { x with inn := x.inn ++ [s], came := x.came + s.size } else x
def Cn.mshut (x : Cn) : Cn := if x.open3 then { x with shut := true } else x
def Cn.mreset (x : Cn) : Cn := if x.open2 then { x with reset := true, inn := [] } else x
def Cn.mwrite (s : ByteArray) (x : Cn) : Cn := if x.open2 then { x with written := x.written ++ s } else x
def Cn.mclose (x : Cn) : Cn := { x with closed := true }
def Cn.mread (x : Cn) : Cn := { x with inn := x.inn.tail }
def Cn.mtake (x : Cn) : Cn := { x with taken := true }

/-- The connections, one of which was turned. -/
def apM (M : Nat → Cn) (n : Nat) (i : Int) (f : Cn → Cn) : Nat → Cn := fun k => if (k : Int) = i ∧ k < n then f (M k) else M k
theorem apM_in {M : Nat → Cn} {n i : Nat} (f : Cn → Cn) (h : i < n) : apM M n i f = upM M i (f (M i)) := by
  funext k
  unfold apM upM
  by_cases e : k = i
  · subst e; rw [if_pos ⟨rfl, h⟩, if_pos rfl]
  · rw [if_neg (by omega), if_neg e]
theorem apM_out {M : Nat → Cn} {n : Nat} {i : Int} (f : Cn → Cn) (h : i < 0 ∨ (n : Int) ≤ i) : apM M n i f = M := by
  funext k
  unfold apM
  rw [if_neg (by omega)]
theorem apM_self {M : Nat → Cn} {n i : Nat} (f : Cn → Cn) (h : i < n) : apM M n i f i = f (M i) := by
  unfold apM; rw [if_pos ⟨rfl, h⟩]
theorem apM_ne {M : Nat → Cn} {n i : Nat} {j : Int} (f : Cn → Cn) (h : (i : Int) ≠ j) : apM M n j f i = M i := by
  unfold apM; rw [if_neg (by omega)]

def inn (n : Nat) (i : Int) : Bool := decide (0 ≤ i ∧ i < n)
theorem inn_in {n i : Nat} (h : i < n) : inn n i = true := by unfold inn; simp; omega
theorem inn_out {n : Nat} {i : Int} (h : i < 0 ∨ (n : Int) ≤ i) : inn n i = false := by unfold inn; simp; omega

theorem upM_same {α : Type} (M : Nat → α) (i : Nat) : upM M i (M i) = M := by
  funext k; unfold upM; split <;> simp_all

theorem t_send (w0 : World) (p n : Nat) (M : Nat → Cn) (D : List Nat) (w : World) (i : Int) (s : ByteArray) (v : Bool) (h : Own w0 w p n M D) (hs : (nth M n i).came + s.size ≤ 1000000) (hl : (nth M n i).inn.length ≤ 1000000) (hv : (inn n i && sendOk (nth M n i) s) = v) :
    Calls Try.prog 9 #[.pointer (some ⟨p, 0, none⟩), .int .i64 i, .string s] w fun e w' => e = .returned (.bool v) ∧ Own w0 w' p n (apM M n i (Cn.send s)) D := by
  subst hv
  rcases int_split i n with ⟨j, rfl, hj⟩ | hj
  · rw [nth_in hj] at hs hl ⊢
    rw [inn_in hj, apM_in _ hj]
    have := o_send w0 p n M D w j s h hj hs hl
    unfold sendTo sendB at this
    unfold Cn.send
    cases hq : sendOk (M j) s
    · simp only [hq] at this ⊢
      simpa [upM_same] using this
    · simp only [hq] at this ⊢
      simpa using this
  · rw [inn_out hj, apM_out _ hj]
    exact o_send_none w0 p n M D w i s h hj

theorem t_shut (w0 : World) (p n : Nat) (M : Nat → Cn) (D : List Nat) (w : World) (i : Int) (v : Bool) (h : Own w0 w p n M D) (hv : (inn n i && (nth M n i).open3) = v) :
    Calls Try.prog 17 #[.pointer (some ⟨p, 0, none⟩), .int .i64 i] w fun e w' => e = .returned (.bool v) ∧ Own w0 w' p n (apM M n i Cn.mshut) D := by
  subst hv
  rcases int_split i n with ⟨j, rfl, hj⟩ | hj
  · rw [nth_in hj, inn_in hj, apM_in _ hj]
    have := o_shut w0 p n M D w j h hj
    unfold shutTo at this
    unfold Cn.mshut
    cases hq : (M j).open3
    · simp only [hq] at this ⊢
      simpa [upM_same] using this
    · simp only [hq] at this ⊢
      simpa using this
  · rw [inn_out hj, apM_out _ hj]
    exact o_shut_none w0 p n M D w i h hj

theorem t_reset (w0 : World) (p n : Nat) (M : Nat → Cn) (D : List Nat) (w : World) (i : Int) (v : Bool) (h : Own w0 w p n M D) (hv : (inn n i && (nth M n i).open2) = v) :
    Calls Try.prog 16 #[.pointer (some ⟨p, 0, none⟩), .int .i64 i] w fun e w' => e = .returned (.bool v) ∧ Own w0 w' p n (apM M n i Cn.mreset) D := by
  subst hv
  rcases int_split i n with ⟨j, rfl, hj⟩ | hj
  · rw [nth_in hj, inn_in hj, apM_in _ hj]
    have := o_reset w0 p n M D w j h hj
    unfold resetTo at this
    unfold Cn.mreset
    cases hq : (M j).open2
    · simp only [hq] at this ⊢
      simpa [upM_same] using this
    · simp only [hq] at this ⊢
      simpa using this
  · rw [inn_out hj, apM_out _ hj]
    exact o_reset_none w0 p n M D w i h hj

theorem t_close (w0 : World) (p n : Nat) (M : Nat → Cn) (D : List Nat) (w : World) (i : Int) (h : Own w0 w p n M D) :
    Calls Try.prog 15 #[.pointer (some ⟨p, 0, none⟩), .int .i64 i] w fun e w' => e = .returned (.tuple #[]) ∧ Own w0 w' p n (apM M n i Cn.mclose) D := by
  rcases int_split i n with ⟨j, rfl, hj⟩ | hj
  · rw [apM_in _ hj]
    exact o_close w0 p n M D w j h hj
  · rw [apM_out _ hj]
    exact o_close_none w0 p n M D w i h hj

theorem t_write (w0 : World) (p n : Nat) (M : Nat → Cn) (D : List Nat) (w : World) (i : Int) (s : ByteArray) (h : Own w0 w p n M D) (hs : (nth M n i).written.size + s.size ≤ 1000000) :
    Calls Try.prog 14 #[.pointer (some ⟨p, 0, none⟩), .int .i64 i, .string s] w fun e w' => e = .returned (.tuple #[]) ∧ Own w0 w' p n (apM M n i (Cn.mwrite s)) D := by
  rcases int_split i n with ⟨j, rfl, hj⟩ | hj
  · rw [nth_in hj] at hs
    rw [apM_in _ hj]
    have := o_write w0 p n M D w j s h hj hs
    unfold writeTo at this
    unfold Cn.mwrite
    cases hq : (M j).open2
    · simp only [hq] at this ⊢
      simpa [upM_same] using this
    · simp only [hq] at this ⊢
      simpa using this
  · rw [apM_out _ hj]
    exact o_write_none w0 p n M D w i s h hj

theorem t_read (w0 : World) (p n : Nat) (M : Nat → Cn) (D : List Nat) (w : World) (i : Int) (s : ByteArray) (v : Bool) (h : Own w0 w p n M D) (hl : (nth M n i).inn.length ≤ 1000000) (hs : (nth M n i).inn.headD ⟨#[]⟩ = s) (hv : (!(nth M n i).inn.isEmpty) = v) :
    Calls Try.prog 11 #[.pointer (some ⟨p, 0, none⟩), .int .i64 i] w fun e w' => e = .returned (.tuple #[.string s, .bool v]) ∧ Own w0 w' p n (apM M n i Cn.mread) D := by
  subst hv
  subst hs
  rcases int_split i n with ⟨j, rfl, hj⟩ | hj
  · rw [nth_in hj] at hl ⊢
    rw [apM_in _ hj]
    cases hq : (M j).inn with
    | nil =>
      have := o_read_empty w0 p n M D w j h hj hq
      have e : Cn.mread (M j) = M j := by unfold Cn.mread; rw [hq]; cases hM : M j; simp_all
      rw [e, upM_same]
      simpa using this
    | cons s r =>
      have := o_read w0 p n M D w j s r h hj hq hl
      unfold readTo at this
      unfold Cn.mread
      rw [hq]
      simpa using this
  · rw [nth_out hj, apM_out _ hj]
    exact o_read_none w0 p n M D w i h hj
end Go.Proofs.Ytpjkckhgkaefdaa
