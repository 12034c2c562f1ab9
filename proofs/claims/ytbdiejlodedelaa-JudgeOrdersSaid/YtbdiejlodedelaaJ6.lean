/- Judge: Order; the laws' fit. -/
import Derived.Test.YtbdiejlodedelaaJ5
namespace Go.Proofs.Ytbdiejlodedelaa
set_option linter.unusedSimpArgs false
set_option linter.unusedVariables false
set_option linter.unnecessarySimpa false
open Go.RowKit BigFrame

def ordRes (O : Nat → Op) (n : Nat) : Option (List Nat) := if rightB O n then srch O n n 0 St.none else none
def nums (l : List Nat) : List Value := l.map fun i : Nat => Value.int .i64 i
/-- What Order leaves. -/
def Ordd (w : World) (O : Nat → Op) (n : Nat) (e : Ending) (w' : World) : Prop :=
  (∃ l v, ordRes O n = some l ∧ e = .returned (.tuple #[v, .bool true]) ∧ Bld w w' 3 1 v l.length (nums l)) ∨
  (ordRes O n = none ∧ e = .returned (.tuple #[.slice none 0 0, .bool false]) ∧ Upd [] w w')
theorem left_zero (n : Nat) : (left n 0).length = n := by
  unfold left
  rw [List.filter_eq_self.2 (by simp)]
  simp

set_option maxHeartbeats 2000000 in
theorem order_ok (a : Option Addr) (n cap : Nat) (O : Nat → Op) (w : World) (h : Rd w a n O) (hn : n ≤ maxLen) :
    Calls Try.prog 9 #[.slice a n cap] w (Ordd w O n) := by
  have HR := Hd.mk h
  clear h
  have hmm := @run_makeMap Try.prog
  cases hrt : rightB O n with
  | false =>
    have HF := Hd.mk hrt
    clear hrt hmm
    go_enter Try.func9, Try.ntmps9
    go_wp2_with fail
    refine (right_ok a n cap O w HR.out hn).mono ?_
    rw [HF.out]
    rintro e w1 ⟨rfl, u1⟩
    go_wp2_with fail
    go_ret2
    exact .inr ⟨by unfold ordRes; rw [HF.out]; rfl, rfl, u1⟩
  | true =>
    have HF := Hd.mk hrt
    have h12 : n ≤ 12 := by
      unfold rightB at hrt
      simp at hrt
      exact hrt.2
    clear hrt
    go_enter Try.func9, Try.ntmps9
    go_wp2_with fail
    refine (right_ok a n cap O w HR.out hn).mono ?_
    rw [HF.out]
    rintro e w1 ⟨rfl, u1⟩
    go_wp2_with fail
    have d1 := Mp.new w1 (fun k : ByteArray => Value.string k)
    have p1 := Blk.new (w1.alloc (.map #[] 0)) [.slice a n cap, .slice none 0 0, .map (some w1.heap.size)] 46 (w1.heap.size + 1) (by simp)
    have m1 := Mp.new ((w1.alloc (.map #[] 0)).alloc (.cells #[.slice a n cap, .slice none 0 0, .map (some w1.heap.size)] 46)) (fun k : ByteArray => Value.string k)
    have hz := u1.size
    have uu : Upd [] w (((w1.alloc (.map #[] 0)).alloc (.cells #[.slice a n cap, .slice none 0 0, .map (some w1.heap.size)] 46)).alloc (.map #[] 0)) := ((u1.alloc _).alloc _).alloc _
    have HS := Hd.mk (show Se w (((w1.alloc (.map #[] 0)).alloc (.cells #[.slice a n cap, .slice none 0 0, .map (some w1.heap.size)] 46)).alloc (.map #[] 0)) (w1.heap.size + 1) w1.heap.size a n cap O (.slice none 0 0) [] [] from
      ⟨p1.alloc _, Bld.nil uu _ _, (d1.upd ((Upd.refl [] _).alloc _) (by simp)).upd ((Upd.refl [] _).alloc _) (by simp), Dead.nil _ _, by omega, hz⟩)
    have HM : Hd (MS (((w1.alloc (.map #[] 0)).alloc (.cells #[.slice a n cap, .slice none 0 0, .map (some w1.heap.size)] 46)).alloc (.map #[] 0)) (w1.heap.size + 2) St.none 0) := Hd.mk ⟨[], by simpa using m1, by intro k; rfl, rfl⟩
    clear d1 p1 m1 uu
    refine (on_ok O n a cap (w1.heap.size + 1) w1.heap.size w h12 HR.out n 0 St.none (w1.heap.size + 2) 0 (.slice none 0 0) [] [] _ HS.out HM.out (by omega) (Reg.none O n) (Nat.two_pow_pos n) (left_zero n) (by simpa using h12)).mono ?_
    rintro e w2 (⟨l, hsr, rfl, v, L, S⟩ | ⟨hsr, rfl, v, L, S, -⟩)
    · have h1 := S.head
      have S2 := Hd.mk S
      have HSR := Hd.mk hsr
      have c0 := h1.cell 0
      have c1 := h1.cell 1
      simp only [List.getElem?_cons_zero, List.getElem?_cons_succ] at c0 c1
      obtain ⟨a2, c2, rfl⟩ := S.way.sl.form
      clear S h1 hsr hmm hz
      go_wp2_with fail
      go_ret2
      refine .inl ⟨l, _, by unfold ordRes; rw [HF.out]; exact HSR.out, rfl, ?_⟩
      have := S2.out.way
      simpa [nums] using this
    · have S2 := Hd.mk S
      have HSR := Hd.mk hsr
      clear S hsr hmm hz
      go_wp2_with fail
      go_ret2
      exact .inr ⟨by unfold ordRes; rw [HF.out]; exact HSR.out, rfl, S2.out.way.upd⟩
end Go.Proofs.Ytbdiejlodedelaa
