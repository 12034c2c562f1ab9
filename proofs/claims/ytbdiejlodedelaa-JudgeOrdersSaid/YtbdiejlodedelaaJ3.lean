/- Judge: may. -/
import Derived.Test.YtbdiejlodedelaaJ2
namespace Go.Proofs.Ytbdiejlodedelaa
set_option linter.unusedSimpArgs false
set_option linter.unusedVariables false
set_option linter.unnecessarySimpa false
open Go.RowKit BigFrame

theorem bit_test (t j : Nat) : ((t : Int) / 2 ^ j % 2 == 0) = !t.testBit j := by
  rw [Nat.testBit_eq_decide_div_mod_eq]
  have h : ((t : Int) / 2 ^ j % 2) = ((t / 2 ^ j % 2 : Nat) : Int) := by push_cast; rfl
  rw [h]
  have := Nat.mod_two_eq_zero_or_one (t / 2 ^ j)
  rcases this with e | e <;> simp [e]
theorem may_no {O : Nat → Op} {n t i j : Nat} (hj : j < n) (hb : t.testBit j = false) (hne : j ≠ i) (h : (O j).e < (O i).b) : may O n t i = false := by
  unfold may
  rw [show (List.range n).all (fun j => t.testBit j || j == i || !decide ((O j).e < (O i).b)) = false by
    rw [List.all_eq_false]
    exact ⟨j, by simpa using hj, by simp [hb, hne, h]⟩]
  rfl
theorem may_yes {O : Nat → Op} {n t i : Nat} (h : ∀ j, j < n → (t.testBit j || j == i || !decide ((O j).e < (O i).b)) = true) : may O n t i = !t.testBit i := by
  unfold may
  rw [show (List.range n).all (fun j => t.testBit j || j == i || !decide ((O j).e < (O i).b)) = true by
    rw [List.all_eq_true]
    intro j hj
    exact h j (by simpa using hj)]
  simp

set_option maxHeartbeats 1000000 in
theorem may_ok (p d : Nat) (a : Option Addr) (n cap : Nat) (v : Value) (O : Nat → Op) (t i : Nat) (w : World) (hs : Blk w p [.slice a n cap, v, .map (some d)] 46) (h : Rd w a n O) (hn : n ≤ 12) (hi : i < n) :
    Calls Try.prog 18 #[.pointer (some ⟨p, 0, none⟩), .int .i64 t, .int .i64 i] w fun e w' => e = .returned (.bool (may O n t i)) ∧ Upd [] w w' := by
  have HR := Hd.mk h
  have HS := Hd.mk hs
  have c0 := hs.cell 0
  simp only [List.getElem?_cons_zero, List.getElem?_cons_succ] at c0
  clear h hs
  go_enter Try.func18, Try.ntmps18
  go_wp2
  go_loopg [14] n (fun g ii wr => ∃ j : Nat, ii = .int .i64 j ∧ g + j = n ∧ Upd [] w wr ∧ Hd (∀ k, k < j → (t.testBit k || k == i || !decide ((O k).e < (O i).b)) = true))
  case atStart => exact ⟨0, rfl, by omega, Upd.refl _ _, Hd.mk (by omega)⟩
  case round =>
    obtain ⟨j, rfl, hg, u, HA⟩ := hrel
    by_cases hlt : j < n
    · obtain ⟨b, off, rfl, hb, c0, c1, c2, c3, c4, c5⟩ := (HR.out.upd u).at j hlt
      have HU := Hd.mk u
      have HG := Hd.mk hg
      clear u hg
      go_upto_region 4 with (fail)
      refine wp_abs (fun W => Upd [] w W ∧ Blk W wr.heap.size (O j).cells 31) ⟨HU.out.alloc _, Blk.new wr (O j).cells 31 _ rfl⟩ ?_
      rintro w5 ⟨u5, tb⟩
      clear c0 c1 c2 c3 c4 c5
      have c0 := tb.cell 0
      have c1 := tb.cell 1
      have c2 := tb.cell 2
      have c3 := tb.cell 3
      have c4 := tb.cell 4
      have c5 := tb.cell 5
      simp only [Op.cells, List.getElem?_cons_zero, List.getElem?_cons_succ] at c0 c1 c2 c3 c4 c5
      generalize wr.heap.size = cb at *
      have bt := bit_test t j
      have HN := Hd.mk (fun (hq : (t.testBit j || j == i || !decide ((O j).e < (O i).b)) = true) k (hk : k < j + 1) => show (t.testBit k || k == i || !decide ((O k).e < (O i).b)) = true by
        by_cases e : k = j
        · subst e; exact hq
        · exact HA.out k (by omega))
      clear HA
      cases hbit : t.testBit j with
      | true =>
        rw [hbit] at bt
        have bt : ((t : Int) / 2 ^ j % 2 == 0) = false := bt
        have HN := Hd.mk (HN.out (by simp [hbit]))
        clear hbit
        refine wp_region_quiet_lit (by kernel_rfl) (by kernel_rfl) ?_
        repeat (go_big_quiet_step (fail))
        refine wpQuiet_nil ?_
        (intro _ hw'; obtain ⟨nq, hw''⟩ := hw'; subst hw'')
        go_wp2
        go_roundg (gk - 1)
        case measure => have := HG.out; omega
        case rel => exact ⟨j + 1, by go_num, by have := HG.out; omega, u5.drewN _, HN⟩
      | false =>
        rw [hbit] at bt
        have bt : ((t : Int) / 2 ^ j % 2 == 0) = true := bt
        by_cases hji : j = i
        · subst hji
          have HN := Hd.mk (HN.out (by simp))
          clear hbit
          refine wp_region_quiet_lit (by kernel_rfl) (by kernel_rfl) ?_
          repeat (go_big_quiet_step (fail))
          refine wpQuiet_nil ?_
          (intro _ hw'; obtain ⟨nq, hw''⟩ := hw'; subst hw'')
          go_wp2
          go_roundg (gk - 1)
          case measure => have := HG.out; omega
          case rel => exact ⟨j + 1, by go_num, by have := HG.out; omega, u5.drewN _, HN⟩
        · have hne : ((j : Int) != i) = true := by simp; omega
          obtain ⟨b', off', hbb, hb', -, d1, -⟩ := (HR.out.upd u5).at i hi
          obtain ⟨rfl, rfl⟩ : b = b' ∧ off = off' := by simpa using hbb
          have p0 := (u5.blk HS.out (by simp)).cell 0
          simp only [List.getElem?_cons_zero] at p0
          by_cases hlt2 : (O j).e < (O i).b
          · have hd : decide ((O j).e < (O i).b) = true := by simpa using hlt2
            have hf := Hd.mk (may_no hlt hbit hji hlt2)
            clear hbit HN hji hbb
            refine wp_region_quiet_lit (by kernel_rfl) (by kernel_rfl) ?_
            repeat (go_big_quiet_step (fail))
            refine wpQuiet_nil ?_
            (intro _ hw'; obtain ⟨nq, hw''⟩ := hw'; subst hw'')
            go_wp2
            go_ret
            exact ⟨rb hf.out.symm, u5.drewN _⟩
          · have hd : decide ((O j).e < (O i).b) = false := by simpa using hlt2
            have HN := Hd.mk (HN.out (by rw [hd]; simp))
            clear hbit hji hbb hlt2
            refine wp_region_quiet_lit (by kernel_rfl) (by kernel_rfl) ?_
            repeat (go_big_quiet_step (fail))
            refine wpQuiet_nil ?_
            (intro _ hw'; obtain ⟨nq, hw''⟩ := hw'; subst hw'')
            go_wp2
            go_roundg (gk - 1)
            case measure => have := HG.out; omega
            case rel => exact ⟨j + 1, by go_num, by have := HG.out; omega, u5.drewN _, HN⟩
    · obtain rfl : j = n := by omega
      have hf := Hd.mk (may_yes HA.out)
      have bt := bit_test t i
      clear hlt
      go_wp2
      go_ret
      exact ⟨rb (by rw [hf.out]), u⟩
end Go.Proofs.Ytbdiejlodedelaa
