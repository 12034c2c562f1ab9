/- Tables: Handler, Right, Len; a pattern's Shape. -/
import Derived.Test.YtndlbkiogagnaaaGreatDoorV18
namespace Go.Proofs.YtndlbkiogagnaaaGreatDoor
set_option linter.unusedSimpArgs false
set_option linter.unusedVariables false
set_option linter.unnecessarySimpa false
open Go.RowKit BigFrame

def hv (i : Nat) : ByteArray := ⟨(handlers.getD i []).toArray⟩
theorem index_hv (i : Nat) (hi : i < 8) (W : World) : (Instr.index 154 (.agg #[.string ⟨#[103, 101, 116]⟩, .string ⟨#[112, 117, 116]⟩, .string ⟨#[100, 101, 108, 101, 116, 101]⟩, .string ⟨#[108, 105, 115, 116]⟩, .string ⟨#[119, 97, 108, 107]⟩, .string ⟨#[104, 101, 97, 108, 116, 104]⟩, .string ⟨#[114, 101, 108, 111, 97, 100]⟩, .string ⟨#[115, 104, 117, 116, 100, 111, 119, 110]⟩]) (.int .i64 i)).run Tryz.prog W = .ok (.string (hv i)) W := by
  rcases (by omega : i = 0 ∨ i = 1 ∨ i = 2 ∨ i = 3 ∨ i = 4 ∨ i = 5 ∨ i = 6 ∨ i = 7) with e | e | e | e | e | e | e | e <;> subst e <;> kernel_rfl
set_option maxRecDepth 100000 in
set_option maxHeartbeats 2000000 in
theorem handler_ok (s : Bs) (w : World) (hT : HTab w) : Calls Tryz.prog 110 #[S s] w fun e w' => e = .returned (.bool (decide (s ∈ handlers))) ∧ w' = w := by
  have c0 := hT.cell (by kernel_rfl : Tryz.prog.globalNamed "crossroad/table.Handlers" = some 3) 0 (by decide)
  have c1 := hT.cell (by kernel_rfl : Tryz.prog.globalNamed "crossroad/table.Handlers" = some 3) 1 (by decide)
  have c2 := hT.cell (by kernel_rfl : Tryz.prog.globalNamed "crossroad/table.Handlers" = some 3) 2 (by decide)
  have c3 := hT.cell (by kernel_rfl : Tryz.prog.globalNamed "crossroad/table.Handlers" = some 3) 3 (by decide)
  have c4 := hT.cell (by kernel_rfl : Tryz.prog.globalNamed "crossroad/table.Handlers" = some 3) 4 (by decide)
  have c5 := hT.cell (by kernel_rfl : Tryz.prog.globalNamed "crossroad/table.Handlers" = some 3) 5 (by decide)
  have c6 := hT.cell (by kernel_rfl : Tryz.prog.globalNamed "crossroad/table.Handlers" = some 3) 6 (by decide)
  have c7 := hT.cell (by kernel_rfl : Tryz.prog.globalNamed "crossroad/table.Handlers" = some 3) 7 (by decide)
  simp only [handlers, S, List.getElem_cons_zero, List.getElem_cons_succ] at c0 c1 c2 c3 c4 c5 c6 c7
  obtain ⟨sb, hsb⟩ : ∃ t : ByteArray, (⟨s.toArray⟩ : ByteArray) = t := ⟨_, rfl⟩
  have HSB := Hd.mk (show sb.data.toList = s by rw [← hsb])
  unfold S
  rw [hsb]
  clear hT hsb
  go_enter Tryz.func110, Tryz.ntmps110
  go_upto_region 1 with (fail)
  go_wp2_with fail
  go_loopg [4, 6] 8 (fun g s4 ii wr => ∃ k : Nat, g + k = 8 ∧ ii = .int .i64 k ∧ Hd (s ∉ handlers.take k) ∧ wr = w)
  case atStart => exact ⟨0, by omega, rfl, Hd.mk (by simp), rfl⟩
  case round =>
    obtain ⟨k, hg, rfl, HN, rfl⟩ := hrel
    have HG := Hd.mk hg
    clear hg
    by_cases hk : k < 8
    · have hix := index_hv k hk
      have hk8 : k < handlers.length := by simpa [handlers] using hk
      have HHV := Hd.mk (show (hv k).data.toList = handlers[k] by simp [hv, hk8])
      have HTK := Hd.mk (show handlers.take (k + 1) = handlers.take k ++ [handlers[k]] from List.take_succ_eq_append_getElem hk8)
      have HM := Hd.mk (List.getElem_mem hk8)
      generalize hv k = hb at hix HHV
      by_cases he : hb = sb
      · have y1 := str_yes he
        have HIN := Hd.mk (show s ∈ handlers by rw [← HSB.out, ← he, HHV.out]; exact HM.out)
        clear he HM HTK HHV
        go_wp2_with fail
        go_ret
        exact ⟨congrArg (fun b => Ending.returned (.bool b)) (decide_eq_true HIN.out).symm, rfl⟩
      · have y1 := str_no he
        have HNX := Hd.mk (show s ∉ handlers.take (k + 1) by
          rw [HTK.out, List.mem_append, not_or]
          refine ⟨HN.out, fun h => he (toList_inj ?_)⟩
          rw [List.mem_singleton] at h
          rw [HHV.out, HSB.out, h])
        clear he HM HTK HHV
        go_wp2_with fail
        go_roundg (gk - 1)
        case measure => have := HG.out; omega
        case rel => exact ⟨k + 1, by have := HG.out; omega, by go_num, HNX, rfl⟩
    · obtain rfl : k = 8 := by have := HG.out; omega
      have HN2 := Hd.mk (show s ∉ handlers from HN.out)
      go_wp2_with fail
      go_ret
      exact ⟨congrArg (fun b => Ending.returned (.bool b)) (decide_eq_false HN2.out).symm, rfl⟩
/-- May it be a route? -/
def rgtB (r : Rt) : Bool := patR r.p && tokB r.m && decide (r.h ∈ handlers)
theorem right_ok (r : Rt) (w : World) (hT : HTab w) (hp : r.p.length ≤ 800000) (hm : r.m.length ≤ 800000) : Calls Tryz.prog 74 #[.agg r.cells.toArray] w fun e w' => e = .returned (.bool (rgtB r)) ∧ Upd [] w w' := by
  have HT := Hd.mk hT
  clear hT
  show Calls Tryz.prog 74 #[.agg #[S r.m, S r.p, S r.h]] w _
  go_enter Tryz.func74, Tryz.ntmps74
  go_wp2_with fail
  refine (pattern_ok r.p _ hp).mono ?_
  rintro e w2 ⟨v, rfl, hb⟩
  have hbk := hb.upd.blk (Blk.new w [S r.m, S r.p, S r.h] 90 _ rfl) (by simp)
  have U2 := Hd.mk (((Upd.refl [] w).alloc _).trans hb.upd (by simp))
  obtain ⟨pa, pc, rfl⟩ := hb.sl.form
  generalize w.heap.size = y at hbk ⊢
  have c0 := hbk.cell 0
  have c2 := hbk.cell 2
  simp only [S, List.getElem?_cons_zero, List.getElem?_cons_succ] at c0 c2
  obtain ⟨rm, hrm⟩ : ∃ t : ByteArray, (⟨r.m.toArray⟩ : ByteArray) = t := ⟨_, rfl⟩
  have HRM := Hd.mk (show rm.data.toList = r.m by rw [← hrm])
  have HRZ := Hd.mk (show rm.size ≤ 800000 by rw [← hrm, S_size']; exact hm)
  rw [hrm] at c0
  have HBK := Hd.mk hbk
  clear hb hbk hrm
  by_cases h1 : patR r.p = true
  · have HP := Hd.mk h1
    rw [h1]
    clear h1
    go_wp2_with fail
    refine (token_ok rm _ (by have := HRZ.out; omega)).mono ?_
    rintro e w3 ⟨rfl, u3⟩
    rw [HRM.out]
    have U3 := Hd.mk (U2.out.trans u3 (by simp))
    have c2 := (u3.blk HBK.out (by simp)).cell 2
    simp only [S, List.getElem?_cons_zero, List.getElem?_cons_succ] at c2
    clear u3
    by_cases h2 : tokB r.m = true
    · have HP2 := Hd.mk h2
      rw [h2]
      clear h2
      go_wp2_with fail
      refine (handler_ok r.h w3 (HT.out.upd U3.out)).mono ?_
      rintro e w4 ⟨rfl, hw⟩
      subst hw
      go_wp2_with fail
      go_ret
      exact ⟨by unfold rgtB; rw [HP.out, HP2.out, Bool.and_self, Bool.true_and]; rfl, U3.out⟩
    · have h2 : tokB r.m = false := by simpa using h2
      have HP2 := Hd.mk h2
      rw [h2]
      clear h2
      go_wp2_with fail
      go_ret
      exact ⟨by unfold rgtB; rw [HP2.out, Bool.and_false, Bool.false_and]; rfl, U3.out⟩
  · have h1 : patR r.p = false := by simpa using h1
    have HP := Hd.mk h1
    rw [h1]
    clear h1
    go_wp2_with fail
    go_ret
    exact ⟨by unfold rgtB; rw [HP.out, Bool.false_and, Bool.false_and]; rfl, U2.out⟩
end Go.Proofs.YtndlbkiogagnaaaGreatDoor
