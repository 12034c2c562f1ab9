/- Holders: HolderVersions. -/
import Derived.Test.YtaefooandfnloaaDoorH3
namespace Go.Proofs.YtaefooandfnloaaDoor
set_option linter.unusedSimpArgs false
set_option linter.unusedVariables false
set_option linter.unnecessarySimpa false
open Go.RowKit BigFrame

abbrev badT : Bs := [71, 69, 84, 32, 47, 97, 32, 110, 111, 98, 111, 100, 121]
abbrev goodT : Bs := [71, 69, 84, 32, 47, 97, 32, 103, 101, 116]
def oneL : List Rt := [⟨[71, 69, 84], [47, 97], [103, 101, 116]⟩]
theorem bad_prs : prs badT = (1, []) := by decide +kernel
theorem good_prs : prs goodT = (0, oneL) := by decide +kernel
def vL (n : Nat) : List Rt := if 1 < n then oneL else []
theorem vL_one : vL 1 = [] := rfl
theorem vL_more {n : Nat} (h : 1 ≤ n) : vL (n + 1) = oneL := by unfold vL; rw [if_pos (by omega)]
theorem two_look (n : Nat) (hn : 1 ≤ n) : ∃ (kb : Bool) (z : Nat), decide ((1 : Int) < n) = kb ∧ (vL n).length = z ∧ z = if kb = true then 1 else 0 := by
  by_cases h : 1 < n
  · exact ⟨true, 1, decide_eq_true (by omega), by unfold vL; rw [if_pos h]; rfl, rfl⟩
  · exact ⟨false, 0, decide_eq_false (by omega), by unfold vL; rw [if_neg h]; rfl, rfl⟩
abbrev kB : Bool → Value := fun k => .bool k
/-- The map in block r has true as 1 (if a), false as 0 (if b). -/
def MB (w : World) (r : Nat) (a b : Bool) : Prop := ∃ L, Mp w r kB L ∧ get L true = (if a = true then some (.int .i64 1) else none) ∧ get L false = (if b = true then some (.int .i64 0) else none)
theorem MB.upd {w w' : World} {r : Nat} {a b : Bool} (h : MB w r a b) (hu : Upd [] w w') : MB w' r a b := by
  obtain ⟨L, h1, h2⟩ := h
  exact ⟨L, h1.upd hu (by simp), h2⟩
theorem MB.new (w : World) : MB (w.alloc (.map #[] 0)) w.heap.size false false := ⟨[], Mp.new w kB, rfl, rfl⟩
theorem upd_over {B X W : World} {r : Nat} (hu : Upd [] B X) (h : Upd [r] X W) (hr : B.heap.size ≤ r) : Upd [] B W :=
  hu.trans h (by intro k hk e; rw [List.mem_singleton] at e; omega)
theorem insT {B X : World} {r : Nat} {b : Bool} (h : MB X r false b) (hr : B.heap.size ≤ r) (hu : Upd [] B X) : ∃ W, (Instr.mapUpdate 35 (.map (some r)) (.bool true) (.int .i64 1)).run Tryd.prog X = .ok () W ∧ MB W r true b ∧ Upd [] B W := by
  obtain ⟨L, h, g1, g2⟩ := h
  obtain ⟨c, w', h1, h2, h3⟩ := run_update_mp (P := Tryd.prog) (keyLaw_bool Tryd.underlying4) 35 Tryd.underlying35 h true (.int .i64 1)
  exact ⟨w', h1, ⟨_, h2, by rw [get_put]; rfl, by rw [get_put, g2]; rfl⟩, upd_over hu h3 hr⟩
theorem insF {B X : World} {r : Nat} {a : Bool} (h : MB X r a false) (hr : B.heap.size ≤ r) (hu : Upd [] B X) : ∃ W, (Instr.mapUpdate 35 (.map (some r)) (.bool false) (.int .i64 0)).run Tryd.prog X = .ok () W ∧ MB W r a true ∧ Upd [] B W := by
  obtain ⟨L, h, g1, g2⟩ := h
  obtain ⟨c, w', h1, h2, h3⟩ := run_update_mp (P := Tryd.prog) (keyLaw_bool Tryd.underlying4) 35 Tryd.underlying35 h false (.int .i64 0)
  exact ⟨w', h1, ⟨_, h2, by rw [get_put, g1]; rfl, by rw [get_put]; rfl⟩, upd_over hu h3 hr⟩
theorem look2 {X : World} {r : Nat} {kb : Bool} {z : Nat} (hz : z = if kb = true then 1 else 0) (h : MB X r true true) : (Instr.lookup 35 (.map (some r)) (.bool kb) false).run Tryd.prog X = .ok (.int .i64 z) X := by
  obtain ⟨L, h, g1, g2⟩ := h
  have := run_lookup_mp (P := Tryd.prog) (keyLaw_bool Tryd.underlying4) 35 Tryd.underlying35 (.int .i64 0) (fun W => by kernel_rfl) h kb false
  simp only [Bool.false_eq_true, if_false] at this
  rw [this]
  subst hz
  cases kb
  · rw [g2]; rfl
  · rw [g1]; rfl
theorem chain4 {B X : World} {r : Nat} {kb : Bool} {z : Nat} (hz : z = if kb = true then 1 else 0) (h : MB X r false false) (hr : B.heap.size ≤ r) (hu : Upd [] B X) :
    ∃ T F U V, (Instr.mapUpdate 35 (.map (some r)) (.bool true) (.int .i64 1)).run Tryd.prog X = .ok () T ∧ (Instr.mapUpdate 35 (.map (some r)) (.bool false) (.int .i64 0)).run Tryd.prog X = .ok () F ∧
      (Instr.mapUpdate 35 (.map (some r)) (.bool false) (.int .i64 0)).run Tryd.prog T = .ok () U ∧ (Instr.mapUpdate 35 (.map (some r)) (.bool true) (.int .i64 1)).run Tryd.prog F = .ok () V ∧
      (Instr.lookup 35 (.map (some r)) (.bool kb) false).run Tryd.prog U = .ok (.int .i64 z) U ∧ (Instr.lookup 35 (.map (some r)) (.bool kb) false).run Tryd.prog V = .ok (.int .i64 z) V ∧
      Hd ((MB T r true false ∧ Upd [] B T) ∧ (MB F r false true ∧ Upd [] B F) ∧ (MB U r true true ∧ Upd [] B U) ∧ (MB V r true true ∧ Upd [] B V)) := by
  obtain ⟨T, t1, t2, t3⟩ := insT h hr hu
  obtain ⟨F, f1, f2, f3⟩ := insF h hr hu
  obtain ⟨U, u1, u2, u3⟩ := insF t2 hr t3
  obtain ⟨V, v1, v2, v3⟩ := insT f2 hr f3
  exact ⟨T, F, U, V, t1, f1, u1, v1, look2 hz u2, look2 hz v2, ⟨t2, t3⟩, ⟨f2, f3⟩, ⟨u2, u3⟩, v2, v3⟩
set_option maxRecDepth 100000 in
set_option maxHeartbeats 4000000 in
theorem versions_row (a0 : Option Addr) (len0 cap0 : Nat) (w : World) (hT : HTab w) (w0 : Leaf.ok w (.sl [.bool]) (.slice a0 len0 cap0)) :
    Calls Tryd.prog 3 #[.slice a0 len0 cap0] w fun e w' => e = .returned (.bool true) ∧ Below w.heap.size w w' := by
  obtain ⟨B, rfl, hB, hn⟩ := leaf_bools w0
  have HT := Hd.mk hT
  have HB := Hd.mk hB
  clear hT w0 hB
  have sf0 := snap_f0
  have sf1 := snap_f1
  go_enter Tryd.func3, Tryd.ntmps3
  go_wp2_with fail
  refine (hfit_ok w HT.out).mono ?_
  rintro e w1 ⟨rfl, u1⟩
  have HU := Hd.mk u1
  clear u1
  by_cases h100 : 100 < B.length
  · have d0 : decide ((100 : Int) < B.length) = true := decide_eq_true (by omega)
    go_wp2_with fail
    go_ret
    exact ⟨rfl, HU.out.below _ (Nat.le_refl _) (by simp)⟩
  have d0 : decide ((100 : Int) < B.length) = false := decide_eq_false (by omega)
  go_wp2_with fail
  refine (new_ok (.slice none 0 0) [] w1 (HT.out.upd HU.out) (Sl.nil _ _ _) (by decide) (by simp)).mono ?_
  rintro e w2 ⟨hb, tv, rv, rfl, hh, hu, hge⟩
  have HN := Hd.mk (show Hol w2 hb tv rv 1 (vL 1) ∧ Upd [] w1 w2 ∧ w1.heap.size ≤ hb from ⟨hh, hu, hge⟩)
  clear hh hu hge d0
  go_upto_region 8 with (fail)
  go_loopg [4, 6, 7, 8, 9, 18] B.length (fun g s4 s6 s7 s8 s9 ii wr => ∃ (k n : Nat) (tv rv : Value), g + k = B.length ∧ ii = .int .i64 k ∧ s4 = .int .i64 n ∧ n ≤ k + 1 ∧ 1 ≤ n ∧ Hd (Hol wr hb tv rv n (vL n)) ∧ Hd (Upd [] w1 wr))
  case atStart => exact ⟨0, 1, tv, rv, by omega, rfl, rfl, by omega, by omega, Hd.mk HN.out.1, Hd.mk HN.out.2.1⟩
  case round =>
    obtain ⟨k, n, tv, rv, hg, rfl, rfl, hn1, hn2, HH, HV⟩ := hrel
    have HG := Hd.mk hg
    clear hg
    have h0 := HH.out
    obtain ⟨tb, rfl⟩ := h0.sn.ptr
    obtain ⟨ra, rc, rfl⟩ := h0.sn.rs.form
    clear h0
    by_cases hk : k < B.length
    · obtain ⟨b, off, cap, hv, -, -, hc⟩ := (HB.out.upd (HU.out.trans HV.out (by simp)) (by simp)).some (by omega)
      simp only [Value.slice.injEq, true_and] at hv
      obtain ⟨rfl, rfl⟩ := hv
      have k0 := hc k (by omega)
      rw [List.getElem?_map, List.getElem?_eq_getElem hk] at k0
      generalize B[k] = x at k0
      rw [Option.map_some] at k0
      clear hc
      cases x with
      | false =>
        have HSW := Hd.mk (swap_ok hb n _ _ (vL n) badT wr (HT.out.upd (HU.out.trans HV.out (by simp))) HH.out (by omega) (by decide))
        rw [bad_prs] at HSW
        go_wp2_with fail
        refine HSW.out.mono ?_
        rintro e w3 (⟨-, rfl, u3⟩ | ⟨h, -⟩)
        rotate_left
        · exact absurd h (by decide)
        have HH := Hd.mk (HH.out.up u3)
        have HV := Hd.mk (HV.out.trans u3 (by simp))
        clear u3 HSW k0
        go_wp2_with fail
        refine (load_ok hb n _ _ (vL n) w3 HH.out).mono ?_
        rintro e w4 ⟨rfl, u4⟩
        have HH := Hd.mk (HH.out.up u4)
        have HV := Hd.mk (HV.out.trans u4 (by simp))
        clear u4
        go_wp2_with fail
        go_roundg (gk - 1)
        case measure => have := HG.out; omega
        case rel => exact ⟨k + 1, n, _, _, by have := HG.out; omega, by go_num, rfl, by omega, by omega, HH, HV⟩
      | true =>
        have HSW := Hd.mk (swap_ok hb n _ _ (vL n) goodT wr (HT.out.upd (HU.out.trans HV.out (by simp))) HH.out (by omega) (by decide))
        rw [good_prs] at HSW
        go_wp2_with fail
        refine HSW.out.mono ?_
        rintro e w3 (⟨h, -⟩ | ⟨-, rfl, tv2, rv2, hh, u3⟩)
        · exact absurd rfl h
        obtain ⟨tb2, rfl⟩ := hh.sn.ptr
        obtain ⟨ra2, rc2, rfl⟩ := hh.sn.rs.form
        rw [show ((0, oneL) : Nat × List Rt).2 = vL (n + 1) from (vL_more hn2).symm] at hh
        have hcast : ((n + 1 : Nat) : Int) = (n : Int) + 1 := by omega
        rw [hcast]
        have HH := Hd.mk hh
        have HV := Hd.mk ((HV.out.mono (by simp) : Upd [] w1 wr).trans u3 (by intro k hk e; rw [List.mem_singleton] at e; have := HN.out.2.2; omega))
        clear u3 HSW k0 hh
        go_wp2_with fail
        refine (load_ok hb (n + 1) _ _ (vL (n + 1)) w3 HH.out).mono ?_
        rintro e w4 ⟨rfl, u4⟩
        have HH := Hd.mk (HH.out.up u4)
        have HV := Hd.mk (HV.out.trans u4 (by simp))
        rw [hcast]
        clear u4 hcast
        go_wp2_with fail
        go_roundg (gk - 1)
        case measure => have := HG.out; omega
        case rel => exact ⟨k + 1, n + 1, _, _, by have := HG.out; omega, by go_num, by go_num, by omega, by omega, HH, HV⟩
    · obtain rfl : k = B.length := by have := HG.out; omega
      clear hk
      go_upto_region 18 with (fail)
      obtain ⟨kb, z, hkb, hz, hgt⟩ := two_look n hn2
      have HZ := Hd.mk (And.intro hz hgt)
      clear hz hgt
      have HLD := Hd.mk (fun X (hu : Upd [] wr X) => (load_ok hb n _ _ (vL n) X (HH.out.up hu)).mono (R' := fun e w6 => e = .returned (.agg #[.pointer (some ⟨tb, 0, none⟩), .int .i64 n, .slice ra (vL n).length rc]) ∧ Upd [] X w6 ∧ Upd [] wr w6) (by rintro e w6 ⟨rfl, h6⟩; exact ⟨rfl, h6, hu.trans h6 (by simp)⟩))
      have HLN := Hd.mk (fun X (hu : Upd [] wr X) => Tr.len (.pointer (some ⟨tb, 0, none⟩)) (vL n) X (HH.out.up hu).sn.tr)
      rw [HZ.out.1] at HLD HLN
      rw [HZ.out.1] at *
      have hmm := @run_makeMap Tryd.prog
      have HU0 := Hd.mk (show Upd [] wr (wr.alloc (.map #[] 0)).drew from ((Upd.refl [] wr).alloc _).drew)
      have HM0 := Hd.mk (show MB (wr.alloc (.map #[] 0)).drew wr.heap.size false false from (MB.new wr).upd (Upd.refl [] _).drew)
      obtain ⟨X1, X2, X3, X4, i1, i2, i3, i4, i5, i6, HX⟩ := chain4 (B := wr) HZ.out.2 HM0.out (Nat.le_refl _) HU0.out
      have HFIN := Hd.mk (fun W (h : Upd [] wr W) => ((HU.out.trans HV.out (by simp)).trans h (by simp)).below _ (Nat.le_refl _) (by simp))
      have tok1 := HLD
      have tok2 := HLD
      go_region_law (first
        | (have _t := tok1; refine step_func rfl 9 #[.tmp 51] #[24] rfl #[.pointer (some ⟨hb, 0, none⟩)] (by go_simp) (by go_simp) (.agg #[.pointer (some ⟨tb, 0, none⟩), .int .i64 n, .slice ra z rc]) ?_; refine (Calls.mono (HLD.out _ ?hup) ?_); (case hup => repeat (first | with_reducible exact HX.out.1.2 | with_reducible exact HX.out.2.1.2 | with_reducible exact HX.out.2.2.1.2 | with_reducible exact HX.out.2.2.2.2 | with_reducible exact Upd.refl _ _ | ((with_reducible refine Upd.set ?_ _ _ ?hne); (case hne => (simp; omega))) | with_reducible apply Upd.drewN | with_reducible apply Upd.drew | with_reducible apply Upd.alloc)); rintro e w6 ⟨he, hx6, hu6⟩; refine ⟨he, ?_⟩; clear he; have HUL := Hd.mk hu6; have hs6 := hu6.size; (first | (have j5 := look2 HZ.out.2 (HX.out.2.2.1.1.upd hx6)) | (have j5 := look2 HZ.out.2 (HX.out.2.2.2.1.upd hx6)) | (have hq := insF (B := wr) (HX.out.1.1.upd hx6) (Nat.le_refl _) hu6; obtain ⟨Y1, j1, n1, q1⟩ := hq; have j5 := look2 HZ.out.2 n1; have HY1 := Hd.mk q1; clear n1 q1) | (have hq := insT (B := wr) (HX.out.2.1.1.upd hx6) (Nat.le_refl _) hu6; obtain ⟨Y1, j1, n1, q1⟩ := hq; have j5 := look2 HZ.out.2 n1; have HY1 := Hd.mk q1; clear n1 q1) | (have hq := chain4 (B := wr) HZ.out.2 (HM0.out.upd hx6) (Nat.le_refl _) hu6; obtain ⟨Y1, Y2, Y3, Y4, j1, j2, j3, j4, j5, j6, HY⟩ := hq) | (have hq := chain4 (B := wr) HZ.out.2 (MB.new w6) hs6 (hu6.alloc _); obtain ⟨Y1, Y2, Y3, Y4, j1, j2, j3, j4, j5, j6, HY⟩ := hq)); clear tok1 _t hu6 hx6 hs6)
        | (have _t := tok2; refine step_func rfl 10 #[.tmp 53] #[29] rfl #[.pointer (some ⟨tb, 0, none⟩)] (by go_simp) (by go_simp) (.int .i64 z) ?_; refine (Calls.mono (HLN.out _ ?hup) ?_); (case hup => repeat (first | with_reducible exact HY.out.1.2 | with_reducible exact HY.out.2.1.2 | with_reducible exact HY.out.2.2.1.2 | with_reducible exact HY.out.2.2.2.2 | with_reducible exact HY1.out | with_reducible exact HUL.out | ((with_reducible refine Upd.set ?_ _ _ ?hne); (case hne => (simp; omega))) | with_reducible apply Upd.drewN | with_reducible apply Upd.drew | with_reducible apply Upd.alloc)); rintro e w9 ⟨he, hw9⟩; refine ⟨he, ?_⟩; clear he; have hw9 := hw9.symm; subst hw9; clear tok2 _t))
      all_goals
        go_wp2_with fail
        go_ret
        refine ⟨rfl, HFIN.out _ ?hw⟩
        case hw => repeat (first | with_reducible exact HY.out.1.2 | with_reducible exact HY.out.2.1.2 | with_reducible exact HY.out.2.2.1.2 | with_reducible exact HY.out.2.2.2.2 | with_reducible exact HY1.out | with_reducible exact HX.out.2.2.1.2 | with_reducible exact HX.out.2.2.2.2 | with_reducible exact HUL.out | with_reducible exact Upd.refl _ _ | ((with_reducible refine Upd.set ?_ _ _ ?hne); (case hne => (simp; omega))) | with_reducible apply Upd.drewN | with_reducible apply Upd.drew | with_reducible apply Upd.alloc)
end Go.Proofs.YtaefooandfnloaaDoor
