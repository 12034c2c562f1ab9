/- A walk. -/
import Derived.Test.YtljleibefijkkaaDoorW1
import Derived.Deep.DeepCutAuto
import Derived.Deep.RegionWith
namespace Go.Proofs.YtljleibefijkkaaDoor
set_option linter.unusedSimpArgs false
set_option linter.unusedVariables false
set_option linter.unnecessarySimpa false
open Go.RowKit BigFrame

def WalkR (o : Option Wk) (w : World) (e : Ending) (w' : World) : Prop :=
  Upd [] w w' ∧ match o with
    | some k => ∃ cs, WkC k cs ∧ e = .returned (.tuple #[.agg cs.toArray, .bool true])
    | none => e = .returned (.tuple #[.agg zeroW.toArray, .bool false])
theorem WalkR.none {o : Option Wk} {w w' : World} (ho : o = .none) (hu : Upd [] w w') : WalkR o w (.returned (.tuple #[.agg zeroW.toArray, .bool false])) w' := by
  subst ho; exact ⟨hu, rfl⟩
theorem WalkR.some {o : Option Wk} {k : Wk} {cs : List Value} {w w' : World} (ho : o = .some k) (hu : Upd [] w w') (hc : WkC k cs) : WalkR o w (.returned (.tuple #[.agg cs.toArray, .bool true])) w' := by
  subst ho; exact ⟨hu, cs, hc, rfl⟩

set_option maxHeartbeats 2000000 in
theorem walk_ok (s : ByteArray) (w : World) (hs : s.size ≤ 9223372036854775807) :
    Calls Tryd.prog 10 #[.string s] w (WalkR (walkM s.data.toList) w) := by
  have hlen : s.data.toList.length = s.size := by simp
  by_cases hl : 40 < s.size
  · have h0 : walkM s.data.toList = none := by unfold walkM; rw [if_neg (by omega)]
    have H0 := Hd.mk h0
    clear h0 hlen
    go_enter Tryd.func10, Tryd.ntmps10
    go_wp2_with fail
    refine (new_ok _).mono ?_
    rintro e w1 ⟨rfl, u1⟩
    have hb := u1.blk (Blk.new w zeroW 26 _ rfl) (by simp)
    have hb0 := hb.cell 0
    have hb1 := hb.cell 1
    have hf0 := hb.free 0
    have hf1 := hb.free 1
    have hz := hb.lt
    have u0 := (Upd.refl [] w).alloc (.cells zeroW.toArray 26)
    simp only [zeroW, List.getElem?_cons_zero, List.getElem?_cons_succ] at hb0 hb1
    simp only [newW]
    have U1 := Hd.mk (u0.trans u1 (by simp))
    have HB := Hd.mk hb
    have hzz : w.heap.size ≠ w1.heap.size := by omega
    clear u0 u1 hb
    go_wp2_with fail
    refine bodyPost_ret (results_cell_tmp _ _ _ 2 3 26 w.heap.size zeroW 26 rfl rfl ?_ (by kernel_rfl) (by kernel_rfl)) rfl (WalkR.none H0.out ?_)
    · exact (((HB.out.set 0 _).set 1 _).as rfl).alloc _
    · exact ((U1.out.set _ _ (by simp)).set _ _ (by simp)).alloc _
  · have hl : s.size ≤ 40 := by omega
    have HM := Hd.mk (show walkM s.data.toList = steps s.data.toList by unfold walkM; rw [if_pos (by omega)])
    have HL := Hd.mk hlen
    clear hlen
    go_enter Tryd.func10, Tryd.ntmps10
    go_wp2_with fail
    refine (new_ok _).mono ?_
    rintro e w1 ⟨rfl, u1⟩
    have hb := u1.blk (Blk.new w zeroW 26 _ rfl) (by simp)
    have hz := hb.lt
    have u0 := (Upd.refl [] w).alloc (.cells zeroW.toArray 26)
    simp only [newW]
    have U1 := Hd.mk (u0.trans u1 (by simp))
    have HB := Hd.mk hb
    have hzz : w.heap.size ≠ w1.heap.size := by omega
    clear u0 u1 hb
    go_wp2_with fail
    refine wp_abs (fun W => Blk W w.heap.size zeroW 26 ∧ Blk W w1.heap.size newW 26 ∧ Upd [] w W) ⟨HB.out.alloc _, Blk.new w1 newW _ _ rfl, U1.out.alloc _⟩ ?_
    rintro w2 ⟨b1, b2, u2⟩
    have Y := Hd.mk (show w.heap.size ≤ w1.heap.size from Nat.le_of_lt hz)
    clear U1 HB hz
    generalize w1.heap.size = cb at b2 hzz Y ⊢
    generalize hrb : w.heap.size = rb at b1 hzz ⊢
    have YR := Hd.mk hrb
    clear hrb
    go_loopg [14] s.size (fun g i wr => ∃ (j : Nat) (k : Wk) (cs : List Value), j + g = s.size ∧ i = .int .i64 j ∧ Hd (steps (s.data.toList.take j) = some k) ∧ WkC k cs ∧ Blk wr rb zeroW 26 ∧ Blk wr cb cs 26 ∧ Upd [] w wr)
    case atStart => exact ⟨0, Wk.new, newW, by omega, rfl, Hd.mk rfl, WkC.new, b1, b2, u2⟩
    case round =>
      obtain ⟨j, k, cs, hj, rfl, HS, hv, b1, b2, u2⟩ := hrel
      have hok := (steps_ok _ _ HS.out).more (show _ ≤ 40 by rw [List.length_take]; omega)
      by_cases hlt : j < s.size
      · have HT : Hd (s.data.toList.take (j + 1) = s.data.toList.take j ++ [s[j]]) := Hd.mk (by rw [List.take_succ_eq_append_getElem (by simpa using hlt)]; rfl)
        have hv0 := hv
        obtain ⟨a, b, x, y, rfl, -⟩ := hv0
        have HV := Hd.mk (And.intro b1 (And.intro b2 u2))
        have c0 := b2.cell 0
        have c1 := b2.cell 1
        have f0 := b2.free 0
        have f1 := b2.free 1
        have r0 := b1.cell 0
        have r1 := b1.cell 1
        have q0 := b1.free 0
        have q1 := b1.free 1
        simp only [zeroW, List.getElem?_cons_zero, List.getElem?_cons_succ] at c0 c1 r0 r1
        clear b1 b2 u2
        go_wp2_with fail
        have hidx : (0 : Int) ≤ j := by omega
        have hidx2 : (j : Int) < s.size := by omega
        cases hst : k.step s[j].toNat with
        | none =>
          have HN := Hd.mk (show steps s.data.toList = none by
            have h1 := steps_take (s.data.toList.take (j + 1)) (s.data.toList.drop (j + 1)) (by rw [HT.out, steps_snoc, HS.out]; exact hst)
            rwa [List.take_append_drop] at h1)
          have HST := Hd.mk hst
          clear hst
          go_region_with ((go_at_call 13; refine (step_none k _ _ _ hv HST.out).mono ?_; rintro e w4 ⟨rfl, u4⟩; have k1 := u4.blk (HV.out.2.1.drewN 1) (by simp); have m0 := k1.cell 0; have m1 := k1.cell 1; have g0 := k1.free 0; have g1 := k1.free 1; simp only [List.getElem?_cons_zero, List.getElem?_cons_succ] at m0 m1; simp only [zeroW]; have k0 := u4.blk (HV.out.1.drewN 1) (by simp); have s0 := k0.cell 0; have s1 := k0.cell 1; have t0 := k0.free 0; have t1 := k0.free 1; simp only [zeroW, List.getElem?_cons_zero, List.getElem?_cons_succ] at s0 s1; have HK := Hd.mk (And.intro k0 (And.intro k1 u4)); clear k0 k1 u4))
          all_goals
            clear c0 c1 f0 f1 r0 r1 q0 q1
            go_wp2_with fail
            refine bodyPost_ret (results_cell_tmp _ _ _ 2 3 26 rb zeroW 26 rfl rfl ?_ (by kernel_rfl) (by kernel_rfl)) rfl (WalkR.none (HM.out.trans HN.out) ?_)
            · refine Blk.as (cs := (zeroW.set 0 (.complex .f64 0 0)).set 1 (.complex .f64 0 0)) ?_ rfl
              have h := HK.out.1
              repeat (first | with_reducible exact h | with_reducible apply Blk.drewN | with_reducible apply Blk.drew | with_reducible apply Blk.set | ((with_reducible refine Blk.set_ne ?_ _ _ ?hne); (case hne => first | exact hzz | (simp; omega))) | with_reducible apply Blk.alloc)
            · have h := (HV.out.2.2.drew).trans HK.out.2.2 (by simp)
              have y1 := Y.out
              have y2 := YR.out
              repeat (first | with_reducible exact h | ((with_reducible refine Upd.set ?_ _ _ ?hne); (case hne => (simp; omega))) | with_reducible apply Upd.drewN | with_reducible apply Upd.drew | with_reducible apply Upd.alloc)
        | some k' =>
          have HN := Hd.mk (show steps (s.data.toList.take (j + 1)) = some k' by rw [HT.out, steps_snoc, HS.out]; exact hst)
          have HST := Hd.mk hst
          clear hst
          go_region_with ((go_at_call 13; refine (step_some k k' _ _ _ hv hok HST.out).mono ?_; rintro e w4 ⟨cs, hw, rfl, u4⟩; obtain ⟨a', b', x', y', rfl, zz⟩ := hw; have ZZ := Hd.mk zz; clear zz; have k1 := u4.blk (HV.out.2.1.drewN 1) (by simp); have m0 := k1.cell 0; have m1 := k1.cell 1; have g0 := k1.free 0; have g1 := k1.free 1; simp only [List.getElem?_cons_zero, List.getElem?_cons_succ] at m0 m1; have k0 := u4.blk (HV.out.1.drewN 1) (by simp); have HK := Hd.mk (And.intro k0 (And.intro k1 u4)); clear k0 k1 u4))
          all_goals
            clear c0 c1 f0 f1 r0 r1 q0 q1
            go_wp2_with fail
            go_roundg (gk - 1)
            case measure => omega
            case rel =>
              refine ⟨j + 1, k', [.complex .f64 a' b', .complex .f64 x' y'], by omega, by simp, HN, ⟨a', b', x', y', rfl, ZZ.out⟩, ?_, ?_, ?_⟩
              · have h := HK.out.1
                repeat (first | with_reducible exact h | with_reducible apply Blk.drewN | with_reducible apply Blk.drew | with_reducible apply Blk.set | ((with_reducible refine Blk.set_ne ?_ _ _ ?hne); (case hne => first | exact hzz | (simp; omega))) | with_reducible apply Blk.alloc)
              · refine Blk.as (cs := ([.complex .f64 a b, .complex .f64 x y].set 0 (.complex .f64 a' b')).set 1 (.complex .f64 x' y')) ?_ rfl
                have h := HK.out.2.1
                repeat (first | with_reducible exact h | with_reducible apply Blk.drewN | with_reducible apply Blk.drew | with_reducible apply Blk.set | ((with_reducible refine Blk.set_ne ?_ _ _ ?hne); (case hne => first | exact hzz | (simp; omega))) | with_reducible apply Blk.alloc)
              · have h := (HV.out.2.2.drew).trans HK.out.2.2 (by simp)
                have y1 := Y.out
                have y2 := YR.out
                repeat (first | with_reducible exact h | ((with_reducible refine Upd.set ?_ _ _ ?hne); (case hne => (simp; omega))) | with_reducible apply Upd.drewN | with_reducible apply Upd.drew | with_reducible apply Upd.alloc)
      · obtain rfl : j = s.size := by omega
        have HN := Hd.mk (show steps s.data.toList = some k by have h := HS.out; rw [← HL.out, List.take_length] at h; exact h)
        obtain ⟨a, b, x, y, rfl, zz⟩ := hv
        have ZZ := Hd.mk zz
        have HV := Hd.mk (And.intro b1 (And.intro b2 u2))
        have c0 := b2.cell 0
        have c1 := b2.cell 1
        have f0 := b2.free 0
        have f1 := b2.free 1
        have r0 := b1.cell 0
        have r1 := b1.cell 1
        have q0 := b1.free 0
        have q1 := b1.free 1
        simp only [zeroW, List.getElem?_cons_zero, List.getElem?_cons_succ] at c0 c1 r0 r1
        clear b1 b2 u2 zz
        go_wp2_with fail
        refine bodyPost_ret (results_cell_tmp _ _ _ 2 3 26 rb [.complex .f64 a b, .complex .f64 x y] 26 rfl rfl ?_ (by kernel_rfl) (by kernel_rfl)) rfl (WalkR.some (HM.out.trans HN.out) ?_ ⟨a, b, x, y, rfl, ZZ.out⟩)
        · refine Blk.as (cs := (zeroW.set 0 (.complex .f64 a b)).set 1 (.complex .f64 x y)) ?_ rfl
          have h := HV.out.1
          repeat (first | with_reducible exact h | with_reducible apply Blk.drewN | with_reducible apply Blk.drew | with_reducible apply Blk.set | ((with_reducible refine Blk.set_ne ?_ _ _ ?hne); (case hne => first | exact hzz | (simp; omega))) | with_reducible apply Blk.alloc)
        · have h := HV.out.2.2
          have y1 := Y.out
          have y2 := YR.out
          repeat (first | with_reducible exact h | ((with_reducible refine Upd.set ?_ _ _ ?hne); (case hne => (simp; omega))) | with_reducible apply Upd.drewN | with_reducible apply Upd.drew | with_reducible apply Upd.alloc)
end Go.Proofs.YtljleibefijkkaaDoor
