/- WalkLong: as many steps as may be are walked; two walks, one behind the other, are one. -/
import Derived.Test.YtljleibefijkkaaDoorW6
import Derived.Deep.DeepCutAuto
import Derived.Deep.RegionWith
namespace Go.Proofs.YtljleibefijkkaaDoor
set_option linter.unusedSimpArgs false
set_option linter.unusedVariables false
set_option linter.unnecessarySimpa false
open Go.RowKit BigFrame

theorem data_app (a b : ByteArray) : (a ++ b).data.toList = a.data.toList ++ b.data.toList := by simp
/-- Steps on from a walker. -/
def stepsOn (k : Wk) (l : List UInt8) : Option Wk := l.foldl (fun o c => o.bind fun k => k.step c.toNat) (some k)
theorem stepsOn_snoc (k : Wk) (l : List UInt8) (c : UInt8) : stepsOn k (l ++ [c]) = (stepsOn k l).bind fun k => k.step c.toNat := by
  simp [stepsOn, List.foldl_append]
theorem stepsOn_take (k : Wk) (l m : List UInt8) (h : stepsOn k l = none) : stepsOn k (l ++ m) = none := by
  unfold stepsOn at h ⊢
  rw [List.foldl_append, h, foldl_none]
theorem steps_app (l m : List UInt8) (k : Wk) (h : steps l = some k) : steps (l ++ m) = stepsOn k m := by
  unfold steps at h ⊢
  unfold stepsOn
  rw [List.foldl_append, h]
theorem stepsOn_ok (k : Wk) (n : Nat) (hk : k.ok n) (l : List UInt8) (k' : Wk) (h : stepsOn k l = some k') : k'.ok (n + l.length) := by
  induction hn : l.length generalizing l k' with
  | zero =>
    have : l = [] := List.eq_nil_of_length_eq_zero hn
    subst this
    cases h
    exact hk
  | succ m ih =>
    have hne : l ≠ [] := by intro e; subst e; cases hn
    rw [← List.dropLast_concat_getLast hne, stepsOn_snoc] at h
    cases hs : stepsOn k l.dropLast with
    | none => rw [hs] at h; cases h
    | some k0 =>
      rw [hs] at h
      exact (ih l.dropLast k0 hs (by simp [hn])).step h

set_option maxRecDepth 100000 in
set_option maxHeartbeats 4000000 in
theorem long_walk (a b : ByteArray) (w : World) (ha : a.size ≤ 9223372036854775807) (hb : b.size ≤ 9223372036854775807) (hT : Tab w) :
    Calls Tryd.prog 7 #[.string a, .string b] w fun e w' => e = .returned (.bool true) ∧ Upd [] w w' := by
  have HT := Hd.mk hT
  clear hT
  by_cases hl : 60 < a.size
  · have h0 : decide ((60 : Int) < a.size) = true := by simp; omega
    go_enter Tryd.func7, Tryd.ntmps7
    go_wp2_with fail
    refine (fit_ok w HT.out).mono ?_
    rintro e w1 ⟨rfl, u1⟩
    go_wp2_with fail
    go_ret
    exact ⟨rfl, u1⟩
  have h0 : decide ((60 : Int) < a.size) = false := by simp; omega
  by_cases hl2 : 60 < b.size
  · have h1 : decide ((60 : Int) < b.size) = true := by simp; omega
    go_enter Tryd.func7, Tryd.ntmps7
    go_wp2_with fail
    refine (fit_ok w HT.out).mono ?_
    rintro e w1 ⟨rfl, u1⟩
    go_wp2_with fail
    go_ret
    exact ⟨rfl, u1⟩
  have h1 : decide ((60 : Int) < b.size) = false := by simp; omega
  have hl : a.size ≤ 60 := by omega
  have hl2 : b.size ≤ 60 := by omega
  have la : a.data.toList.length = a.size := by simp
  have lb : b.data.toList.length = b.size := by simp
  have hab : (a ++ b).size = a.size + b.size := by simp [ByteArray.size_append]
  have hdat := data_app a b
  -- the ways of the first walk and of the whole one
  have key : (walkM a.data.toList = none ∧ walkM (a ++ b).data.toList = none) ∨
      ∃ k, walkM a.data.toList = some k ∧ k.ok a.size ∧ a.size ≤ 40 ∧ (40 < a.size + b.size ∧ walkM (a ++ b).data.toList = none ∨ a.size + b.size ≤ 40 ∧ walkM (a ++ b).data.toList = stepsOn k b.data.toList) := by
    unfold walkM
    rw [hdat, List.length_append, la, lb]
    by_cases h40 : a.size ≤ 40
    · rw [if_pos h40]
      cases hs : steps a.data.toList with
      | none =>
        left
        refine ⟨rfl, ?_⟩
        rw [steps_take _ _ hs]
        split <;> rfl
      | some k =>
        right
        have := steps_ok _ _ hs
        rw [la] at this
        refine ⟨k, rfl, this, h40, ?_⟩
        by_cases h : a.size + b.size ≤ 40
        · right; rw [if_pos h]; exact ⟨h, steps_app _ _ _ hs⟩
        · left; rw [if_neg h]; exact ⟨by omega, rfl⟩
    · left
      rw [if_neg h40, if_neg (by omega)]
      exact ⟨rfl, rfl⟩
  have HK := Hd.mk key
  have HA := Hd.mk (And.intro la (And.intro lb hab))
  clear key la lb hdat hab
  rcases HK.out with ⟨k1, k2⟩ | ⟨k, k1, ko, k40, hk⟩
  · have H1 := Hd.mk (And.intro k1 k2)
    clear k1 k2 HK
    go_enter Tryd.func7, Tryd.ntmps7
    go_wp2_with fail
    refine (fit_ok w HT.out).mono ?_
    rintro e w1 ⟨rfl, u1⟩
    go_wp2_with fail
    refine (walk_no a w1 ha H1.out.1).mono ?_
    rintro e w2 ⟨rfl, u2⟩
    have U := Hd.mk (u1.trans u2 (by simp))
    clear u1 u2
    simp only [zeroW]
    go_wp2_with fail
    refine (walk_no (a ++ b) _ (by rw [HA.out.2.2]; omega) H1.out.2).mono ?_
    rintro e w3 ⟨rfl, u3⟩
    have U3 := Hd.mk ((U.out.alloc _).trans u3 (by simp))
    clear u3
    simp only [zeroW]
    by_cases h40 : 40 < a.size
    · go_wp2_with fail
      go_ret
      exact ⟨rfl, U3.out.alloc _⟩
    · go_wp2_with fail
      go_ret
      exact ⟨rfl, U3.out.alloc _⟩
  · rcases hk with ⟨k2, k3⟩ | ⟨k2, k3⟩
    · have H1 := Hd.mk (And.intro k1 (And.intro k3 ko))
      clear k1 k3 HK ko
      have h40 : ¬ 40 < a.size := by omega
      have h41 : decide ((40 : Int) < a.size + b.size) = true := by simp; omega
      go_enter Tryd.func7, Tryd.ntmps7
      go_wp2_with fail
      refine (fit_ok w HT.out).mono ?_
      rintro e w1 ⟨rfl, u1⟩
      go_wp2_with fail
      refine (walk_yes a w1 ha k H1.out.1).mono ?_
      rintro e w2 ⟨cs, hc, rfl, u2⟩
      obtain ⟨c0, c1, c2, c3, rfl, -⟩ := hc
      have U := Hd.mk (u1.trans u2 (by simp))
      clear u1 u2
      go_wp2_with fail
      refine (walk_no (a ++ b) _ (by rw [HA.out.2.2]; omega) H1.out.2.1).mono ?_
      rintro e w3 ⟨rfl, u3⟩
      have U3 := Hd.mk ((U.out.alloc _).trans u3 (by simp))
      clear u3
      simp only [zeroW]
      go_wp2_with fail
      go_ret
      exact ⟨rfl, U3.out.alloc _⟩
    · have H1 := Hd.mk (And.intro k1 (And.intro k3 ko))
      clear k1 k3 HK ko
      have h40 : ¬ 40 < a.size := by omega
      have h41 : decide ((40 : Int) < a.size + b.size) = false := by simp; omega
      cases hr : stepsOn k b.data.toList with
      | none =>
        have HR := Hd.mk hr
        clear hr
        go_enter Tryd.func7, Tryd.ntmps7
        go_wp2_with fail
        refine (fit_ok w HT.out).mono ?_
        rintro e w1 ⟨rfl, u1⟩
        go_wp2_with fail
        refine (walk_yes a w1 ha k H1.out.1).mono ?_
        rintro e w2 ⟨cs, hc, rfl, u2⟩
        have hc0 := hc
        obtain ⟨c0, c1, c2, c3, rfl, -⟩ := hc0
        have U := Hd.mk (u1.trans u2 (by simp))
        have HC := Hd.mk hc
        clear u1 u2 hc
        go_wp2_with fail
        refine (walk_no (a ++ b) _ (by rw [HA.out.2.2]; omega) (H1.out.2.1.trans HR.out)).mono ?_
        rintro e w3 ⟨rfl, u3⟩
        simp only [zeroW]
        have b1 := u3.blk (Blk.new w2 [.complex .f64 c0 c1, .complex .f64 c2 c3] 26 _ rfl) (by simp)
        have hz := b1.lt
        have U3 := Hd.mk ((U.out.alloc (.cells #[.complex .f64 c0 c1, .complex .f64 c2 c3] 26)).trans u3 (by simp))
        have hw0 := Nat.le_trans (U.out.size) (Nat.le_refl _)
        have hw3 := U3.out.size
        have B1 := Hd.mk b1
        clear u3 b1
        go_wp2_with fail
        refine wp_abs (fun W => Blk W w2.heap.size [.complex .f64 c0 c1, .complex .f64 c2 c3] 26 ∧ Blk W w3.heap.size zeroW 26 ∧ Upd [] w W) ⟨B1.out.alloc _, Blk.new w3 zeroW _ _ rfl, U3.out.alloc _⟩ ?_
        rintro w4 ⟨b1, b2, u4⟩
        have Y := Hd.mk (And.intro hw0 hw3)
        have hxy : w2.heap.size ≠ w3.heap.size := by omega
        clear B1 U3 hz hw0 hw3
        generalize w2.heap.size = xb at b1 hxy Y ⊢
        generalize w3.heap.size = yb at b2 hxy Y ⊢
        go_loopg [56] b.size (fun g i wr => ∃ (j : Nat) (kj : Wk) (cs : List Value), j + g = b.size ∧ i = .int .i64 j ∧ Hd (stepsOn k (b.data.toList.take j) = some kj) ∧ WkC kj cs ∧ Blk wr xb cs 26 ∧ Blk wr yb zeroW 26 ∧ Upd [] w wr)
        case atStart => exact ⟨0, k, _, by omega, rfl, Hd.mk rfl, HC.out, b1, b2, u4⟩
        case round =>
          obtain ⟨j, kj, cs, hj, rfl, HS, hv, b1, b2, u4⟩ := hrel
          have hok0 := stepsOn_ok k a.size H1.out.2.2 _ _ HS.out
          have hok : kj.ok 40 := hok0.more (by rw [List.length_take]; omega)
          clear hok0
          by_cases hlt : j < b.size
          · have HT2 : Hd (b.data.toList.take (j + 1) = b.data.toList.take j ++ [b[j]]) := Hd.mk (by rw [List.take_succ_eq_append_getElem (by simpa using hlt)]; rfl)
            have hv0 := hv
            obtain ⟨a0, a1, a2, a3, rfl, -⟩ := hv0
            have HV := Hd.mk (And.intro b1 (And.intro b2 u4))
            have c0' := b1.cell 0
            have c1' := b1.cell 1
            have f0 := b1.free 0
            have f1 := b1.free 1
            simp only [List.getElem?_cons_zero, List.getElem?_cons_succ] at c0' c1'
            clear b1 b2 u4
            go_wp2_with fail
            have hidx : (0 : Int) ≤ j := by omega
            have hidx2 : (j : Int) < b.size := by omega
            cases hst : kj.step b[j].toNat with
            | none =>
              have HST := Hd.mk hst
              clear hst
              go_region_with ((go_at_call 13; refine (step_none kj _ _ _ hv HST.out).mono ?_; rintro e w5 ⟨rfl, u5⟩; have k1 := u5.blk (HV.out.1.drewN 1) (by simp); have m0 := k1.cell 0; have m1 := k1.cell 1; have g0 := k1.free 0; have g1 := k1.free 1; simp only [List.getElem?_cons_zero, List.getElem?_cons_succ] at m0 m1; simp only [zeroW]; have HK := Hd.mk (And.intro k1 u5); clear k1 u5))
              all_goals
                clear c0' c1' f0 f1
                go_wp2_with fail
                go_ret
                refine ⟨rfl, ?_⟩
                have h := (HV.out.2.2.drew).trans HK.out.2 (by simp)
                have y1 := Y.out.1
                have y2 := Y.out.2
                repeat (first | with_reducible exact h | ((with_reducible refine Upd.set ?_ _ _ ?hne); (case hne => (simp; omega))) | with_reducible apply Upd.drewN | with_reducible apply Upd.drew | with_reducible apply Upd.alloc)
            | some kn =>
              have HN := Hd.mk (show stepsOn k (b.data.toList.take (j + 1)) = some kn by rw [HT2.out, stepsOn_snoc, HS.out]; exact hst)
              have HST := Hd.mk hst
              clear hst
              go_region_with ((go_at_call 13; refine (step_some kj kn _ _ _ hv hok HST.out).mono ?_; rintro e w5 ⟨cs, hw, rfl, u5⟩; obtain ⟨a', b', x', y', rfl, zz⟩ := hw; have ZZ := Hd.mk zz; clear zz; have k1 := u5.blk (HV.out.1.drewN 1) (by simp); have m0 := k1.cell 0; have m1 := k1.cell 1; have g0 := k1.free 0; have g1 := k1.free 1; simp only [List.getElem?_cons_zero, List.getElem?_cons_succ] at m0 m1; have k0 := u5.blk (HV.out.2.1.drewN 1) (by simp); have HK := Hd.mk (And.intro k1 (And.intro k0 u5)); clear k0 k1 u5))
              all_goals
                clear c0' c1' f0 f1
                go_wp2_with fail
                go_roundg (gk - 1)
                case measure => omega
                case rel =>
                  refine ⟨j + 1, kn, [.complex .f64 a' b', .complex .f64 x' y'], by omega, by simp, HN, ⟨a', b', x', y', rfl, ZZ.out⟩, ?_, ?_, ?_⟩
                  · refine Blk.as (cs := ([.complex .f64 a0 a1, .complex .f64 a2 a3].set 0 (.complex .f64 a' b')).set 1 (.complex .f64 x' y')) ?_ rfl
                    have h := HK.out.1
                    repeat (first | with_reducible exact h | with_reducible apply Blk.drewN | with_reducible apply Blk.drew | with_reducible apply Blk.set | ((with_reducible refine Blk.set_ne ?_ _ _ ?hne); (case hne => first | exact hxy.symm | (simp; omega))) | with_reducible apply Blk.alloc)
                  · have h := HK.out.2.1
                    repeat (first | with_reducible exact h | with_reducible apply Blk.drewN | with_reducible apply Blk.drew | with_reducible apply Blk.set | ((with_reducible refine Blk.set_ne ?_ _ _ ?hne); (case hne => first | exact hxy.symm | (simp; omega))) | with_reducible apply Blk.alloc)
                  · have h := (HV.out.2.2.drew).trans HK.out.2.2 (by simp)
                    have y1 := Y.out.1
                    have y2 := Y.out.2
                    repeat (first | with_reducible exact h | ((with_reducible refine Upd.set ?_ _ _ ?hne); (case hne => (simp; omega))) | with_reducible apply Upd.drewN | with_reducible apply Upd.drew | with_reducible apply Upd.alloc)
          · obtain rfl : j = b.size := by omega
            have HN := Hd.mk (show stepsOn k b.data.toList = some kj by have h := HS.out; rw [← HA.out.2.1, List.take_length] at h; exact h)
            rw [HR.out] at HN
            cases HN.out
      | some k' =>
        have HR := Hd.mk hr
        clear hr
        go_enter Tryd.func7, Tryd.ntmps7
        go_wp2_with fail
        refine (fit_ok w HT.out).mono ?_
        rintro e w1 ⟨rfl, u1⟩
        go_wp2_with fail
        refine (walk_yes a w1 ha k H1.out.1).mono ?_
        rintro e w2 ⟨cs, hc, rfl, u2⟩
        have hc0 := hc
        obtain ⟨c0, c1, c2, c3, rfl, -⟩ := hc0
        have U := Hd.mk (u1.trans u2 (by simp))
        have HC := Hd.mk hc
        clear u1 u2 hc
        go_wp2_with fail
        refine (walk_yes (a ++ b) _ (by rw [HA.out.2.2]; omega) k' (H1.out.2.1.trans HR.out)).mono ?_
        rintro e w3 ⟨ys, hy, rfl, u3⟩
        obtain ⟨y0, y1, y2, y3, rfl, hy⟩ := hy
        have HY := Hd.mk hy
        clear hy
        have b1 := u3.blk (Blk.new w2 [.complex .f64 c0 c1, .complex .f64 c2 c3] 26 _ rfl) (by simp)
        have hz := b1.lt
        have U3 := Hd.mk ((U.out.alloc (.cells #[.complex .f64 c0 c1, .complex .f64 c2 c3] 26)).trans u3 (by simp))
        have hw0 := Nat.le_trans (U.out.size) (Nat.le_refl _)
        have hw3 := U3.out.size
        have B1 := Hd.mk b1
        clear u3 b1
        go_wp2_with fail
        refine wp_abs (fun W => Blk W w2.heap.size [.complex .f64 c0 c1, .complex .f64 c2 c3] 26 ∧ Blk W w3.heap.size [.complex .f64 y0 y1, .complex .f64 y2 y3] 26 ∧ Upd [] w W) ⟨B1.out.alloc _, Blk.new w3 [.complex .f64 y0 y1, .complex .f64 y2 y3] _ _ rfl, U3.out.alloc _⟩ ?_
        rintro w4 ⟨b1, b2, u4⟩
        have Y := Hd.mk (And.intro hw0 hw3)
        have hxy : w2.heap.size ≠ w3.heap.size := by omega
        clear B1 U3 hz hw0 hw3
        generalize w2.heap.size = xb at b1 hxy Y ⊢
        generalize w3.heap.size = yb at b2 hxy Y ⊢
        go_loopg [56] b.size (fun g i wr => ∃ (j : Nat) (kj : Wk) (cs : List Value), j + g = b.size ∧ i = .int .i64 j ∧ Hd (stepsOn k (b.data.toList.take j) = some kj) ∧ WkC kj cs ∧ Blk wr xb cs 26 ∧ Blk wr yb [.complex .f64 y0 y1, .complex .f64 y2 y3] 26 ∧ Upd [] w wr)
        case atStart => exact ⟨0, k, _, by omega, rfl, Hd.mk rfl, HC.out, b1, b2, u4⟩
        case round =>
          obtain ⟨j, kj, cs, hj, rfl, HS, hv, b1, b2, u4⟩ := hrel
          have hok0 := stepsOn_ok k a.size H1.out.2.2 _ _ HS.out
          have hok : kj.ok 40 := hok0.more (by rw [List.length_take]; omega)
          clear hok0
          by_cases hlt : j < b.size
          · have HT2 : Hd (b.data.toList.take (j + 1) = b.data.toList.take j ++ [b[j]]) := Hd.mk (by rw [List.take_succ_eq_append_getElem (by simpa using hlt)]; rfl)
            have hv0 := hv
            obtain ⟨a0, a1, a2, a3, rfl, -⟩ := hv0
            have HV := Hd.mk (And.intro b1 (And.intro b2 u4))
            have c0' := b1.cell 0
            have c1' := b1.cell 1
            have f0 := b1.free 0
            have f1 := b1.free 1
            simp only [List.getElem?_cons_zero, List.getElem?_cons_succ] at c0' c1'
            clear b1 b2 u4
            go_wp2_with fail
            have hidx : (0 : Int) ≤ j := by omega
            have hidx2 : (j : Int) < b.size := by omega
            cases hst : kj.step b[j].toNat with
            | none =>
              exfalso
              have h1 := stepsOn_take k (b.data.toList.take (j + 1)) (b.data.toList.drop (j + 1)) (by rw [HT2.out, stepsOn_snoc, HS.out]; exact hst)
              rw [List.take_append_drop, HR.out] at h1
              cases h1
            | some kn =>
              have HN := Hd.mk (show stepsOn k (b.data.toList.take (j + 1)) = some kn by rw [HT2.out, stepsOn_snoc, HS.out]; exact hst)
              have HST := Hd.mk hst
              clear hst
              go_region_with ((go_at_call 13; refine (step_some kj kn _ _ _ hv hok HST.out).mono ?_; rintro e w5 ⟨cs, hw, rfl, u5⟩; obtain ⟨a', b', x', y', rfl, zz⟩ := hw; have ZZ := Hd.mk zz; clear zz; have k1 := u5.blk (HV.out.1.drewN 1) (by simp); have m0 := k1.cell 0; have m1 := k1.cell 1; have g0 := k1.free 0; have g1 := k1.free 1; simp only [List.getElem?_cons_zero, List.getElem?_cons_succ] at m0 m1; have k0 := u5.blk (HV.out.2.1.drewN 1) (by simp); have HK := Hd.mk (And.intro k1 (And.intro k0 u5)); clear k0 k1 u5))
              all_goals
                clear c0' c1' f0 f1
                go_wp2_with fail
                go_roundg (gk - 1)
                case measure => omega
                case rel =>
                  refine ⟨j + 1, kn, [.complex .f64 a' b', .complex .f64 x' y'], by omega, by simp, HN, ⟨a', b', x', y', rfl, ZZ.out⟩, ?_, ?_, ?_⟩
                  · refine Blk.as (cs := ([.complex .f64 a0 a1, .complex .f64 a2 a3].set 0 (.complex .f64 a' b')).set 1 (.complex .f64 x' y')) ?_ rfl
                    have h := HK.out.1
                    repeat (first | with_reducible exact h | with_reducible apply Blk.drewN | with_reducible apply Blk.drew | with_reducible apply Blk.set | ((with_reducible refine Blk.set_ne ?_ _ _ ?hne); (case hne => first | exact hxy.symm | (simp; omega))) | with_reducible apply Blk.alloc)
                  · have h := HK.out.2.1
                    repeat (first | with_reducible exact h | with_reducible apply Blk.drewN | with_reducible apply Blk.drew | with_reducible apply Blk.set | ((with_reducible refine Blk.set_ne ?_ _ _ ?hne); (case hne => first | exact hxy.symm | (simp; omega))) | with_reducible apply Blk.alloc)
                  · have h := (HV.out.2.2.drew).trans HK.out.2.2 (by simp)
                    have y1 := Y.out.1
                    have y2 := Y.out.2
                    repeat (first | with_reducible exact h | ((with_reducible refine Upd.set ?_ _ _ ?hne); (case hne => (simp; omega))) | with_reducible apply Upd.drewN | with_reducible apply Upd.drew | with_reducible apply Upd.alloc)
          · obtain rfl : j = b.size := by omega
            have HN := Hd.mk (show stepsOn k b.data.toList = some kj by have h := HS.out; rw [← HA.out.2.1, List.take_length] at h; exact h)
            obtain rfl : kj = k' := Option.some.inj (HN.out.symm.trans HR.out)
            obtain ⟨a0, a1, a2, a3, rfl, z0, z1, z2, z3⟩ := hv
            obtain ⟨v0, v1, v2, v3⟩ := HY.out
            have s1 : small 41 kj.x := by have := hok.x; unfold small at *; omega
            have s2 : small 41 kj.y := by have := hok.y; unfold small at *; omega
            have s3 : small 41 kj.dx := by have := hok.d; unfold small at *; omega
            have s4 : small 41 kj.dy := by have := hok.d; unfold small at *; omega
            have e1 := z0.cmp v0 s1 s1
            have e2 := z1.cmp v1 s2 s2
            have e3 := z2.cmp v2 s3 s3
            have e4 := z3.cmp v3 s4 s4
            simp only [decide_true] at e1 e2 e3 e4
            have c0' := b1.cell 0
            have c1' := b1.cell 1
            have d0' := b2.cell 0
            have d1' := b2.cell 1
            simp only [List.getElem?_cons_zero, List.getElem?_cons_succ] at c0' c1' d0' d1'
            have U4 := Hd.mk u4
            clear b1 b2 u4 s1 s2 s3 s4 z0 z1 z2 z3 v0 v1 v2 v3
            go_wp2_with fail
            go_ret
            exact ⟨rfl, U4.out⟩

theorem long_row (a b : ByteArray) (w : World) (hT : Tab w) (ha : a.size ≤ 9223372036854775807) (hb : b.size ≤ 9223372036854775807) : Calls Tryd.prog 7 #[.string a, .string b] w fun e w' => e = .returned (.bool true) ∧ Below w.heap.size w w' :=
  (long_walk a b w ha hb hT).mono fun _ _ h => ⟨h.1, h.2.nil_below⟩
end Go.Proofs.YtljleibefijkkaaDoor
