/- WalkPlaces: a walker is no further away than its steps. -/
import Derived.Test.YtljleibefijkkaaDoorW4
import Derived.Test.YtljleibefijkkaaDoorMm
import Derived.Test.YtljleibefijkkaaDoorBits
namespace Go.Proofs.YtljleibefijkkaaDoor
set_option linter.unusedSimpArgs false
set_option linter.unusedVariables false
set_option linter.unnecessarySimpa false
open Go.RowKit BigFrame

theorem walk_yes (s : ByteArray) (w : World) (hs : s.size ≤ 9223372036854775807) (k : Wk) (h : walkM s.data.toList = some k) :
    Calls Tryd.prog 10 #[.string s] w fun e w' => ∃ cs, WkC k cs ∧ e = .returned (.tuple #[.agg cs.toArray, .bool true]) ∧ Upd [] w w' :=
  (walk_ok s w hs).mono fun e w' hr => by
    unfold WalkR at hr
    rw [h] at hr
    obtain ⟨u, cs, hc, he⟩ := hr
    exact ⟨cs, hc, he, u⟩
theorem walk_no (s : ByteArray) (w : World) (hs : s.size ≤ 9223372036854775807) (h : walkM s.data.toList = none) :
    Calls Tryd.prog 10 #[.string s] w fun e w' => e = .returned (.tuple #[.agg zeroW.toArray, .bool false]) ∧ Upd [] w w' :=
  (walk_ok s w hs).mono fun e w' hr => by
    unfold WalkR at hr
    rw [h] at hr
    exact ⟨hr.2, hr.1⟩
theorem walkM_ok {l : List UInt8} {k : Wk} (h : walkM l = some k) : k.ok 40 ∧ l.length ≤ 40 ∧ steps l = some k := by
  unfold walkM at h
  split at h
  · rename_i hl; exact ⟨(steps_ok _ _ h).more hl, hl, h⟩
  · cases h

/-- How many steps a text has. -/
def cnt (l : List UInt8) : Nat := (l.filter fun c => c.toNat == 70 || c.toNat == 66).length
theorem cnt_snoc (l : List UInt8) (c : UInt8) : cnt (l ++ [c]) = cnt l + if c.toNat = 70 ∨ c.toNat = 66 then 1 else 0 := by
  unfold cnt
  rw [List.filter_append, List.length_append]
  congr 1
  by_cases h : c.toNat = 70 ∨ c.toNat = 66
  · have e : (c.toNat == 70 || c.toNat == 66) = true := by simpa using h
    rw [if_pos h]; simp only [List.filter_cons, e]; rfl
  · have e : (c.toNat == 70 || c.toNat == 66) = false := by simpa using h
    rw [if_neg h]; simp only [List.filter_cons, e]; rfl
theorem cnt_le (l : List UInt8) : cnt l ≤ l.length := List.length_filter_le _ _
theorem far_ok (l : List UInt8) (k : Wk) (h : steps l = some k) : max k.x (-k.x) + max k.y (-k.y) ≤ cnt l ∧ ((cnt l : Int) - (max k.x (-k.x) + max k.y (-k.y))) % 2 = 0 := by
  induction hn : l.length generalizing l k with
  | zero =>
    have : l = [] := List.eq_nil_of_length_eq_zero hn
    subst this
    cases h
    simp [Wk.new, cnt]
  | succ n ih =>
    have hne : l ≠ [] := by intro e; subst e; cases hn
    obtain ⟨m, c, rfl⟩ : ∃ m c, l = m ++ [c] := ⟨l.dropLast, l.getLast hne, (List.dropLast_concat_getLast hne).symm⟩
    rw [steps_snoc] at h
    rw [cnt_snoc]
    cases hs : steps m with
    | none => rw [hs] at h; cases h
    | some k0 =>
      rw [hs] at h
      have h : k0.step c.toNat = some k := h
      obtain ⟨h1, h2⟩ := ih m k0 hs (by simpa using hn)
      have hd := (steps_ok m k0 hs).d
      unfold Wk.step at h
      by_cases e1 : c.toNat = 70
      · rw [if_pos e1] at h; cases h
        rw [if_pos (.inl e1)]
        simp only
        omega
      · rw [if_neg e1] at h
        by_cases e2 : c.toNat = 66
        · rw [if_pos e2] at h; cases h
          rw [if_pos (.inr e2)]
          simp only
          omega
        · rw [if_neg e2] at h
          rw [if_neg (by omega)]
          by_cases e3 : c.toNat = 76
          · rw [if_pos e3] at h; cases h; exact ⟨by simpa using h1, by simpa using h2⟩
          · rw [if_neg e3] at h
            by_cases e4 : c.toNat = 82
            · rw [if_pos e4] at h; cases h; exact ⟨by simpa using h1, by simpa using h2⟩
            · rw [if_neg e4] at h; cases h

set_option maxRecDepth 100000 in
set_option maxHeartbeats 2000000 in
theorem places_walk (s : ByteArray) (w : World) (hs : s.size ≤ 9223372036854775807) (hT : Tab w) :
    Calls Tryd.prog 8 #[.string s] w fun e w' => e = .returned (.bool true) ∧ Upd [] w w' := by
  have HT := Hd.mk hT
  clear hT
  by_cases hl : 60 < s.size
  · go_enter Tryd.func8, Tryd.ntmps8
    go_wp2_with fail
    refine (fit_ok w HT.out).mono ?_
    rintro e w1 ⟨rfl, u1⟩
    go_wp2_with fail
    go_ret
    exact ⟨rfl, u1⟩
  have hl : s.size ≤ 60 := by omega
  have hlen : s.data.toList.length = s.size := by simp
  cases hw : walkM s.data.toList with
  | none =>
    have HW := Hd.mk hw
    clear hw hlen
    go_enter Tryd.func8, Tryd.ntmps8
    go_wp2_with fail
    refine (fit_ok w HT.out).mono ?_
    rintro e w1 ⟨rfl, u1⟩
    go_wp2_with fail
    refine (walk_no s w1 hs HW.out).mono ?_
    rintro e w2 ⟨rfl, u2⟩
    have U := Hd.mk (u1.trans u2 (by simp))
    clear u1 u2
    simp only [zeroW]
    go_wp2_with fail
    go_ret
    exact ⟨rfl, U.out.alloc _⟩
  | some k =>
    obtain ⟨ho, hll, hst⟩ := walkM_ok hw
    obtain ⟨f1, f2⟩ := far_ok _ _ hst
    have hdir := ho.d
    have HW := Hd.mk (And.intro hw (And.intro hlen (And.intro hdir ho)))
    obtain ⟨far, hfar⟩ : ∃ far, max k.x (-k.x) + max k.y (-k.y) = far := ⟨_, rfl⟩
    rw [hfar] at f1 f2
    have hx := ho.x
    have hy := ho.y
    unfold small at hx hy
    have HF := Hd.mk hfar
    have HG := Hd.mk f2
    clear hw hlen hst hdir ho hfar f2
    go_enter Tryd.func8, Tryd.ntmps8
    go_wp2_with fail
    refine (fit_ok w HT.out).mono ?_
    rintro e w1 ⟨rfl, u1⟩
    go_wp2_with fail
    refine (walk_yes s w1 hs k HW.out.1).mono ?_
    rintro e w2 ⟨cs, hc, rfl, u2⟩
    obtain ⟨a, b, c, d, rfl, z1, z2, z3, z4⟩ := hc
    have U := Hd.mk (u1.trans u2 (by simp))
    have ZZ := Hd.mk (And.intro z1 (And.intro z2 (And.intro z3 z4)))
    clear u1 u2 z1 z2 z3 z4
    go_wp2_with fail
    go_loop [5, 25] (fun s5 i => ∃ j : Nat, j ≤ s.size ∧ s5 = .int .i64 (cnt (s.data.toList.take j)) ∧ i = .int .i64 j) (fun _ i => s.size - (intOf i).toNat)
    case atStart => exact ⟨0, by omega, rfl, rfl⟩
    case round =>
      obtain ⟨j, hj, rfl, rfl⟩ := hrel
      have hcl := cnt_le (s.data.toList.take j)
      have hcl2 : (s.data.toList.take j).length ≤ j := List.length_take_le _ _
      by_cases hlt : j < s.size
      · have HT2 : Hd (cnt (s.data.toList.take (j + 1)) = cnt (s.data.toList.take j) + if s[j].toNat = 70 ∨ s[j].toNat = 66 then 1 else 0) := Hd.mk (by
          rw [List.take_succ_eq_append_getElem (by simpa using hlt), cnt_snoc]; rfl)
        by_cases e1 : s[j].toNat = 70
        · have d1 : ((s[j].toNat : Int) == 70) = true := by simp; omega
          have H3 := Hd.mk e1
          clear e1
          go_wp2_with fail
          go_round
          case measure => simp [intOf]; omega
          case rel => exact ⟨j + 1, by omega, by rw [HT2.out, if_pos (.inl H3.out)]; simp, by simp⟩
        · have d1 : ((s[j].toNat : Int) == 70) = false := by simp; omega
          by_cases e2 : s[j].toNat = 66
          · have d2 : ((s[j].toNat : Int) == 66) = true := by simp; omega
            have H3 := Hd.mk e2
            clear e1 e2
            go_wp2_with fail
            go_round
            case measure => simp [intOf]; omega
            case rel => exact ⟨j + 1, by omega, by rw [HT2.out, if_pos (.inr H3.out)]; simp, by simp⟩
          · have d2 : ((s[j].toNat : Int) == 66) = false := by simp; omega
            have H3 := Hd.mk (show ¬ (s[j].toNat = 70 ∨ s[j].toNat = 66) by omega)
            clear e1 e2
            go_wp2_with fail
            go_round
            case measure => simp [intOf]; omega
            case rel => exact ⟨j + 1, by omega, by rw [HT2.out, if_neg H3.out]; simp, by simp⟩
      · obtain rfl : j = s.size := by omega
        have hcn : cnt (s.data.toList.take s.size) = cnt s.data.toList := by rw [← HW.out.2.1, List.take_length]
        rw [hcn] at hcl ⊢
        generalize cnt s.data.toList = n at f1 HG hcl
        clear hcn hlt hj hcl2
        have o := HW.out.2.2.2
        have s1 : small 41 k.x := by unfold small; omega
        have s2 : small 41 k.y := by unfold small; omega
        have r1 := fun w => run_convert_float_int (P := Tryd.prog) w 29 3 .f64 .i64 a k.x (by kernel_rfl) Tryd.underlying3 (ZZ.out.1.int s1)
        have r2 := fun w => run_convert_float_int (P := Tryd.prog) w 29 3 .f64 .i64 b k.y (by kernel_rfl) Tryd.underlying3 (ZZ.out.2.1.int s2)
        clear o s1 s2
        go_wp2_with fail
        refine wp_region_quiet_lit (by kernel_rfl) (by kernel_rfl) ?_
        repeat (go_big_quiet_step (fail))
        refine wpQuiet_nil ?_
        (intro _ hw'; obtain ⟨nq, hw''⟩ := hw'; subst hw'')
        have hfar := HF.out
        have f0 : 0 ≤ far := by omega
        have hn60 : n ≤ 60 := by rw [List.length_take] at hcl; omega
        have f2 := HG.out
        have i1 : small 41 (1 : Int) := by unfold small; omega
        have i2 : small 41 (0 : Int) := by unfold small; omega
        have i3 : small 41 (-1 : Int) := by unfold small; omega
        have z3 := ZZ.out.2.2.1
        have z4 := ZZ.out.2.2.2
        clear r1 r2
        rcases HW.out.2.2.1 with ⟨e1, e2⟩ | ⟨e1, e2⟩ | ⟨e1, e2⟩ | ⟨e1, e2⟩
        all_goals
          rw [e1] at z3
          rw [e2] at z4
          have o1 := z3.cmp Z.i (by assumption) i1
          have o2 := z3.cmp Z.mi (by assumption) i3
          have o3 := z3.cmp Z.o (by assumption) i2
          have o4 := z4.cmp Z.i (by assumption) i1
          have o5 := z4.cmp Z.mi (by assumption) i3
          have o6 := z4.cmp Z.o (by assumption) i2
          simp only [Int.reduceNeg, Int.reduceEq, decide_true, decide_false] at o1 o2 o3 o4 o5 o6
          clear e1 e2 z3 z4 i1 i2 i3 hcl
          go_wp2_with fail
          go_ret
          exact ⟨rfl, (U.out.alloc _).drewN _⟩

theorem places_row (s : ByteArray) (w : World) (hT : Tab w) (hs : s.size ≤ 9223372036854775807) : Calls Tryd.prog 8 #[.string s] w fun e w' => e = .returned (.bool true) ∧ Below w.heap.size w w' :=
  (places_walk s w hs hT).mono fun _ _ h => ⟨h.1, h.2.nil_below⟩
end Go.Proofs.YtljleibefijkkaaDoor
