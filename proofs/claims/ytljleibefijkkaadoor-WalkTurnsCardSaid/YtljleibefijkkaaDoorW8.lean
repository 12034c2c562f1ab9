/- WalkTurns: four turns are none; a walk that is turned as a whole is a walk turned. -/
import Derived.Test.YtljleibefijkkaaDoorW7
namespace Go.Proofs.YtljleibefijkkaaDoor
set_option linter.unusedSimpArgs false
set_option linter.unusedVariables false
set_option linter.unnecessarySimpa false
open Go.RowKit BigFrame

def rot (k : Wk) : Wk := ⟨-k.y, k.x, -k.dy, k.dx⟩
def rotN : Nat → Wk → Wk
  | 0, k => k
  | n + 1, k => rot (rotN n k)
theorem rot_step (k : Wk) (c : Nat) : (rot k).step c = (k.step c).map rot := by
  unfold Wk.step
  by_cases e1 : c = 70
  · rw [if_pos e1, if_pos e1]; simp [rot]; omega
  · rw [if_neg e1, if_neg e1]
    by_cases e2 : c = 66
    · rw [if_pos e2, if_pos e2]; simp [rot]; omega
    · rw [if_neg e2, if_neg e2]
      by_cases e3 : c = 76
      · rw [if_pos e3, if_pos e3]; simp [rot]
      · rw [if_neg e3, if_neg e3]
        by_cases e4 : c = 82
        · rw [if_pos e4, if_pos e4]; simp [rot]
        · rw [if_neg e4, if_neg e4]; rfl
theorem rotN_step (n : Nat) (k : Wk) (c : Nat) : (rotN n k).step c = (k.step c).map (rotN n) := by
  induction n with
  | zero => simp only [rotN]; cases k.step c <;> rfl
  | succ n ih =>
    show (rot (rotN n k)).step c = _
    rw [rot_step, ih]
    cases k.step c <;> rfl
theorem rotN_steps (n : Nat) (l : List UInt8) (o : Option Wk) : (l.foldl (fun o c => o.bind fun k => k.step c.toNat) (o.map (rotN n))) = (l.foldl (fun o c => o.bind fun k => k.step c.toNat) o).map (rotN n) := by
  induction l generalizing o with
  | nil => rfl
  | cons c l ih =>
    simp only [List.foldl_cons]
    rw [← ih]
    congr 1
    cases o with
    | none => rfl
    | some k => exact rotN_step n k c.toNat
theorem rotN_new (n : Nat) : rotN (n + 1) Wk.new = rot (rotN n Wk.new) := rfl
theorem rotN_zero (n : Nat) : (rotN n Wk.new).x = 0 ∧ (rotN n Wk.new).y = 0 := by
  induction n with
  | zero => exact ⟨rfl, rfl⟩
  | succ n ih => exact ⟨by show -(rotN n Wk.new).y = 0; rw [ih.2]; rfl, ih.1⟩
/-- So many turns. -/
def lefts : Nat → ByteArray
  | 0 => ⟨#[]⟩
  | n + 1 => lefts n ++ ⟨#[76]⟩
theorem lefts_size (n : Nat) : (lefts n).size = n := by
  induction n with
  | zero => rfl
  | succ n ih => show (lefts n ++ ⟨#[76]⟩).size = n + 1; rw [ByteArray.size_append, ih]; rfl
theorem lefts_steps (n : Nat) : steps (lefts n).data.toList = some (rotN n Wk.new) := by
  induction n with
  | zero => rfl
  | succ n ih =>
    show steps (lefts n ++ ⟨#[76]⟩).data.toList = _
    rw [data_app]
    show steps ((lefts n).data.toList ++ [76]) = _
    rw [steps_snoc, ih]
    obtain ⟨h1, h2⟩ := rotN_zero n
    show (rotN n Wk.new).step 76 = some (rot (rotN n Wk.new))
    unfold Wk.step rot
    rw [if_neg (by decide), if_neg (by decide), if_pos rfl, h1, h2]
    rfl
theorem turned (n : Nat) (s : ByteArray) : steps (lefts n ++ s).data.toList = (steps s.data.toList).map (rotN n) := by
  have h := rotN_steps n s.data.toList (some Wk.new)
  rw [data_app]
  rw [steps_app _ _ _ (lefts_steps n)]
  exact h

/-- A unit that was turned. -/
def trn : Nat → Int × Int
  | 0 => (1, 0)
  | n + 1 => (-(trn n).2, (trn n).1)
theorem trn_unit (n : Nat) : ((trn n).1 = 1 ∧ (trn n).2 = 0) ∨ ((trn n).1 = 0 ∧ (trn n).2 = 1) ∨ ((trn n).1 = -1 ∧ (trn n).2 = 0) ∨ ((trn n).1 = 0 ∧ (trn n).2 = -1) := by
  induction n with
  | zero => left; exact ⟨rfl, rfl⟩
  | succ n ih =>
    show (-(trn n).2 = 1 ∧ (trn n).1 = 0) ∨ (-(trn n).2 = 0 ∧ (trn n).1 = 1) ∨ (-(trn n).2 = -1 ∧ (trn n).1 = 0) ∨ (-(trn n).2 = 0 ∧ (trn n).1 = -1)
    omega
theorem rotN_trn (n : Nat) (k : Wk) : (rotN n k).x = k.x * (trn n).1 - k.y * (trn n).2 ∧ (rotN n k).y = k.x * (trn n).2 + k.y * (trn n).1 ∧ (rotN n k).dx = k.dx * (trn n).1 - k.dy * (trn n).2 ∧ (rotN n k).dy = k.dx * (trn n).2 + k.dy * (trn n).1 := by
  induction n with
  | zero => simp [rotN, trn]
  | succ n ih =>
    obtain ⟨h1, h2, h3, h4⟩ := ih
    show -(rotN n k).y = k.x * -(trn n).2 - k.y * (trn n).1 ∧ (rotN n k).x = k.x * (trn n).1 + k.y * -(trn n).2 ∧ -(rotN n k).dy = k.dx * -(trn n).2 - k.dy * (trn n).1 ∧ (rotN n k).dx = k.dx * (trn n).1 + k.dy * -(trn n).2
    rw [h1, h2, h3, h4]
    rcases trn_unit n with ⟨e1, e2⟩ | ⟨e1, e2⟩ | ⟨e1, e2⟩ | ⟨e1, e2⟩ <;> rw [e1, e2] <;> omega

set_option maxRecDepth 100000 in
set_option maxHeartbeats 4000000 in
theorem turns_walk (s : ByteArray) (n : Int) (w : World) (hs : s.size ≤ 9223372036854775807) (hT : Tab w) :
    Calls Tryd.prog 6 #[.string s, .int .i64 n] w fun e w' => e = .returned (.bool true) ∧ Upd [] w w' := by
  have HT := Hd.mk hT
  clear hT
  by_cases hl : 30 < s.size
  · go_enter Tryd.func6, Tryd.ntmps6
    go_wp2_with fail
    refine (fit_ok w HT.out).mono ?_
    rintro e w1 ⟨rfl, u1⟩
    go_wp2_with fail
    go_ret
    exact ⟨rfl, u1⟩
  have hl : s.size ≤ 30 := by omega
  have hlen : s.data.toList.length = s.size := by simp
  obtain ⟨m, hm⟩ : ∃ m : Nat, n % 8 = m := ⟨(n % 8).toNat, by omega⟩
  have hm8 : m ≤ 7 := by omega
  have hsz : (lefts m ++ s).size = m + s.size := by rw [ByteArray.size_append, lefts_size]
  have hw1 : walkM s.data.toList = steps s.data.toList := by unfold walkM; rw [if_pos (by omega)]
  have hw2 : walkM (lefts m ++ s).data.toList = (steps s.data.toList).map (rotN m) := by
    unfold walkM
    rw [if_pos (by simp only [Array.length_toList]; show (lefts m ++ s).size ≤ 40; omega), turned]
  have HW := Hd.mk (And.intro hw1 (And.intro hw2 (And.intro hlen hsz)))
  clear hw1 hw2 hlen hsz
  go_enter Tryd.func6, Tryd.ntmps6
  go_wp2_with fail
  refine (fit_ok w HT.out).mono ?_
  rintro e w1 ⟨rfl, u1⟩
  go_wp2_with fail
  clear hm
  go_loop [5, 19] (fun t i => ∃ j : Nat, j ≤ m ∧ t = .string (lefts j) ∧ i = .int .i64 j) (fun _ i => m - (intOf i).toNat)
  case atStart => exact ⟨0, by omega, rfl, rfl⟩
  case round =>
    obtain ⟨j, hj, rfl, rfl⟩ := hrel
    by_cases hlt : j < m
    · have hz : (lefts j).size ≤ 7 := by rw [lefts_size]; omega
      go_wp2_with fail
      go_round
      case measure => simp [intOf]; omega
      case rel => exact ⟨j + 1, by omega, rfl, by simp⟩
    · obtain rfl : m = j := by omega
      clear hj hlt
      have hz : (lefts m).size ≤ 7 := by rw [lefts_size]; omega
      have U1 := Hd.mk u1
      clear u1
      go_wp2_with fail
      cases hst : steps s.data.toList with
      | none =>
        have HST := Hd.mk hst
        clear hst
        refine (walk_no s w1 hs (HW.out.1.trans HST.out)).mono ?_
        rintro e w2 ⟨rfl, u2⟩
        have U := Hd.mk (U1.out.trans u2 (by simp))
        clear u2
        simp only [zeroW]
        go_wp2_with fail
        refine (walk_no (lefts m ++ s) _ (by rw [HW.out.2.2.2]; omega) (HW.out.2.1.trans (by rw [HST.out]; rfl))).mono ?_
        rintro e w3 ⟨rfl, u3⟩
        have U3 := Hd.mk ((U.out.alloc _).trans u3 (by simp))
        clear u3
        simp only [zeroW]
        go_wp2_with fail
        go_ret
        exact ⟨rfl, U3.out.alloc _⟩
      | some k =>
        have HST := Hd.mk hst
        have ho := steps_ok _ _ hst
        rw [HW.out.2.2.1] at ho
        have HO := Hd.mk (ho.more (show s.size ≤ 40 by omega))
        clear hst ho
        refine (walk_yes s w1 hs k (HW.out.1.trans HST.out)).mono ?_
        rintro e w2 ⟨cs, hc, rfl, u2⟩
        obtain ⟨a0, a1, a2, a3, rfl, hz1⟩ := hc
        have HZ := Hd.mk hz1
        have U := Hd.mk (U1.out.trans u2 (by simp))
        clear u2 hz1
        go_wp2_with fail
        refine (walk_yes (lefts m ++ s) _ (by rw [HW.out.2.2.2]; omega) (rotN m k) (HW.out.2.1.trans (by rw [HST.out]; rfl))).mono ?_
        rintro e w3 ⟨cs, hc, rfl, u3⟩
        obtain ⟨b0, b1, b2, b3, rfl, hz2⟩ := hc
        have HZ2 := Hd.mk hz2
        have bk := u3.blk (Blk.new w2 [.complex .f64 a0 a1, .complex .f64 a2 a3] 26 _ rfl) (by simp)
        have hlt := bk.lt
        have c0 := bk.cell 0
        have c1 := bk.cell 1
        simp only [List.getElem?_cons_zero, List.getElem?_cons_succ] at c0 c1
        have U3 := Hd.mk ((U.out.alloc (.cells #[.complex .f64 a0 a1, .complex .f64 a2 a3] 26)).trans u3 (by simp))
        clear u3 hz2 bk
        go_wp2_with fail
        go_loop [10, 42] (fun t i => ∃ (j c d : Nat), j ≤ m ∧ t = .complex .f64 c d ∧ i = .int .i64 j ∧ Hd (Z c (trn j).1 ∧ Z d (trn j).2)) (fun _ i => m - (intOf i).toNat)
        case atStart => exact ⟨0, _, _, by omega, rfl, rfl, Hd.mk ⟨Z.i, Z.o⟩⟩
        case round =>
          obtain ⟨j, c, d, hj, rfl, rfl, HC⟩ := hrel
          have hu := trn_unit j
          have n1 : small 41 (trn j).1 := by unfold small; omega
          have n2 : small 41 (trn j).2 := by unfold small; omega
          by_cases hlt2 : j < m
          · obtain ⟨re, im, hr, z1, z2⟩ := HC.out.1.cmul HC.out.2 Z.o Z.i n1 n2 (.inr ⟨rfl, by unfold small; omega⟩)
            have hrun := fun w => run_complex_mul (P := Tryd.prog) w 24 c d 0 4607182418800017408 re im hr
            have HN : Hd (Z re (trn (j + 1)).1 ∧ Z im (trn (j + 1)).2) := Hd.mk ⟨by simpa [trn] using z1, by simpa [trn] using z2⟩
            clear hr z1 z2 n1 n2 hu
            go_wp2_with fail
            go_round
            case measure => simp [intOf]; omega
            case rel => exact ⟨j + 1, re, im, by omega, rfl, by simp, HN⟩
          · obtain rfl : m = j := by omega
            obtain ⟨z1, z2, z3, z4⟩ := HZ.out
            obtain ⟨v1, v2, v3, v4⟩ := HZ2.out
            obtain ⟨t1, t2, t3, t4⟩ := rotN_trn m k
            rw [t1] at v1
            rw [t2] at v2
            rw [t3] at v3
            rw [t4] at v4
            have hdir := HO.out.d
            have hbx := HO.out.x
            have hby := HO.out.y
            unfold small at hbx hby
            have s1 : small 41 k.x := by unfold small; omega
            have s2 : small 41 k.y := by unfold small; omega
            have s3 : small 41 k.dx := by unfold small; omega
            have s4 : small 41 k.dy := by unfold small; omega
            have hun : small 1 (trn m).1 ∧ (trn m).2 = 0 ∨ (trn m).1 = 0 ∧ small 1 (trn m).2 := by unfold small; omega
            obtain ⟨r1, i1, hr1, x1, y1⟩ := z1.cmul z2 HC.out.1 HC.out.2 s1 s2 hun
            obtain ⟨r2, i2, hr2, x2, y2⟩ := z3.cmul z4 HC.out.1 HC.out.2 s3 s4 hun
            have hrun1 := fun w => run_complex_mul (P := Tryd.prog) w 24 a0 a1 c d r1 i1 hr1
            have hrun2 := fun w => run_complex_mul (P := Tryd.prog) w 24 a2 a3 c d r2 i2 hr2
            have b1' : small 41 (k.x * (trn m).1 - k.y * (trn m).2) := by unfold small; rcases hu with ⟨e1, e2⟩ | ⟨e1, e2⟩ | ⟨e1, e2⟩ | ⟨e1, e2⟩ <;> rw [e1, e2] <;> omega
            have b2' : small 41 (k.x * (trn m).2 + k.y * (trn m).1) := by unfold small; rcases hu with ⟨e1, e2⟩ | ⟨e1, e2⟩ | ⟨e1, e2⟩ | ⟨e1, e2⟩ <;> rw [e1, e2] <;> omega
            have b3' : small 41 (k.dx * (trn m).1 - k.dy * (trn m).2) := by unfold small; rcases hu with ⟨e1, e2⟩ | ⟨e1, e2⟩ | ⟨e1, e2⟩ | ⟨e1, e2⟩ <;> rw [e1, e2] <;> omega
            have b4' : small 41 (k.dx * (trn m).2 + k.dy * (trn m).1) := by unfold small; rcases hu with ⟨e1, e2⟩ | ⟨e1, e2⟩ | ⟨e1, e2⟩ | ⟨e1, e2⟩ <;> rw [e1, e2] <;> omega
            have e1 := v1.cmp x1 b1' b1'
            have e2 := v2.cmp y1 b2' b2'
            have e3 := v3.cmp x2 b3' b3'
            have e4 := v4.cmp y2 b4' b4'
            simp only [decide_true] at e1 e2 e3 e4
            clear z1 z2 z3 z4 v1 v2 v3 v4 t1 t2 t3 t4 hdir hbx hby s1 s2 s3 s4 hun hr1 x1 y1 hr2 x2 y2 b1' b2' b3' b4' n1 n2 hu hj hlt2
            go_wp2_with fail
            go_ret
            exact ⟨rfl, U3.out.alloc _⟩

theorem turns_row (s : ByteArray) (n : Int) (w : World) (hT : Tab w) (hs : s.size ≤ 9223372036854775807) (_ : (Lit.int .i64 n).wf = true) : Calls Tryd.prog 6 #[.string s, .int .i64 n] w fun e w' => e = .returned (.bool true) ∧ Below w.heap.size w w' :=
  (turns_walk s n w hs hT).mono fun _ _ h => ⟨h.1, h.2.nil_below⟩
end Go.Proofs.YtljleibefijkkaaDoor
