/- WalkBacks: a walk that is gone back ends where it began. -/
import Derived.Test.YtljleibefijkkaaDoorW7
namespace Go.Proofs.YtljleibefijkkaaDoor
set_option linter.unusedSimpArgs false
set_option linter.unusedVariables false
set_option linter.unnecessarySimpa false
open Go.RowKit BigFrame

/-- The step that undoes one. -/
def inv (c : UInt8) : UInt8 := if c.toNat = 70 then 66 else if c.toNat = 66 then 70 else if c.toNat = 76 then 82 else 76
def known (c : UInt8) : Prop := c.toNat = 70 ∨ c.toNat = 66 ∨ c.toNat = 76 ∨ c.toNat = 82
def bk (l : List UInt8) : List UInt8 := l.reverse.map inv
theorem inv_step (k : Wk) (c : UInt8) (h : known c) : ∃ k', k.step c.toNat = some k' ∧ k'.step (inv c).toNat = some k := by
  unfold inv
  rcases h with e | e | e | e
  all_goals
    rw [e]
    exact ⟨_, rfl, by
      unfold Wk.step
      simp only [Nat.reduceEqDiff, if_true, if_false, UInt8.reduceToNat]
      congr 1
      cases k
      simp
      try omega⟩
theorem back_ok (l : List UInt8) (h : ∀ c ∈ l, known c) : steps (l ++ bk l) = some Wk.new := by
  induction hn : l.length generalizing l with
  | zero =>
    have : l = [] := List.eq_nil_of_length_eq_zero hn
    subst this
    rfl
  | succ n ih =>
    have hne : l ≠ [] := by intro e; subst e; cases hn
    obtain ⟨m, c, rfl⟩ : ∃ m c, l = m ++ [c] := ⟨l.dropLast, l.getLast hne, (List.dropLast_concat_getLast hne).symm⟩
    have hm := ih m (fun d hd => h d (by simp [hd])) (by simpa using hn)
    have hall : ∀ p : List UInt8, (∀ d ∈ p, known d) → ∃ k, steps p = some k := by
      intro p hp
      induction hq : p.length generalizing p with
      | zero =>
        have : p = [] := List.eq_nil_of_length_eq_zero hq
        subst this
        exact ⟨_, rfl⟩
      | succ q ihq =>
        have hne : p ≠ [] := by intro e; subst e; cases hq
        obtain ⟨r, d, rfl⟩ : ∃ r d, p = r ++ [d] := ⟨p.dropLast, p.getLast hne, (List.dropLast_concat_getLast hne).symm⟩
        obtain ⟨k, hk⟩ := ihq r (fun e he => hp e (by simp [he])) (by simpa using hq)
        obtain ⟨k', h1, _⟩ := inv_step k d (hp d (by simp))
        exact ⟨k', by rw [steps_snoc, hk]; exact h1⟩
    obtain ⟨k, hk⟩ := hall m (fun d hd => h d (by simp [hd]))
    obtain ⟨k', h1, h2⟩ := inv_step k c (h c (by simp))
    have e1 : steps (m ++ [c] ++ [inv c]) = some k := by
      rw [steps_snoc, steps_snoc, hk]
      show ((k.step c.toNat).bind fun k => k.step (inv c).toNat) = some k
      rw [h1]; exact h2
    have e2 : m ++ [c] ++ bk (m ++ [c]) = (m ++ [c] ++ [inv c]) ++ bk m := by
      unfold bk; simp
    rw [e2, steps_app _ _ _ e1, ← steps_app _ _ _ hk]
    exact hm

theorem text_new : Wk.new.upto 4 = ⟨#[48, 32, 48, 32, 49, 32, 48]⟩ := by
  simp only [Wk.upto, Wk.num, Wk.new, itoaB_0, itoaB_1]; rfl

set_option maxRecDepth 100000 in
set_option maxHeartbeats 4000000 in
theorem backs_walk (s : ByteArray) (w : World) (hs : s.size ≤ 9223372036854775807) (hT : Tab w) :
    Calls Tryd.prog 4 #[.string s] w fun e w' => e = .returned (.bool true) ∧ Upd [] w w' := by
  have HT := Hd.mk hT
  clear hT
  by_cases hl : 20 < s.size
  · go_enter Tryd.func4, Tryd.ntmps4
    go_wp2_with fail
    refine (fit_ok w HT.out).mono ?_
    rintro e w1 ⟨rfl, u1⟩
    go_wp2_with fail
    go_ret
    exact ⟨rfl, u1⟩
  have hl : s.size ≤ 20 := by omega
  have hlen : s.data.toList.length = s.size := by simp
  have HL := Hd.mk hlen
  clear hlen
  go_enter Tryd.func4, Tryd.ntmps4
  go_wp2_with fail
  refine (fit_ok w HT.out).mono ?_
  rintro e w1 ⟨rfl, u1⟩
  have U1 := Hd.mk u1
  clear u1
  go_wp2_with fail
  go_loop [3, 4] (fun t i => ∃ (j : Nat) (x : ByteArray), j ≤ s.size ∧ t = .string x ∧ i = .int .i64 ((j : Int) - 1) ∧ x.size ≤ 40 - j ∧ Hd (x.data.toList = s.data.toList ++ bk (s.data.toList.drop j)) ∧ Hd (∀ c ∈ s.data.toList.drop j, known c)) (fun _ i => (intOf i + 1).toNat)
  case atStart => exact ⟨s.size, s, by omega, rfl, rfl, by omega, Hd.mk (by rw [← HL.out, List.drop_length]; simp [bk]), Hd.mk (by rw [← HL.out, List.drop_length]; simp)⟩
  case round =>
    obtain ⟨j, x, hj, rfl, rfl, hx, HX, HK⟩ := hrel
    cases j with
    | zero =>
      rw [show ((0 : Nat) : Int) - 1 = -1 from rfl]
      have hfin : steps x.data.toList = some Wk.new := by
        have h1 := HX.out
        have h2 := HK.out
        simp only [List.drop_zero] at h1 h2
        rw [h1]
        exact back_ok _ h2
      have hwm : walkM x.data.toList = some Wk.new := by
        unfold walkM
        rw [if_pos (by rw [Array.length_toList]; show x.size ≤ 40; omega), hfin]
      have HW := Hd.mk hwm
      clear hfin hwm HX HK
      go_wp2_with fail
      refine (walk_yes x _ (by omega) Wk.new HW.out).mono ?_
      rintro e w2 ⟨cs, hc, rfl, u2⟩
      have hc0 := hc
      obtain ⟨a0, a1, a2, a3, rfl, z1, z2, z3, z4⟩ := hc0
      have i1 : small 41 (1 : Int) := by unfold small; omega
      have i2 : small 41 (0 : Int) := by unfold small; omega
      have e1 := z1.cmp Z.o i2 i2
      have e2 := z2.cmp Z.o i2 i2
      have e3 := z3.cmp Z.i i1 i1
      have e4 := z4.cmp Z.o i2 i2
      simp only [Wk.new, decide_true] at e1 e2 e3 e4
      have HC := Hd.mk hc
      have U := Hd.mk (U1.out.trans u2 (by simp))
      have hz := Nat.lt_succ_self w2.heap.size
      clear hc u2 z1 z2 z3 z4 i1 i2
      go_wp2_with fail
      refine wp_abs (fun W => Blk W w2.heap.size [.complex .f64 a0 a1, .complex .f64 a2 a3] 26 ∧ Upd [] w W) ⟨Blk.new w2 _ _ _ rfl, U.out.alloc _⟩ ?_
      rintro w3 ⟨b3, u3⟩
      generalize w2.heap.size = cb at b3 ⊢
      have HB := Hd.mk b3
      have c0 := b3.cell 0
      have c1 := b3.cell 1
      simp only [List.getElem?_cons_zero, List.getElem?_cons_succ] at c0 c1
      have U3 := Hd.mk u3
      have TN := Hd.mk text_new
      clear b3 u3 hz
      go_region_with (first
        | (go_at_call 11; refine (new_ok _).mono ?_; rintro e w4 ⟨rfl, u4⟩; simp only [newW]; have k4 := u4.blk (HB.out.drewN 1) (by simp); have m0 := k4.cell 0; have m1 := k4.cell 1; simp only [List.getElem?_cons_zero, List.getElem?_cons_succ] at m0 m1; have HK4 := Hd.mk (And.intro k4 (U3.out.drew.trans u4 (by simp))); clear u4 k4)
        | (go_at_call 12; refine (text_ok Wk.new [.complex .f64 a0 a1, .complex .f64 a2 a3] _ HC.out (Wk.ok.new.more (by omega)) (HT.out.upd ?_)).mono ?_; exact HK4.out.2; rintro e w5 ⟨rfl, u5⟩; rw [TN.out]; have U5 := Hd.mk (HK4.out.2.trans u5 (by simp)); clear u5))
      all_goals
        go_wp2_with fail
        go_ret
        exact ⟨rfl, U5.out⟩
    | succ i =>
      rw [show ((i + 1 : Nat) : Int) - 1 = (i : Int) by omega]
      have hlt : i < s.size := by omega
      have hd : s.data.toList.drop i = s[i] :: s.data.toList.drop (i + 1) := by
        rw [List.drop_eq_getElem_cons (by simpa using hlt)]; rfl
      have HD := Hd.mk hd
      clear hd
      generalize hc : s[i] = c at HD
      have HC := Hd.mk hc
      by_cases e0 : c.toNat = 70
      · have d0 : ((s[i].toNat : Int) == 70) = true := by rw [hc]; simp; omega
        have HN : Hd ((x ++ ⟨#[66]⟩).data.toList = s.data.toList ++ bk (s.data.toList.drop i)) := Hd.mk (by
          rw [data_app, HX.out, HD.out]
          show _ ++ [(66 : UInt8)] = _
          rw [show bk (c :: s.data.toList.drop (i + 1)) = bk (s.data.toList.drop (i + 1)) ++ [inv c] by simp [bk], show inv c = 66 by unfold inv; simp [e0], List.append_assoc])
        have HKN : Hd (∀ d ∈ s.data.toList.drop i, known d) := Hd.mk (by
          rw [HD.out]
          intro d hd
          simp only [List.mem_cons] at hd
          rcases hd with rfl | hd
          · unfold known; omega
          · exact HK.out d hd)
        have HXS : Hd ((x ++ ⟨#[66]⟩).size = x.size + 1) := Hd.mk (by rw [ByteArray.size_append]; rfl)
        clear hc e0
        go_wp2_with fail
        go_round
        case measure => simp [intOf] <;> omega
        case rel => exact ⟨i, _, by omega, rfl, rfl, by rw [HXS.out]; omega, HN, HKN⟩
      by_cases e1 : c.toNat = 66
      · have d1 : ((s[i].toNat : Int) == 66) = true := by rw [hc]; simp; omega
        have d0 : ((s[i].toNat : Int) == 70) = false := by rw [hc]; simp; omega
        have HN : Hd ((x ++ ⟨#[70]⟩).data.toList = s.data.toList ++ bk (s.data.toList.drop i)) := Hd.mk (by
          rw [data_app, HX.out, HD.out]
          show _ ++ [(70 : UInt8)] = _
          rw [show bk (c :: s.data.toList.drop (i + 1)) = bk (s.data.toList.drop (i + 1)) ++ [inv c] by simp [bk], show inv c = 70 by unfold inv; simp [e1], List.append_assoc])
        have HKN : Hd (∀ d ∈ s.data.toList.drop i, known d) := Hd.mk (by
          rw [HD.out]
          intro d hd
          simp only [List.mem_cons] at hd
          rcases hd with rfl | hd
          · unfold known; omega
          · exact HK.out d hd)
        have HXS : Hd ((x ++ ⟨#[70]⟩).size = x.size + 1) := Hd.mk (by rw [ByteArray.size_append]; rfl)
        clear hc e0 e1
        go_wp2_with fail
        go_round
        case measure => simp [intOf] <;> omega
        case rel => exact ⟨i, _, by omega, rfl, rfl, by rw [HXS.out]; omega, HN, HKN⟩
      by_cases e2 : c.toNat = 76
      · have d2 : ((s[i].toNat : Int) == 76) = true := by rw [hc]; simp; omega
        have d0 : ((s[i].toNat : Int) == 70) = false := by rw [hc]; simp; omega
        have d1 : ((s[i].toNat : Int) == 66) = false := by rw [hc]; simp; omega
        have HN : Hd ((x ++ ⟨#[82]⟩).data.toList = s.data.toList ++ bk (s.data.toList.drop i)) := Hd.mk (by
          rw [data_app, HX.out, HD.out]
          show _ ++ [(82 : UInt8)] = _
          rw [show bk (c :: s.data.toList.drop (i + 1)) = bk (s.data.toList.drop (i + 1)) ++ [inv c] by simp [bk], show inv c = 82 by unfold inv; simp [e2], List.append_assoc])
        have HKN : Hd (∀ d ∈ s.data.toList.drop i, known d) := Hd.mk (by
          rw [HD.out]
          intro d hd
          simp only [List.mem_cons] at hd
          rcases hd with rfl | hd
          · unfold known; omega
          · exact HK.out d hd)
        have HXS : Hd ((x ++ ⟨#[82]⟩).size = x.size + 1) := Hd.mk (by rw [ByteArray.size_append]; rfl)
        clear hc e0 e1 e2
        go_wp2_with fail
        go_round
        case measure => simp [intOf] <;> omega
        case rel => exact ⟨i, _, by omega, rfl, rfl, by rw [HXS.out]; omega, HN, HKN⟩
      by_cases e3 : c.toNat = 82
      · have d3 : ((s[i].toNat : Int) == 82) = true := by rw [hc]; simp; omega
        have d0 : ((s[i].toNat : Int) == 70) = false := by rw [hc]; simp; omega
        have d1 : ((s[i].toNat : Int) == 66) = false := by rw [hc]; simp; omega
        have d2 : ((s[i].toNat : Int) == 76) = false := by rw [hc]; simp; omega
        have HN : Hd ((x ++ ⟨#[76]⟩).data.toList = s.data.toList ++ bk (s.data.toList.drop i)) := Hd.mk (by
          rw [data_app, HX.out, HD.out]
          show _ ++ [(76 : UInt8)] = _
          rw [show bk (c :: s.data.toList.drop (i + 1)) = bk (s.data.toList.drop (i + 1)) ++ [inv c] by simp [bk], show inv c = 76 by unfold inv; simp [e3], List.append_assoc])
        have HKN : Hd (∀ d ∈ s.data.toList.drop i, known d) := Hd.mk (by
          rw [HD.out]
          intro d hd
          simp only [List.mem_cons] at hd
          rcases hd with rfl | hd
          · unfold known; omega
          · exact HK.out d hd)
        have HXS : Hd ((x ++ ⟨#[76]⟩).size = x.size + 1) := Hd.mk (by rw [ByteArray.size_append]; rfl)
        clear hc e0 e1 e2 e3
        go_wp2_with fail
        go_round
        case measure => simp [intOf] <;> omega
        case rel => exact ⟨i, _, by omega, rfl, rfl, by rw [HXS.out]; omega, HN, HKN⟩
      have d0 : ((s[i].toNat : Int) == 70) = false := by rw [hc]; simp; omega
      have d1 : ((s[i].toNat : Int) == 66) = false := by rw [hc]; simp; omega
      have d2 : ((s[i].toNat : Int) == 76) = false := by rw [hc]; simp; omega
      have d3 : ((s[i].toNat : Int) == 82) = false := by rw [hc]; simp; omega
      clear hc e0 e1 e2 e3
      go_wp2_with fail
      go_ret
      exact ⟨rfl, U1.out⟩

theorem backs_row (s : ByteArray) (w : World) (hT : Tab w) (hs : s.size ≤ 9223372036854775807) : Calls Tryd.prog 4 #[.string s] w fun e w' => e = .returned (.bool true) ∧ Below w.heap.size w w' :=
  (backs_walk s w hs hT).mono fun _ _ h => ⟨h.1, h.2.nil_below⟩
end Go.Proofs.YtljleibefijkkaaDoor
