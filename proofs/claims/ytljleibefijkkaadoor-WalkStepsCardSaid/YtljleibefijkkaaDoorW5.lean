/- WalkSteps: a walk is where whole numbers say. -/
import Derived.Test.YtljleibefijkkaaDoorW4
import Derived.Test.YtljleibefijkkaaDoorBy
namespace Go.Proofs.YtljleibefijkkaaDoor
set_option linter.unusedSimpArgs false
set_option linter.unusedVariables false
set_option linter.unnecessarySimpa false
open Go.RowKit BigFrame

/-- What the law reckons: where it is, and whether all signs were such. -/
def lw (b : Bool) (l : List UInt8) : Wk × Bool := l.foldl (fun p c => match p.1.step c.toNat with | some k => (k, p.2) | none => (p.1, false)) (Wk.new, b)
theorem lw_snoc (b : Bool) (l : List UInt8) (c : UInt8) : lw b (l ++ [c]) = match (lw b l).1.step c.toNat with | some k => (k, (lw b l).2) | none => ((lw b l).1, false) := by
  unfold lw; rw [List.foldl_append]; rfl
theorem lw_steps (b : Bool) (l : List UInt8) : steps l = none ∧ (lw b l).2 = false ∨ steps l = some (lw b l).1 ∧ (lw b l).2 = b := by
  induction hn : l.length generalizing l with
  | zero =>
    have : l = [] := List.eq_nil_of_length_eq_zero hn
    subst this
    exact .inr ⟨rfl, rfl⟩
  | succ n ih =>
    have hne : l ≠ [] := by intro e; subst e; cases hn
    obtain ⟨m, c, rfl⟩ : ∃ m c, l = m ++ [c] := ⟨l.dropLast, l.getLast hne, (List.dropLast_concat_getLast hne).symm⟩
    rw [lw_snoc, steps_snoc]
    rcases ih m (by simpa using hn) with ⟨h1, h2⟩ | ⟨h1, h2⟩
    · left
      refine ⟨by rw [h1]; rfl, ?_⟩
      cases hs : (lw b m).1.step c.toNat with
      | none => rfl
      | some k => exact h2
    · rw [h1]
      cases hs : (lw b m).1.step c.toNat with
      | none => exact .inl ⟨hs, rfl⟩
      | some k => exact .inr ⟨hs, h2⟩
theorem lw_ok (b : Bool) (l : List UInt8) : (lw b l).1.ok l.length := by
  induction hn : l.length generalizing l with
  | zero =>
    have : l = [] := List.eq_nil_of_length_eq_zero hn
    subst this
    exact Wk.ok.new
  | succ n ih =>
    have hne : l ≠ [] := by intro e; subst e; cases hn
    obtain ⟨m, c, rfl⟩ : ∃ m c, l = m ++ [c] := ⟨l.dropLast, l.getLast hne, (List.dropLast_concat_getLast hne).symm⟩
    rw [lw_snoc]
    have := ih m (by simpa using hn)
    cases hs : (lw b m).1.step c.toNat with
    | none => exact this.more (by omega)
    | some k => exact this.step hs

set_option maxRecDepth 100000 in
set_option maxHeartbeats 2000000 in
theorem steps_walk (s : ByteArray) (w : World) (hs : s.size ≤ 9223372036854775807) (hT : Tab w) :
    Calls Tryd.prog 3 #[.string s] w fun e w' => e = .returned (.bool true) ∧ Upd [] w w' := by
  have HT := Hd.mk hT
  clear hT
  by_cases hl : 200 < s.size
  · go_enter Tryd.func3, Tryd.ntmps3
    go_wp2_with fail
    refine (fit_ok w HT.out).mono ?_
    rintro e w1 ⟨rfl, u1⟩
    go_wp2_with fail
    go_ret
    exact ⟨rfl, u1⟩
  have hl : s.size ≤ 200 := by omega
  have hlen : s.data.toList.length = s.size := by simp
  have HL := Hd.mk hlen
  clear hlen
  go_enter Tryd.func3, Tryd.ntmps3
  go_wp2_with fail
  refine (fit_ok w HT.out).mono ?_
  rintro e w1 ⟨rfl, u1⟩
  obtain ⟨ok0, hok0⟩ : ∃ b, decide ((s.size : Int) ≤ 40) = b := ⟨_, rfl⟩
  go_wp2_with (first | (refine wpList_bytes rfl 9 23 5 (.tmp 20) rfl s rfl Tryd.underlying9 Tryd.underlying23 Tryd.underlying5 ?_))
  intro bb cap w2 hb u2 hb1 hb2
  have U := Hd.mk (u1.trans u2 (by simp))
  have HK := Hd.mk hok0
  have HB := Hd.mk hb
  clear hok0 hb u1 u2
  go_wp2_with fail
  go_loop [3, 4, 5, 6, 7, 23] (fun s3 s4 s5 s6 s7 i => ∃ (j : Nat) (k : Wk) (b : Bool), j ≤ s.size ∧ s3 = .int .i64 k.x ∧ s4 = .int .i64 k.y ∧ s5 = .int .i64 k.dx ∧ s6 = .int .i64 k.dy ∧ s7 = .bool b ∧ i = .int .i64 j ∧ Hd (lw ok0 (s.data.toList.take j) = (k, b))) (fun _ _ _ _ _ i => s.size - (intOf i).toNat)
  case atStart => exact ⟨0, Wk.new, ok0, by omega, rfl, rfl, rfl, rfl, rfl, rfl, Hd.mk rfl⟩
  case round =>
    obtain ⟨j, k, b, hj, rfl, rfl, rfl, rfl, rfl, rfl, HS⟩ := hrel
    have hko : k.ok 200 := by
      have := lw_ok ok0 (s.data.toList.take j)
      rw [HS.out] at this
      exact this.more (by rw [List.length_take]; omega)
    have kx := hko.x
    have ky := hko.y
    have kd := hko.d
    unfold small at kx ky
    have kd1 : -1 ≤ k.dx ∧ k.dx ≤ 1 := by omega
    have kd2 : -1 ≤ k.dy ∧ k.dy ≤ 1 := by omega
    clear kd hko
    by_cases hlt : j < s.size
    · have hc := HB.out j hlt
      have HT2 : Hd (lw ok0 (s.data.toList.take (j + 1)) = match k.step s[j].toNat with | some k' => (k', b) | none => (k, false)) := Hd.mk (by
        rw [List.take_succ_eq_append_getElem (by simpa using hlt), lw_snoc, HS.out]; rfl)
      generalize s[j].toNat = c at hc HT2
      by_cases e1 : c = 70
      · subst e1
        have HN : Hd (lw ok0 (s.data.toList.take (j + 1)) = (⟨k.x + k.dx, k.y + k.dy, k.dx, k.dy⟩, b)) := HT2
        go_wp2_with fail
        go_round
        case measure => simp [intOf]; omega
        case rel => exact ⟨j + 1, ⟨k.x + k.dx, k.y + k.dy, k.dx, k.dy⟩, b, by omega, rfl, rfl, rfl, rfl, rfl, by simp, HN⟩
      by_cases e2 : c = 66
      · subst e2
        have HN : Hd (lw ok0 (s.data.toList.take (j + 1)) = (⟨k.x - k.dx, k.y - k.dy, k.dx, k.dy⟩, b)) := HT2
        go_wp2_with fail
        go_round
        case measure => simp [intOf]; omega
        case rel => exact ⟨j + 1, ⟨k.x - k.dx, k.y - k.dy, k.dx, k.dy⟩, b, by omega, rfl, rfl, rfl, rfl, rfl, by simp, HN⟩
      by_cases e3 : c = 76
      · subst e3
        have HN : Hd (lw ok0 (s.data.toList.take (j + 1)) = (⟨k.x, k.y, -k.dy, k.dx⟩, b)) := HT2
        go_wp2_with fail
        go_round
        case measure => simp [intOf]; omega
        case rel => exact ⟨j + 1, ⟨k.x, k.y, -k.dy, k.dx⟩, b, by omega, rfl, rfl, rfl, rfl, rfl, by simp, HN⟩
      by_cases e4 : c = 82
      · subst e4
        have HN : Hd (lw ok0 (s.data.toList.take (j + 1)) = (⟨k.x, k.y, k.dy, -k.dx⟩, b)) := HT2
        go_wp2_with fail
        go_round
        case measure => simp [intOf]; omega
        case rel => exact ⟨j + 1, ⟨k.x, k.y, k.dy, -k.dx⟩, b, by omega, rfl, rfl, rfl, rfl, rfl, by simp, HN⟩
      have HN : Hd (lw ok0 (s.data.toList.take (j + 1)) = (k, false)) := Hd.mk (by
        have := HT2.out
        rw [show k.step c = none by unfold Wk.step; rw [if_neg e1, if_neg e2, if_neg e3, if_neg e4]] at this
        exact this)
      have d1 : ((c : Int) == 70) = false := by simp; omega
      have d2 : ((c : Int) == 66) = false := by simp; omega
      have d3 : ((c : Int) == 76) = false := by simp; omega
      have d4 : ((c : Int) == 82) = false := by simp; omega
      clear e1 e2 e3 e4
      go_wp2_with fail
      go_round
      case measure => simp [intOf]; omega
      case rel => exact ⟨j + 1, k, false, by omega, rfl, rfl, rfl, rfl, rfl, by simp, HN⟩
    · obtain rfl : j = s.size := by omega
      clear hlt hj
      have hfin : steps s.data.toList = none ∧ b = false ∨ steps s.data.toList = some k ∧ b = ok0 := by
        have h := lw_steps ok0 s.data.toList
        have h2 := HS.out
        rw [← HL.out, List.take_length] at h2
        rw [h2] at h
        exact h
      have hw : walkM s.data.toList = none ∧ b = false ∨ (walkM s.data.toList = some k ∧ b = true) ∧ k.ok 41 := by
        have h0 := HK.out
        have hle := HL.out
        unfold walkM
        by_cases h40 : s.size ≤ 40
        · rw [if_pos (by omega)]
          have : ok0 = true := by rw [← h0]; simp; omega
          rcases hfin with ⟨h1, h2⟩ | ⟨h1, h2⟩
          · exact .inl ⟨h1, h2⟩
          · exact .inr ⟨⟨h1, by rw [h2, this]⟩, (steps_ok _ _ h1).more (by omega)⟩
        · rw [if_neg (by omega)]
          have : ok0 = false := by rw [← h0]; simp; omega
          left
          refine ⟨rfl, ?_⟩
          rcases hfin with ⟨h1, h2⟩ | ⟨h1, h2⟩
          · exact h2
          · rw [h2, this]
      clear hfin HS
      have HW := Hd.mk hw
      clear hw
      go_wp2_with fail
      refine (walk_ok s w2 hs).mono ?_
      rintro e w3 hr
      unfold WalkR at hr
      rcases HW.out with ⟨h1, rfl⟩ | ⟨⟨h1, rfl⟩, h2⟩
      · rw [h1] at hr
        obtain ⟨u3, rfl⟩ := hr
        have U3 := Hd.mk (U.out.trans u3 (by simp))
        clear u3 h1
        simp only [zeroW]
        have e0 := ord00
        go_wp2_with fail
        go_ret
        exact ⟨rfl, U3.out.alloc _⟩
      · rw [h1] at hr
        obtain ⟨u3, cs, hc, rfl⟩ := hr
        obtain ⟨a, b, c, d, rfl, z1, z2, z3, z4⟩ := hc
        have s1 : small 41 k.x := h2.x
        have s2 : small 41 k.y := h2.y
        have s3 : small 41 k.dx := by unfold small; omega
        have s4 : small 41 k.dy := by unfold small; omega
        have e1 := z1.cmp (Z.of k.x) s1 s1
        have e2 := z2.cmp (Z.of k.y) s2 s2
        have e3 := z3.cmp (Z.of k.dx) s3 s3
        have e4 := z4.cmp (Z.of k.dy) s4 s4
        simp only [decide_true] at e1 e2 e3 e4
        have U3 := Hd.mk (U.out.trans u3 (by simp))
        clear u3 h1 h2 z1 z2 z3 z4 s1 s2 s3 s4
        go_wp2_with fail
        go_ret
        exact ⟨rfl, U3.out.alloc _⟩

theorem steps_row (s : ByteArray) (w : World) (hT : Tab w) (hs : s.size ≤ 9223372036854775807) : Calls Tryd.prog 3 #[.string s] w fun e w' => e = .returned (.bool true) ∧ Below w.heap.size w w' :=
  (steps_walk s w hs hT).mono fun _ _ h => ⟨h.1, h.2.nil_below⟩
end Go.Proofs.YtljleibefijkkaaDoor
