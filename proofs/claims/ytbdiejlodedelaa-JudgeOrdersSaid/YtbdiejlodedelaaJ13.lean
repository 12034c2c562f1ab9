/- The document's judge: find, next. -/
import Derived.Test.YtbdiejlodedelaaJ7
import Derived.Test.YtbdiejlodedelaaJ12
import Derived.Test.YtbdiejlodedelaaAp2
import Derived.Deep.RegionLaw
namespace Go.Proofs.Ytbdiejlodedelaa
set_option linter.unusedSimpArgs false
set_option linter.unusedVariables false
set_option linter.unnecessarySimpa false
open Go.RowKit BigFrame

def stCells (S : List (ByteArray × ByteArray)) : List Value := S.flatMap fun x => [.string x.1, .string x.2]
theorem stCells_at : ∀ (S : List (ByteArray × ByteArray)) (i : Nat) (x : ByteArray × ByteArray), S[i]? = some x → (stCells S)[i * 2]? = some (.string x.1) ∧ (stCells S)[i * 2 + 1]? = some (.string x.2)
  | [], i, x, h => by simp at h
  | y :: S, 0, x, h => by simp at h; subst h; simp [stCells]
  | y :: S, i + 1, x, h => by
    have := stCells_at S i x (by simpa using h)
    simp only [stCells, List.flatMap_cons] at this ⊢
    rw [show (i + 1) * 2 = i * 2 + 2 by omega, show i * 2 + 2 + 1 = i * 2 + 1 + 2 by omega]
    simpa using this
theorem stCells_len (S : List (ByteArray × ByteArray)) : (stCells S).length = S.length * 2 := by
  induction S with
  | nil => rfl
  | cons x S ih => simp only [stCells, List.flatMap_cons, List.length_append, List.length_cons] at ih ⊢; rw [ih]; simp; omega
def idxI (S : List (ByteArray × ByteArray)) (k : ByteArray) : Int := match idx S k with | some i => i | none => -1
theorem idx_hit {S : List (ByteArray × ByteArray)} {k : ByteArray} {i : Nat} (hi : i < S.length) (h : S[i].1 = k) (hb : ∀ j (hj : j < S.length), j < i → S[j].1 ≠ k) : idx S k = some i := by
  unfold idx
  rw [List.findIdx?_eq_some_iff_getElem]
  exact ⟨hi, by simpa using h, fun j hj => by simpa using hb j (by omega) hj⟩
theorem idx_miss {S : List (ByteArray × ByteArray)} {k : ByteArray} (hb : ∀ j (hj : j < S.length), S[j].1 ≠ k) : idx S k = none := by
  unfold idx
  rw [List.findIdx?_eq_none_iff]
  intro x hx
  obtain ⟨j, hj, rfl⟩ := List.getElem_of_mem hx
  simpa using hb j hj

set_option maxHeartbeats 1000000 in
theorem find_ok (S : List (ByteArray × ByteArray)) (k : ByteArray) (v : Value) (w : World) (hs : Sl w 56 2 v S.length (stCells S)) (hl : S.length ≤ 100) :
    Calls Try.prog 19 #[v, .string k] w fun e w' => e = .returned (.int .i64 (idxI S k)) ∧ w = w' := by
  obtain ⟨a, c, rfl⟩ := hs.form
  have HS := Hd.mk hs
  clear hs
  go_enter Try.func19, Try.ntmps19
  go_wp2_with fail
  go_loop [5] (fun ii => ∃ i : Nat, ii = .int .i64 i ∧ i ≤ S.length ∧ Hd (∀ j (hj : j < S.length), j < i → S[j].1 ≠ k)) (fun ii => S.length - (intOf ii).toNat)
  case atStart => exact ⟨0, rfl, by omega, Hd.mk (by omega)⟩
  case round =>
    obtain ⟨i, rfl, hi, HB⟩ := hrel
    by_cases hlt : i < S.length
    · obtain ⟨g, o, c', he, -, -, hc⟩ := HS.out.some (by omega)
      simp only [Value.slice.injEq] at he
      obtain ⟨rfl, -, rfl⟩ := he
      have c0 := hc (i * 2) (by omega)
      rw [(stCells_at S i S[i] (List.getElem?_eq_getElem hlt)).1] at c0
      clear hc
      by_cases e : S[i].1 = k
      · have HF := Hd.mk (idx_hit hlt e HB.out)
        have hs := str_yes e
        clear e HB
        go_wp2_with fail
        go_ret
        exact ⟨ri (by unfold idxI; rw [HF.out]), rfl⟩
      · have hs := str_no e
        have HN := Hd.mk (show ∀ j (hj : j < S.length), j < i + 1 → S[j].1 ≠ k from fun j hj h => by
          by_cases q : j = i
          · subst q; exact e
          · exact HB.out j hj (by omega))
        clear e HB
        go_wp2_with fail
        go_round
        case rel => exact ⟨i + 1, by go_num, by omega, HN⟩
        case measure => simp [intOf]; omega
    · have HF := Hd.mk (idx_miss (fun j hj => HB.out j hj (by omega)))
      clear HB
      go_wp2_with fail
      go_ret
      exact ⟨ri (by unfold idxI; rw [HF.out]), rfl⟩

theorem nums_set (l : List Nat) (i x : Nat) : nums (l.set i x) = (nums l).set i (.int .i64 x) := by unfold nums; rw [List.map_set]
theorem nums_at (l : List Nat) (i : Nat) (h : i < l.length) : (nums l)[i]? = some (.int .i64 (l.getD i 0 : Nat)) := by
  simp [nums, List.getElem?_map, List.getElem?_eq_getElem h, List.getD]
theorem swp_len (p : List Nat) (a b : Nat) : (swp p a b).length = p.length := by simp [swp]
/-- A row of numbers of one's own, n of them. -/
structure Nm (w0 w : World) (g o n cap : Nat) (l : List Nat) : Prop where
  sl : Sl w 3 1 (.slice (some ⟨g, o, none⟩) n cap) n (nums l)
  len : l.length = n
  upd : Upd [g] w0 w
theorem Nm.cell {w0 w : World} {g o n cap : Nat} {l : List Nat} (h : Nm w0 w g o n cap l) (i : Nat) (hi : i < n) : w.cell? ⟨g, o + i, none⟩ = some (.int .i64 (l.getD i 0 : Nat)) := by
  rw [h.sl.cell i (by omega), nums_at l i (by rw [h.len]; exact hi)]
theorem Nm.swap {w0 w : World} {g o n cap : Nat} {l : List Nat} (h : Nm w0 w g o n cap l) (a b : Nat) (ha : a < n) (hb : b < n) :
    Nm w0 ((w.setCell ⟨g, o + a, none⟩ (.int .i64 (l.getD b 0 : Nat))).setCell ⟨g, o + b, none⟩ (.int .i64 (l.getD a 0 : Nat))) g o n cap (swp l a b) := by
  refine ⟨?_, by rw [swp_len]; exact h.len, (h.upd.set _ _ (by simp)).set _ _ (by simp)⟩
  unfold swp
  rw [nums_set, nums_set]
  exact (h.sl.set a ha _).set b hb _
theorem Nm.drew {w0 w : World} {g o n cap : Nat} {l : List Nat} (h : Nm w0 w g o n cap l) : Nm w0 w.drew g o n cap l := ⟨h.sl.upd (Upd.refl [] w).drew (by simp), h.len, h.upd.drew⟩
theorem Nm.drewN {w0 w : World} {g o n cap : Nat} {l : List Nat} (h : Nm w0 w g o n cap l) (k : Nat) : Nm w0 (w.drewN k) g o n cap l := ⟨h.sl.drewN k, h.len, h.upd.drewN k⟩
theorem piv_some {p : List Nat} : ∀ {k i : Nat}, piv p k = some i → i < k ∧ ¬ p.getD (i + 1) 0 < p.getD i 0
  | 0, i, h => by cases h
  | k + 1, i, h => by
    unfold piv at h
    split at h
    · have := piv_some h
      exact ⟨by omega, this.2⟩
    · rename_i hn
      simp only [Option.some.injEq] at h
      subst h
      exact ⟨by omega, hn⟩
def nextK (n : Nat) (l : List Nat) (k : Nat) : Option (List Nat) := match piv l k with | none => none | some i => some (rvs 6 (swp l i (jdx l (l.getD i 0) (n - 1))) (i + 1) (n - 1))
theorem nextK_L {n : Nat} {l : List Nat} (h : l.length = n) : nextL l = nextK n l (n - 1) := by subst h; rfl
theorem nextK_no (n : Nat) (l : List Nat) : nextK n l 0 = none := rfl
theorem nextK_on {n : Nat} {l : List Nat} {k : Nat} (h : l.getD (k + 1) 0 < l.getD k 0) : nextK n l (k + 1) = nextK n l k := by unfold nextK; rw [piv, if_pos h]
theorem nextK_yes {n : Nat} {l : List Nat} {k : Nat} (h : ¬ l.getD (k + 1) 0 < l.getD k 0) : nextK n l (k + 1) = some (rvs 6 (swp l k (jdx l (l.getD k 0) (n - 1))) (k + 1) (n - 1)) := by unfold nextK; rw [piv, if_neg h]
theorem jdx_on {p : List Nat} {x k : Nat} (h : p.getD (k + 1) 0 < x) : jdx p x (k + 1) = jdx p x k := by rw [jdx, if_pos h]
theorem jdx_stop {p : List Nat} {x k : Nat} (h : ¬ p.getD (k + 1) 0 < x) : jdx p x (k + 1) = k + 1 := by rw [jdx, if_neg h]
theorem rvs_on {f : Nat} {p : List Nat} {a b : Nat} (h : a < b) : rvs (f + 1) p a b = rvs f (swp p a b) (a + 1) (b - 1) := by rw [rvs, if_pos h]
theorem rvs_stop {f : Nat} {p : List Nat} {a b : Nat} (h : ¬ a < b) : rvs f p a b = p := by cases f <;> simp [rvs, h]
/-- What next leaves. -/
def Nextd (w : World) (g o n cap : Nat) (l : List Nat) (e : Ending) (w' : World) : Prop :=
  (nextL l = none ∧ e = .returned (.bool false) ∧ Upd [] w w') ∨ ∃ l', nextL l = some l' ∧ e = .returned (.bool true) ∧ Nm w w' g o n cap l'

set_option maxHeartbeats 2000000 in
theorem next_ok (g o n cap : Nat) (l : List Nat) (w : World) (h0 : Sl w 3 1 (.slice (some ⟨g, o, none⟩) n cap) n (nums l)) (hl : l.length = n) (hn : n ≤ 6) (h1 : 1 ≤ n) :
    Calls Try.prog 16 #[.slice (some ⟨g, o, none⟩) n cap] w (Nextd w g o n cap l) := by
  have HM := Hd.mk (show Nm w w g o n cap l from ⟨h0, hl, Upd.refl _ _⟩)
  have HL := Hd.mk hl
  clear h0 hl
  go_enter Try.func16, Try.ntmps16
  go_wp2_with fail
  go_loopg [3] (n - 1) (fun gh ii wr => ∃ k : Nat, k < n ∧ ii = .int .i64 ((k : Int) - 1) ∧ gh = k ∧ Hd (nextL l = nextK n l k) ∧ Nm w wr g o n cap l ∧ Upd [] w wr)
  case atStart => exact ⟨n - 1, by omega, by congr 1; omega, rfl, Hd.mk (nextK_L HL.out), HM.out, Upd.refl _ _⟩
  case round =>
    obtain ⟨k, hk, rfl, hgk, HN, mw, uw⟩ := hrel
    have HU := Hd.mk (And.intro mw uw)
    have HGK := Hd.mk hgk
    clear hgk
    cases k with
    | zero =>
      rw [show ((0 : Nat) : Int) - 1 = -1 from rfl]
      have HF := Hd.mk (HN.out.trans (nextK_no n l))
      clear HN
      go_upto_region 2 with (fail)
      refine wp_region_quiet_lit (by kernel_rfl) (by kernel_rfl) ?_
      repeat (go_big_quiet_step (fail))
      refine wpQuiet_nil ?_
      (intro _ hw'; obtain ⟨nb, hw''⟩ := hw'; subst hw'')
      go_wp2_with fail
      go_ret
      exact .inl ⟨HF.out, rfl, HU.out.2.drewN _⟩
    | succ i =>
      rw [show ((i + 1 : Nat) : Int) - 1 = (i : Int) by omega]
      have c1 := mw.cell i (by omega)
      have c2 := mw.cell (i + 1) (by omega)
      clear mw uw
      have e0 : decide ((0 : Int) ≤ i) = true := by simp
      by_cases hc : l.getD (i + 1) 0 < l.getD i 0
      · have hd : decide (l.getD (i + 1) 0 < l.getD i 0) = true := decide_eq_true hc
        have HF := Hd.mk (HN.out.trans (nextK_on hc))
        clear hc
        generalize l.getD (i + 1) 0 = y1 at *
        generalize l.getD i 0 = y0 at *
        go_upto_region 2 with (fail)
        refine wp_region_quiet_lit (by kernel_rfl) (by kernel_rfl) ?_
        repeat (go_big_quiet_step (fail))
        refine wpQuiet_nil ?_
        (intro _ hw'; obtain ⟨nb, hw''⟩ := hw'; subst hw'')
        go_wp2_with fail
        go_roundg i
        case measure => have := HGK.out; omega
        case rel => exact ⟨i, by omega, by go_num, rfl, HF, HU.out.1.drewN _, HU.out.2.drewN _⟩
      · have hd : decide (l.getD (i + 1) 0 < l.getD i 0) = false := decide_eq_false hc
        have HF := Hd.mk (HN.out.trans (nextK_yes hc))
        have HC := Hd.mk hc
        clear hc HN
        obtain ⟨y1, hy1⟩ : ∃ y1, l.getD (i + 1) 0 = y1 := ⟨_, rfl⟩
        obtain ⟨y0, hy0⟩ : ∃ y0, l.getD i 0 = y0 := ⟨_, rfl⟩
        rw [hy1] at c2 hd
        rw [hy0] at c1 hd
        have HY0 := Hd.mk hy0
        clear hy1 hy0
        go_upto_region 2 with (fail)
        refine wp_region_quiet_lit (by kernel_rfl) (by kernel_rfl) ?_
        repeat (go_big_quiet_step (fail))
        refine wpQuiet_nil ?_
        (intro _ hw'; obtain ⟨nb, hw''⟩ := hw'; subst hw'')
        clear hd c1 c2 e0
        go_wp2_with fail
        go_loopg [4] n (fun gh jj wq => ∃ j : Nat, j < n ∧ i < j ∧ jj = .int .i64 j ∧ gh = j + 1 ∧ Hd (jdx l y0 (n - 1) = jdx l y0 j) ∧ Nm w wq g o n cap l)
        case atStart => exact ⟨n - 1, by omega, by omega, by congr 1; omega, by omega, Hd.mk rfl, HU.out.1.drewN _⟩
        case round =>
          obtain ⟨j, hj, hij, rfl, hgj, HJ, mq⟩ := hrel
          have HQ := Hd.mk mq
          have c1 := mq.cell j hj
          have c2 := mq.cell i (by omega)
          rw [HY0.out] at c2
          obtain ⟨y, hy⟩ : ∃ y, l.getD j 0 = y := ⟨_, rfl⟩
          rw [hy] at c1
          have HY := Hd.mk hy
          clear mq hy
          by_cases hc : y < y0
          · have hd : decide (y < y0) = true := decide_eq_true hc
            obtain ⟨j', rfl⟩ : ∃ j', j = j' + 1 := ⟨j - 1, by omega⟩
            have HF2 := Hd.mk (HJ.out.trans (jdx_on (by rw [HY.out]; exact hc)))
            have hij' : i < j' := by
              have h1 := HC.out
              have h2 := HY.out
              have h3 := HY0.out
              have : i ≠ j' := by
                rintro rfl
                omega
              omega
            clear hc
            go_upto_region 7 with (fail)
            refine wp_region_quiet_lit (by kernel_rfl) (by kernel_rfl) ?_
            repeat (go_big_quiet_step (fail))
            refine wpQuiet_nil ?_
            (intro _ hw'; obtain ⟨nc, hw''⟩ := hw'; subst hw'')
            go_wp2_with fail
            go_roundg (j' + 1)
            case measure => omega
            case rel => exact ⟨j', by omega, hij', by simp, rfl, HF2, HQ.out.drewN _⟩
          · have hd : decide (y < y0) = false := decide_eq_false hc
            obtain ⟨j', rfl⟩ : ∃ j', j = j' + 1 := ⟨j - 1, by omega⟩
            have HF2 := Hd.mk (HJ.out.trans (jdx_stop (by rw [HY.out]; exact hc)))
            have HF3 := Hd.mk (show nextL l = some (rvs 6 (swp l i (j' + 1)) (i + 1) (n - 1)) by rw [HF.out, HY0.out, HF2.out])
            clear hc HF HF2 HJ
            go_upto_region 7 with (fail)
            refine wp_region_quiet_lit (by kernel_rfl) (by kernel_rfl) ?_
            repeat (go_big_quiet_step (fail))
            refine wpQuiet_nil ?_
            (intro _ hw'; obtain ⟨nc, hw''⟩ := hw'; subst hw'')
            have HQ2 := Hd.mk (HQ.out.drewN nc)
            clear hd HQ
            go_wp2_with fail
            refine wp_abs (fun W => Nm w W g o n cap l) HQ2.out ?_
            clear c1 c2 HQ2
            intro w3 m3
            have HQ := Hd.mk m3
            have c1 := m3.cell (j' + 1) hj
            have c2 := m3.cell i (by omega)
            have f1 := m3.sl.free (o + (j' + 1))
            have f2 := m3.sl.free (o + i)
            clear m3
            obtain ⟨ya, hya⟩ : ∃ ya, l.getD (j' + 1) 0 = ya := ⟨_, rfl⟩
            obtain ⟨yb, hyb⟩ : ∃ yb, l.getD i 0 = yb := ⟨_, rfl⟩
            rw [hya] at c1
            rw [hyb] at c2
            have HY2 := Hd.mk (And.intro hya hyb)
            clear hya hyb HY HY0 HC
            go_region
            all_goals
              refine wp_abs (fun W => Nm w W g o n cap (swp l i (j' + 1))) (by
                have := (HQ.out.swap i (j' + 1) (by omega) hj).drew
                rw [HY2.out.1, HY2.out.2] at this
                exact this) ?_
              clear c1 c2 f1 f2 HQ
              intro w4 m4
              have HQ := Hd.mk m4
              have HF4 := Hd.mk HF3.out
              clear m4
              go_wp2_with fail
              go_loopg [5, 6] 6 (fun gh aa bb wq => ∃ (x y : Nat) (p : List Nat), x < n ∧ y < n ∧ aa = .int .i64 x ∧ bb = .int .i64 y ∧ y ≤ x + 2 * gh ∧ Hd (nextL l = some (rvs gh p x y)) ∧ Nm w wq g o n cap p)
              case atStart => exact ⟨i + 1, n - 1, _, by omega, by omega, by go_num, by congr 1; omega, by omega, HF4, HQ.out⟩
              case round =>
                clear HQ HF4
                obtain ⟨x, y, p, hx, hy, rfl, rfl, hxy, HP, mq⟩ := hrel
                have HQ := Hd.mk mq
                by_cases hlt : x < y
                · have c1 := mq.cell x hx
                  have c2 := mq.cell y hy
                  have f1 := mq.sl.free (o + x)
                  have f2 := mq.sl.free (o + y)
                  clear mq
                  obtain ⟨ya, hya⟩ : ∃ ya, p.getD x 0 = ya := ⟨_, rfl⟩
                  obtain ⟨yb, hyb⟩ : ∃ yb, p.getD y 0 = yb := ⟨_, rfl⟩
                  rw [hya] at c1
                  rw [hyb] at c2
                  have HY3 := Hd.mk (And.intro hya hyb)
                  obtain ⟨f, rfl⟩ : ∃ f, gk = f + 1 := ⟨gk - 1, by omega⟩
                  have HP2 := Hd.mk (HP.out.trans (congrArg some (rvs_on hlt)))
                  clear hya hyb HP
                  go_wp2_with fail
                  go_region
                  refine wp_abs (fun W => Nm w W g o n cap (swp p x y)) (by
                    have := (HQ.out.swap x y hx hy).drew
                    rw [HY3.out.1, HY3.out.2] at this
                    exact this) ?_
                  clear c1 c2 f1 f2 HQ
                  intro w5 m5
                  have HQ := Hd.mk m5
                  clear m5
                  go_wp2_with fail
                  go_roundg f
                  case measure => omega
                  case rel => exact ⟨x + 1, y - 1, _, by omega, by omega, by go_num, by congr 1; omega, by omega, HP2, HQ.out⟩
                · have HP2 := Hd.mk (HP.out.trans (congrArg some (rvs_stop hlt)))
                  clear mq
                  go_wp2_with fail
                  go_ret
                  exact .inr ⟨p, HP2.out, rfl, HQ.out⟩
end Go.Proofs.Ytbdiejlodedelaa
