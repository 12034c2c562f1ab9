/- Judge: valid, of an order that fits. -/
import Derived.Test.YtbdiejlodedelaaJ7
namespace Go.Proofs.Ytbdiejlodedelaa
set_option linter.unusedSimpArgs false
set_option linter.unusedVariables false
set_option linter.unnecessarySimpa false
open Go.RowKit BigFrame

def stAt (O : Nat → Op) (m : St) (l : List Nat) : St := l.foldl (fun m i => (O i).after m) m
theorem stAt_snoc (O : Nat → Op) (m : St) (l : List Nat) (i : Nat) : stAt O m (l ++ [i]) = (O i).after (stAt O m l) := by simp [stAt]
theorem fits_drop {O : Nat → Op} {l : List Nat} (h : fits O St.none l = true) : ∀ i, i ≤ l.length → fits O (stAt O St.none (l.take i)) (l.drop i) = true := by
  intro i
  induction i with
  | zero => intro _; simpa [stAt] using h
  | succ i ih =>
    intro hi
    have := ih (by omega)
    rw [List.drop_eq_getElem_cons (by omega), fits] at this
    simp only [Bool.and_eq_true] at this
    rw [List.take_succ_eq_append_getElem (by omega), stAt_snoc]
    exact this.2
theorem fits_at {O : Nat → Op} {l : List Nat} (h : fits O St.none l = true) {i k : Nat} (hi : l[i]? = some k) : (O k).told (stAt O St.none (l.take i)) = true ∧ ∀ j, j ∈ l.drop (i + 1) → ¬ (O j).e < (O k).b := by
  obtain ⟨hl, rfl⟩ := List.getElem?_eq_some_iff.1 hi
  have := fits_drop h i (by omega)
  rw [List.drop_eq_getElem_cons hl, fits] at this
  simp only [Bool.and_eq_true, List.all_eq_true] at this
  refine ⟨this.1.2, fun j hj => ?_⟩
  have := this.1.1 j hj
  simpa using this
/-- The map of those that were seen. -/
def Seen (w : World) (r : Nat) (l : List Nat) : Prop := ∃ L, Mp w r (fun k => .int .i64 k) L ∧ ∀ k : Nat, get L (k : Int) = if k ∈ l then some (.bool true) else none
theorem Seen.upd {w w' : World} {r : Nat} {l : List Nat} (h : Seen w r l) (u : Upd [] w w') : Seen w' r l := by
  obtain ⟨L, h1, h2⟩ := h
  exact ⟨L, h1.upd u (by simp), h2⟩

set_option maxRecDepth 100000 in
set_option maxHeartbeats 2000000 in
theorem valid_ok (a : Option Addr) (n cap : Nat) (O : Nat → Op) (v : Value) (l : List Nat) (w0 w : World) (h : Rd w a n O) (hn : n ≤ 12) (hv : Bld w0 w 3 1 v l.length (nums l)) (hp : l.Perm (List.range n)) (hf : fits O St.none l = true) :
    Calls Try.prog 12 #[.slice a n cap, v] w fun e w' => e = .returned (.bool true) ∧ Upd [] w w' := by
  have hll : l.length = n := by simpa using hp.length_eq
  have hnd : l.Nodup := hp.nodup_iff.2 List.nodup_range
  have hlt : ∀ k ∈ l, k < n := fun k hk => by simpa using hp.subset hk
  have HLT := Hd.mk hlt
  have HND := Hd.mk hnd
  have HFT := Hd.mk hf
  have HR := Hd.mk h
  have hsl := hv.sl
  obtain ⟨ao, co, rfl⟩ := hsl.form
  rw [hll] at hsl ⊢
  have HSL := Hd.mk hsl
  have HLL := Hd.mk hll
  clear hll hnd hlt hf h hv hp hsl
  have hmm := @run_makeMap Try.prog
  go_enter Try.func12, Try.ntmps12
  go_upto_region 3 with (fail)
  have m1 := Mp.new w (fun k : Int => Value.int .i64 k)
  have m2 := Mp.new (w.alloc (.map #[] 0)) (fun k : ByteArray => Value.string k)
  refine wp_abs (fun W => Upd [] w W ∧ Seen W w.heap.size [] ∧ MS W (w.heap.size + 1) St.none 0) ⟨((Upd.refl _ _).alloc _).alloc _, ⟨[], m1.upd ((Upd.refl [] _).alloc _) (by simp), fun k => by simp [get_nil]⟩, ⟨[], by simpa using m2, fun k => rfl, rfl⟩⟩ ?_
  clear m1 m2 hmm
  rintro w1 ⟨u1, s1, g1⟩
  have hsz : w.heap.size + 1 < w1.heap.size := g1.lt
  have SB := Hd.mk (show w.heap.size ≤ w.heap.size from Nat.le_refl _)
  generalize hsb : w.heap.size = sb at s1 g1 SB hsz ⊢
  have HSB := Hd.mk hsb
  clear hsb
  go_wp2_with fail
  go_loopg [6, 17] n (fun g s6 ii wr => ∃ (i rm k : Nat), ii = .int .i64 i ∧ g + i = n ∧ s6 = .map (some rm) ∧ sb ≠ rm ∧ Upd [] w wr ∧ Seen wr sb (l.take i) ∧ MS wr rm (stAt O St.none (l.take i)) k)
  case atStart => exact ⟨0, sb + 1, 0, rfl, by omega, rfl, by omega, u1, by simpa using s1, by simpa [stAt] using g1⟩
  case round =>
    clear u1 s1 g1 hsz
    obtain ⟨i, rm, nm_, rfl, hg, rfl, hne, u, se, mr⟩ := hrel
    obtain ⟨gq, hgq⟩ : ∃ gq, gq = gk - 1 := ⟨_, rfl⟩
    have HGQ := Hd.mk hgq
    clear hgq
    by_cases hi : i < n
    · obtain ⟨g0, o0, c0, he, hco, hcm, hcell⟩ := (HSL.out.upd u (by simp)).some (by omega)
      simp only [Value.slice.injEq] at he
      obtain ⟨rfl, -, rfl⟩ := he
      have hil : i < l.length := by rw [HLL.out]; exact hi
      obtain ⟨k, hk⟩ : ∃ k, l[i]? = some k := ⟨l[i], List.getElem?_eq_getElem hil⟩
      have hkn : k < n := HLT.out k (List.mem_of_getElem? hk)
      have ci := hcell i (by omega)
      rw [show (nums l)[i]? = some (.int .i64 k) by simp [nums, hk]] at ci
      obtain ⟨L, mL, gL⟩ := se
      have hkt : k ∉ l.take i := by
        intro hm
        obtain ⟨j, hj⟩ := List.getElem?_of_mem hm
        rw [List.getElem?_take] at hj
        split at hj
        · have := (List.getElem?_inj hil HND.out).1 (hk.trans hj.symm)
          omega
        · cases hj
      have gk0 := gL k
      rw [if_neg hkt] at gk0
      have hlk := run_lookup_mp (P := Try.prog) (keyLaw_int (kt := 3) Try.underlying3) 50 Try.underlying50 (.bool false) (fun W => by kernel_rfl) mL (k : Int) false
      rw [gk0] at hlk
      obtain ⟨cb, w2, hup, m2, u2⟩ := run_update_mp (P := Try.prog) (keyLaw_int (kt := 3) Try.underlying3) 50 Try.underlying50 mL (k : Int) (.bool true)
      have HTK := Hd.mk (fits_at HFT.out hk)
      have HMS := Hd.mk (mr.upd u2 (by simp; exact fun e => hne e.symm))
      have HSE := Hd.mk (show Seen w2 sb (l.take (i + 1)) from ⟨_, m2, fun x => by
        rw [get_put, gL x]
        have : x ∈ l.take (i + 1) ↔ x = k ∨ x ∈ l.take i := by
          rw [List.take_add_one, hk]; simp [or_comm]
        by_cases e : x = k
        · subst e; simp [this]
        · have e' : ¬ (x : Int) = k := by omega
          rw [if_neg e']
          simp only [this, e, false_or]⟩)
      have HU2 := Hd.mk (u.trans u2 (by intro j hj h; simp at h; have := HSB.out; omega))
      have HK := Hd.mk hk
      have HG := Hd.mk hg
      obtain ⟨v2, hsl2, s2, o2⟩ := run_from_sl (P := Try.prog) 25 3 1 Try.underlying25 (by kernel_rfl) w2 _ _ _ (HSL.out.upd HU2.out (by simp)) (i + 1) (by omega) (by omega)
      obtain ⟨q, hq⟩ : ∃ q, n - (i + 1) = q := ⟨_, rfl⟩
      rw [hq] at s2
      obtain ⟨a2, c2, rfl⟩ := s2.form
      have HS2 := Hd.mk s2
      have HQ := Hd.mk hq
      have hq2 : i + 1 + q = n := by omega
      have HQ2 := Hd.mk hq2
      have hq12 : q ≤ 12 := by omega
      have HST := Hd.mk (show stAt O St.none (l.take (i + 1)) = (O k).after (stAt O St.none (l.take i)) by rw [List.take_add_one, hk]; simp [stAt])
      simp only [Int.natCast_add, Int.natCast_one] at hsl2
      have d1 : decide ((n : Int) ≤ k) = false := by simp; omega
      clear hq hq2 mL gL gk0 mr m2 u2 u hk hg s2 o2 hcell hkt hil
      go_wp2_with fail
      clear hup hlk ci hsl2
      go_loopg [42] q (fun g jj wq => ∃ j : Nat, jj = .int .i64 j ∧ g + j = q ∧ Upd [] w2 wq)
      case atStart => exact ⟨0, rfl, by omega, Upd.refl _ _⟩
      case round =>
        obtain ⟨j, rfl, hg2, u3⟩ := hrel
        by_cases hj : j < q
        · obtain ⟨g2, o2, c2', he2, -, -, hcell2⟩ := (HS2.out.upd u3 (by simp)).some (by omega)
          simp only [Value.slice.injEq] at he2
          obtain ⟨rfl, -, rfl⟩ := he2
          have hil2 : i + 1 + j < l.length := by rw [HLL.out]; have := HQ2.out; omega
          obtain ⟨k2, hk2⟩ : ∃ k2, l[i + 1 + j]? = some k2 := ⟨l[i + 1 + j], List.getElem?_eq_getElem hil2⟩
          have hkn2 : k2 < n := HLT.out k2 (List.mem_of_getElem? hk2)
          have ci := hcell2 j (by omega)
          rw [show ((nums l).drop ((i + 1) * 1))[j]? = some (.int .i64 k2) by rw [List.getElem?_drop, Nat.mul_one]; simp [nums, hk2]] at ci
          have hno := HTK.out.2 k2 (List.mem_of_getElem? (i := j) (by rw [List.getElem?_drop]; exact hk2))
          have hd : decide ((O k2).e < (O k).b) = false := by simpa using hno
          have e1 : decide ((0 : Int) ≤ k2) = true := by simp
          have e2 : decide ((k2 : Int) < n) = true := by simp; omega
          obtain ⟨b, off, rfl, hb, -, -, ce, -⟩ := ((HR.out.upd HU2.out).upd u3).at k2 hkn2
          obtain ⟨b', off', hbb, -, -, cb', -⟩ := ((HR.out.upd HU2.out).upd u3).at k hkn
          obtain ⟨rfl, rfl⟩ : b = b' ∧ off = off' := by simpa using hbb
          have HU3 := Hd.mk u3
          have HG2 := Hd.mk hg2
          clear u3 hg2 hcell2 hil2 hk2 hno hbb
          go_upto_region 12 with (fail)
          refine wp_region_quiet_lit (by kernel_rfl) (by kernel_rfl) ?_
          repeat (go_big_quiet_step (fail))
          refine wpQuiet_nil ?_
          (intro _ hw'; obtain ⟨nq, hw''⟩ := hw'; subst hw'')
          go_wp2_with fail
          go_roundg (gk - 1)
          case measure => have := HG2.out; omega
          case rel => exact ⟨j + 1, by go_num, by have := HG2.out; omega, HU3.out.drewN _⟩
        · obtain rfl : j = q := by omega
          obtain ⟨b, off, rfl, hb, c0, c1, c2, c3, c4, c5⟩ := ((HR.out.upd HU2.out).upd u3).at k hkn
          have HM3 := Hd.mk (HMS.out.upd u3 (by simp))
          have HU3 := Hd.mk (HU2.out.trans u3 (by simp))
          have HSE3 := Hd.mk (HSE.out.upd u3)
          clear u3 hj hg2
          go_wp2_with fail
          refine (step_yes rm nm_ _ (O k) _ HM3.out HTK.out.1).mono ?_
          rintro e w4 ⟨r', n', rfl, hr', m', u4⟩
          have HF := Hd.mk (show sb ≠ r' ∧ Upd [] w w4 ∧ Seen w4 sb (l.take (i + 1)) ∧ MS w4 r' (stAt O St.none (l.take (i + 1))) n' from ⟨by
            have := HSE3.out
            obtain ⟨L, mL, -⟩ := this
            have := mL.lt
            rcases hr' with h | h
            · rw [h]; exact hne
            · omega, HU3.out.trans u4 (by simp), HSE3.out.upd u4, by rw [HST.out]; exact m'⟩)
          clear m' u4 hr' c0 c1 c2 c3 c4 c5
          go_wp2_with fail
          go_roundg gq
          case measure => have := HG.out; have := HGQ.out; omega
          case rel => exact ⟨i + 1, r', n', by go_num, by have := HG.out; have := HGQ.out; omega, rfl, HF.out.1, HF.out.2.1, HF.out.2.2.1, HF.out.2.2.2⟩
    · obtain rfl : i = n := by omega
      clear hi hg
      go_wp2_with fail
      go_ret
      exact ⟨rfl, u⟩
end Go.Proofs.Ytbdiejlodedelaa
