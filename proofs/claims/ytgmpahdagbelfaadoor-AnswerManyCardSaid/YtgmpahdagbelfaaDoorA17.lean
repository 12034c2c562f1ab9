/- AnswerMany: answers one behind the other are read one behind the other. -/
import Derived.Test.YtgmpahdagbelfaaDoorA14
namespace Go.Proofs.YtgmpahdagbelfaaDoor
set_option linter.unusedSimpArgs false
set_option linter.unusedVariables false
set_option linter.unnecessarySimpa false
open Go.RowKit BigFrame

structure Rw where
  k : Int
  fs : List (Bs × Bs)
  body : Bs
  cl : Bool
  a : Option Addr
  cap : Nat
def Rw.cells (r : Rw) : List Value := rcells r.k r.fs r.body r.cl r.a r.cap
def Rw.rs (r : Rw) : Rs := ⟨r.k.toNat, r.fs, r.body, r.cl⟩
/-- Responses that can be read at a. -/
def Many (w : World) (a : Option Addr) (n : Nat) (R : Nat → Rw) : Prop := 0 < n → ∃ b off, a = some ⟨b, off, none⟩ ∧ b < w.heap.size ∧ ∀ i, i < n → Came w (R i).k (R i).fs (R i).body (R i).a ∧ ∀ j, j < 4 → w.cell? ⟨b, off + (i * 4 + j), none⟩ = (R i).cells[j]?
theorem Many.upd {w w' : World} {a : Option Addr} {n : Nat} {R : Nat → Rw} (h : Many w a n R) (hu : Upd [] w w') : Many w' a n R := by
  intro h0
  obtain ⟨b, off, rfl, hb, hc⟩ := h h0
  exact ⟨b, off, rfl, Nat.lt_of_lt_of_le hb hu.size, fun i hi => ⟨(hc i hi).1.upd hu, fun j hj => (hu.cell (p := ⟨b, _, none⟩) hb (by simp)).trans ((hc i hi).2 j hj)⟩⟩
theorem Many.at {w : World} {a : Option Addr} {n : Nat} {R : Nat → Rw} (h : Many w a n R) {i : Nat} (hi : i < n) : ∃ b off, a = some ⟨b, off, none⟩ ∧ b < w.heap.size ∧ Came w (R i).k (R i).fs (R i).body (R i).a ∧
    w.cell? ⟨b, off + i * 4, none⟩ = some (.int .i64 (R i).k) ∧ w.cell? ⟨b, off + i * 4 + 1, none⟩ = some (.slice (R i).a (R i).fs.length (R i).cap) ∧ w.cell? ⟨b, off + i * 4 + 2, none⟩ = some (S (R i).body) ∧ w.cell? ⟨b, off + i * 4 + 3, none⟩ = some (.bool (R i).cl) := by
  obtain ⟨b, off, rfl, hb, hc⟩ := h (by omega)
  exact ⟨b, off, rfl, hb, (hc i hi).1, (hc i hi).2 0 (by omega), (hc i hi).2 1 (by omega), (hc i hi).2 2 (by omega), (hc i hi).2 3 (by omega)⟩
theorem leaf_many {w : World} {a : Option Addr} {n cap : Nat} (h : Leaf.ok w (.sl [.int .i64, .sl [.str, .str], .str, .bool]) (.slice a n cap)) : ∃ R, Many w a n R := by
  by_cases h0 : 0 < n
  · obtain ⟨b, off, V, rfl, hb, hm, hV⟩ := Leaf.open h h0 (by simp)
    have hx : ∀ i : Nat, ∃ r : Rw, i < n → V i = r.cells ∧ Came w r.k r.fs r.body r.a := by
      intro i
      by_cases hi : i < n
      · obtain ⟨k, fs, body, cl, a, cap, he, hc⟩ := leaf_rs (hV i hi).1
        exact ⟨⟨k, fs, body, cl, a, cap⟩, fun _ => ⟨he, hc⟩⟩
      · exact ⟨⟨0, [], [], false, none, 0⟩, fun h => absurd h hi⟩
    obtain ⟨R, hR⟩ := Classical.axiomOfChoice hx
    refine ⟨R, fun _ => ⟨b, off, rfl, hb, fun i hi => ⟨(hR i hi).2, fun j hj => ?_⟩⟩⟩
    rw [← (hR i hi).1]
    exact (hV i hi).2 j (by simpa using hj)
  · exact ⟨fun _ => ⟨0, [], [], false, none, 0⟩, fun h => absurd h h0⟩
/-- The bytes of the first i of them; of those from i on. -/
def encTo (R : Nat → Rw) (i : Nat) : Bs := (List.range i).flatMap fun j => encL (R j).rs
def encFrom (R : Nat → Rw) (i n : Nat) : Bs := (List.range' i (n - i)).flatMap fun j => encL (R j).rs
theorem encTo_succ (R : Nat → Rw) (i : Nat) : encTo R (i + 1) = encTo R i ++ encL (R i).rs := by
  unfold encTo
  rw [List.range_succ, List.flatMap_append]
  simp
theorem encFrom_zero (R : Nat → Rw) (n : Nat) : encFrom R 0 n = encTo R n := by
  unfold encFrom encTo
  rw [Nat.sub_zero, List.range_eq_range']
theorem encFrom_step (R : Nat → Rw) {i n : Nat} (h : i < n) : encFrom R i n = encL (R i).rs ++ encFrom R (i + 1) n := by
  unfold encFrom
  rw [show n - i = (n - (i + 1)) + 1 by omega, List.range'_succ]
  simp
theorem encFrom_end (R : Nat → Rw) (n : Nat) : encFrom R n n = [] := by unfold encFrom; simp
theorem encFrom_len (R : Nat → Rw) (n : Nat) (hR : ∀ j, j < n → (encL (R j).rs).length ≤ 9000) : ∀ k i, n = i + k → (encFrom R i n).length ≤ 9000 * k
  | 0, i, h => by
    obtain rfl : n = i := by omega
    rw [encFrom_end]; simp
  | k + 1, i, h => by
    rw [encFrom_step R (by omega), List.length_append]
    have := encFrom_len R n hR k (i + 1) (by omega)
    have := hR i (by omega)
    omega

set_option maxRecDepth 100000 in
set_option maxHeartbeats 4000000 in
theorem many_walk (a : Option Addr) (n cap : Nat) (R : Nat → Rw) (w : World) (h : Many w a n R) (hn : n ≤ 140737488351232) (hT : Tab w) :
    Calls Tryd.prog 7 #[.slice a n cap] w fun e w' => e = .returned (.bool true) ∧ Upd [] w w' := by
  have HT := Hd.mk hT
  have HM := Hd.mk h
  clear hT h
  go_enter Tryd.func7, Tryd.ntmps7
  go_wp2_with fail
  refine (fit_ok w HT.out).mono ?_
  rintro e w1 ⟨rfl, u1⟩
  have HU := Hd.mk u1
  clear u1
  by_cases hl : 20 < n
  · go_wp2_with fail
    go_ret
    exact ⟨rfl, HU.out⟩
  go_wp2_with fail
  go_loopg [3, 5, 21] n (fun g s3 s5 ii wr => ∃ (i : Nat) (t : ByteArray), g + i = n ∧ ii = .int .i64 i ∧ s3 = .string t ∧ t.size ≤ 9000 * i ∧ Hd (t.data.toList = encTo R i ∧ (∀ j, j < i → (∃ m : Nat, (R j).k = m) ∧ Fits (R j).rs) ∧ Upd [] w wr))
  case atStart => exact ⟨0, ⟨#[]⟩, by omega, rfl, rfl, by decide, Hd.mk ⟨rfl, by omega, HU.out⟩⟩
  case round =>
    obtain ⟨i, t, hg, rfl, rfl, hts, HS⟩ := hrel
    by_cases hi : i < n
    · obtain ⟨b, off, rfl, hbw, hcm, c0, c1, c2, c3⟩ := (HM.out.upd HS.out.2.2).at hi
      have HES := Hd.mk (encTo_succ R i)
      generalize hri : R i = ri at hcm c0 c1 c2 c3
      obtain ⟨k, fs, body, cl, ra, rc⟩ := ri
      have HRI := Hd.mk hri
      have HC := Hd.mk hcm
      obtain ⟨bd, hbd⟩ : ∃ t : ByteArray, (⟨body.toArray⟩ : ByteArray) = t := ⟨_, rfl⟩
      simp only [S, hbd] at c0 c1 c2 c3
      have HBD := Hd.mk hbd
      have HG := Hd.mk hg
      clear hri hcm hbd hg hbw
      go_upto_region 9 with (fail)
      refine wp_abs (fun W => Blk W wr.heap.size [.int .i64 k, .slice ra fs.length rc, .string bd, .bool cl] 29 ∧ Upd [] wr W) ⟨Blk.new wr [.int .i64 k, .slice ra fs.length rc, .string bd, .bool cl] 29 _ rfl, (Upd.refl _ _).alloc _⟩ ?_
      clear c0 c1 c2 c3
      generalize wr.heap.size = fb
      rintro w2 ⟨b2, u2⟩
      have HB := Hd.mk (And.intro b2 u2)
      have c0 := b2.cell 0
      have c1 := b2.cell 1
      have c2 := b2.cell 2
      have c3 := b2.cell 3
      simp only [List.getElem?_cons_zero, List.getElem?_cons_succ] at c0 c1 c2 c3
      clear b2 u2
      have hr := right_any k fs body cl ra rc w2 (HC.out.upd HB.out.2)
      simp only [rcells, S, HBD.out] at hr
      have HR := Hd.mk hr
      clear hr
      go_wp2_with fail
      refine HR.out.mono ?_
      rintro e w3 ⟨b, rfl, hb, u3⟩
      have HB := Hd.mk (And.intro (u3.blk HB.out.1 (by simp)) (HB.out.2.trans u3 (by simp)))
      clear u3 c0 c1 c2 c3 HR
      cases b with
      | false =>
        clear hb
        go_wp2_with fail
        go_ret
        exact ⟨rfl, HS.out.2.2.trans HB.out.2 (by simp)⟩
      | true =>
        obtain ⟨m, rfl, hf⟩ := hb rfl
        clear hb
        have b2 := HB.out.1
        have c0 := b2.cell 0
        have c1 := b2.cell 1
        have c2 := b2.cell 2
        have c3 := b2.cell 3
        simp only [List.getElem?_cons_zero, List.getElem?_cons_succ] at c0 c1 c2 c3
        clear b2
        have henc := encode_ok ⟨m, fs, body, cl⟩ ra rc w3 (HC.out.rf.upd HB.out.2) (by have := hf.right.st1; show m ≤ _; simp at this; omega) (by have := hf.flds; show (flds fs).length ≤ _; simp at this; omega) (by have := hf.body; show body.length ≤ _; simp at this; omega) (by have := hf.num; show fs.length ≤ _; simp at this; omega) (HT.out.upd (HS.out.2.2.trans HB.out.2 (by simp)))
        simp only [Rs.cells, S, HBD.out] at henc
        have HF := Hd.mk hf
        have hel := hf.enc
        obtain ⟨te, hte⟩ : ∃ t : ByteArray, (⟨(encL ⟨m, fs, body, cl⟩).toArray⟩ : ByteArray) = t := ⟨_, rfl⟩
        have hts2 : te.size ≤ 9000 := by rw [← hte, S_size]; exact hel
        have HTE := Hd.mk (show te.data.toList = encL ⟨m, fs, body, cl⟩ by rw [← hte])
        rw [hte] at henc
        have HENC := Hd.mk henc
        clear henc hte hel hf
        go_wp2_with fail
        refine HENC.out.mono ?_
        rintro e w4 ⟨rfl, u4⟩
        have HU4 := Hd.mk ((HS.out.2.2.trans HB.out.2 (by simp)).trans u4 (by simp))
        clear u4 c0 c1 c2 c3
        go_wp2_with fail
        go_roundg (gk - 1)
        case measure => have := HG.out; omega
        case rel => exact ⟨i + 1, _, by have := HG.out; omega, by go_num, rfl, by simp only [ByteArray.size_append]; omega, Hd.mk ⟨by
            rw [HES.out, HRI.out]
            simp only [ByteArray.data_append, Array.toList_append, HS.out.1, HTE.out]
            rfl, fun j hj => by
            by_cases e : j = i
            · subst e; rw [HRI.out]; exact ⟨⟨m, rfl⟩, HF.out⟩
            · exact HS.out.2.1 j (by omega), HU4.out⟩⟩
    · obtain rfl : i = n := by omega
      have HS1 := Hd.mk HS.out
      have hE0 := encFrom_zero R i
      have HE0 := Hd.mk hE0
      have HLEN := Hd.mk (encFrom_len R i (fun j hj => (HS.out.2.1 j hj).2.enc))
      clear hg hi hE0
      go_wp2_with fail
      go_loopg [3, 7, 8, 9, 10, 35] i (fun g s3 s7 s8 s9 s10 ii wr => ∃ (j : Nat) (x : ByteArray), g + j = i ∧ ii = .int .i64 j ∧ s3 = .string x ∧ Hd (x.data.toList = encFrom R j i ∧ Upd [] w wr))
      case atStart => exact ⟨0, t, by omega, rfl, rfl, Hd.mk ⟨by rw [HS1.out.1, HE0.out], HS1.out.2.2⟩⟩
      case round =>
        obtain ⟨j, x, hg, rfl, rfl, HX⟩ := hrel
        have hxs : x.size ≤ 180000 := by
          have h1 : x.data.toList.length = x.size := by simp
          have h2 := HLEN.out (i - j) j (by omega)
          rw [← h1, HX.out.1]
          omega
        by_cases hj : j < i
        · obtain ⟨b, off, rfl, hbw, hcm, c0, c1, c2, c3⟩ := (HM.out.upd HX.out.2).at hj
          have hfit := HS1.out.2.1 j hj
          have HXE := Hd.mk (HX.out.1.trans (encFrom_step R hj))
          generalize hri : R j = ri at hcm c0 c1 c2 c3 hfit HXE
          obtain ⟨k, fs, body, cl, ra, rc⟩ := ri
          obtain ⟨⟨m, hm⟩, hf⟩ := hfit
          simp only at hm
          subst hm
          have hf : Fits ⟨m, fs, body, cl⟩ := hf
          have HF := Hd.mk hf
          have HXE : Hd (x.data.toList = encL ⟨m, fs, body, cl⟩ ++ encFrom R (j + 1) i) := HXE
          have HC := Hd.mk hcm
          obtain ⟨bd, hbd⟩ : ∃ t : ByteArray, (⟨body.toArray⟩ : ByteArray) = t := ⟨_, rfl⟩
          simp only [S, hbd] at c0 c1 c2 c3
          have HBD := Hd.mk hbd
          have HG := Hd.mk hg
          obtain ⟨nx, hnx⟩ : ∃ t : ByteArray, (⟨(encFrom R (j + 1) i).toArray⟩ : ByteArray) = t := ⟨_, rfl⟩
          have HNX := Hd.mk (show nx.data.toList = encFrom R (j + 1) i by rw [← hnx])
          have HNX2 := Hd.mk hnx
          clear hri hcm hbd hg hbw hf hnx
          go_upto_region 16 with (fail)
          refine wp_abs (fun W => Blk W wr.heap.size [.int .i64 m, .slice ra fs.length rc, .string bd, .bool cl] 29 ∧ Upd [] wr W) ⟨Blk.new wr [.int .i64 m, .slice ra fs.length rc, .string bd, .bool cl] 29 _ rfl, (Upd.refl _ _).alloc _⟩ ?_
          clear c0 c1 c2 c3
          generalize wr.heap.size = fb
          rintro w2 ⟨b2, u2⟩
          have HB := Hd.mk (And.intro b2 (HX.out.2.trans u2 (by simp)))
          have HUQ := Hd.mk u2
          clear b2 u2
          go_wp2_with fail
          refine (decode_ok x w2 (by omega) (HT.out.upd HB.out.2)).mono ?_
          intro e w3 hd
          obtain ⟨a5, k5, rfl, hrf, u3⟩ := hd.some_of (by rw [HXE.out]; exact decL_enc _ HF.out.right _)
          have HUQ := Hd.mk (HUQ.out.trans u3 (by simp))
          have HB := Hd.mk (And.intro (u3.blk HB.out.1 (by simp)) (And.intro (HB.out.2.trans u3 (by simp)) (And.intro hrf (HC.out.rf.upd HUQ.out))))
          clear hd u3 hrf
          simp only [Rs.cells, S, HBD.out, HNX2.out]
          go_upto_region 17 with (fail)
          refine wp_abs (fun W => Blk W fb [.int .i64 m, .slice ra fs.length rc, .string bd, .bool cl] 29 ∧ Upd [] w W ∧ Rf W a5 fs ∧ Rf W ra fs ∧ Blk W w3.heap.size [.int .i64 m, .slice a5 fs.length k5, .string bd, .bool cl] 29) ⟨HB.out.1.alloc _, HB.out.2.1.alloc _, HB.out.2.2.1.upd ((Upd.refl _ _).alloc _), HB.out.2.2.2.upd ((Upd.refl _ _).alloc _), Blk.new w3 [.int .i64 m, .slice a5 fs.length k5, .string bd, .bool cl] 29 _ rfl⟩ ?_
          clear HB HUQ
          generalize w3.heap.size = gb
          rintro w4 ⟨b4, u4, r4, r4', g4⟩
          have HB := Hd.mk u4
          have c0 := b4.cell 0
          have c1 := b4.cell 1
          have c2 := b4.cell 2
          have c3 := b4.cell 3
          simp only [List.getElem?_cons_zero, List.getElem?_cons_succ] at c0 c1 c2 c3
          have d0 := g4.cell 0
          have d1 := g4.cell 1
          have d2 := g4.cell 2
          have d3 := g4.cell 3
          simp only [List.getElem?_cons_zero, List.getElem?_cons_succ] at d0 d1 d2 d3
          have hsm := same_ok ⟨m, fs, body, cl⟩ a5 ra k5 rc w4 r4 r4' (by have := HF.out.num; show fs.length ≤ _; simp at this; omega)
          simp only [Rs.cells, S, HBD.out] at hsm
          have HSM := Hd.mk hsm
          clear hsm b4 u4 r4 r4' g4
          go_wp2_with fail
          refine HSM.out.mono ?_
          rintro e w5 ⟨rfl, u5⟩
          have HU5 := Hd.mk (HB.out.trans u5 (by simp))
          clear c0 c1 c2 c3 d0 d1 d2 d3 u5
          go_wp2_with fail
          go_roundg (gk - 1)
          case measure => have := HG.out; omega
          case rel => exact ⟨j + 1, nx, by have := HG.out; omega, by go_num, rfl, Hd.mk ⟨HNX.out, HU5.out⟩⟩
        · obtain rfl : j = i := by omega
          have hx0 : x = ⟨#[]⟩ := toList_inj (by rw [HX.out.1, encFrom_end])
          subst hx0
          have hem := str_eq0 (rfl : (⟨#[]⟩ : ByteArray) = ⟨#[]⟩)
          clear hj hg hxs
          go_wp2_with fail
          refine (decode_ok ⟨#[]⟩ wr (by decide) (HT.out.upd HX.out.2)).mono ?_
          intro e w3 hd
          obtain ⟨rfl, u3⟩ := hd.none_of rfl
          have HU3 := Hd.mk (HX.out.2.trans u3 (by simp))
          clear hd u3
          simp only [zeroR, S]
          go_wp2_with fail
          go_ret
          exact ⟨rfl, HU3.out.alloc _⟩
theorem many_row (a : Option Addr) (len cap : Nat) (w : World) (hT : Tab w) (hz : Leaf.ok w (.sl [.int .i64, .sl [.str, .str], .str, .bool]) (.slice a len cap)) :
    Calls Tryd.prog 7 #[.slice a len cap] w fun e w' => e = .returned (.bool true) ∧ Below w.heap.size w w' := by
  obtain ⟨R, hR⟩ := leaf_many hz
  have hn : len ≤ 140737488351232 := by
    simp only [Leaf.ok] at hz
    obtain ⟨_, _, _, _, e, -, -, h, -⟩ := hz
    simp only [Value.slice.injEq] at e
    omega
  exact (many_walk a len cap R w hR hn hT).mono fun _ _ h => ⟨h.1, h.2.nil_below⟩
end Go.Proofs.YtgmpahdagbelfaaDoor
