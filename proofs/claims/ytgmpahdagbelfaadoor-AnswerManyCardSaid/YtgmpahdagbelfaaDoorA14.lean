/- AnswerCuts: an answer that is cut is none. -/
import Derived.Test.YtgmpahdagbelfaaDoorA13
namespace Go.Proofs.YtgmpahdagbelfaaDoor
set_option linter.unusedSimpArgs false
set_option linter.unusedVariables false
set_option linter.unnecessarySimpa false
open Go.RowKit BigFrame

theorem enc_pos (r : Rs) : 12 ≤ (encL r).length := by
  unfold encL firstL
  simp [http, contLen]
  omega

set_option maxRecDepth 100000 in
set_option maxHeartbeats 4000000 in
theorem cuts_walk (k : Int) (fs : List (Bs × Bs)) (body : Bs) (cl : Bool) (a : Option Addr) (cap : Nat) (n : Int) (w : World) (h : Came w k fs body a) (hT : Tab w) :
    Calls Tryd.prog 8 #[.agg (rcells k fs body cl a cap).toArray, .int .i64 n] w fun e w' => e = .returned (.bool true) ∧ Upd [] w w' := by
  have HT := Hd.mk hT
  have HC := Hd.mk h
  clear hT h
  obtain ⟨bd, hbd⟩ : ∃ t : ByteArray, (⟨body.toArray⟩ : ByteArray) = t := ⟨_, rfl⟩
  simp only [rcells, S, hbd]
  have B1 := Blk.new w [.int .i64 k, .slice a fs.length cap, .string bd, .bool cl] 29 _ rfl
  have HB := Hd.mk (And.intro B1 ((Upd.refl [] w).alloc (.cells #[.int .i64 k, .slice a fs.length cap, .string bd, .bool cl] 29)))
  have HBD := Hd.mk hbd
  clear B1 hbd
  go_enter Tryd.func8, Tryd.ntmps8
  go_upto_region 1 with (fail)
  refine wp_abs (fun W => Blk W w.heap.size [.int .i64 k, .slice a fs.length cap, .string bd, .bool cl] 29 ∧ Upd [] w W) HB.out ?_
  clear HB
  generalize w.heap.size = sb
  rintro w1 ⟨b1, u1⟩
  have HB := Hd.mk (And.intro b1 u1)
  clear b1 u1
  go_wp2_with fail
  refine (fit_ok w1 (HT.out.upd HB.out.2)).mono ?_
  rintro e w2 ⟨rfl, u2⟩
  have HB := Hd.mk (And.intro (u2.blk HB.out.1 (by simp)) (HB.out.2.trans u2 (by simp)))
  have b2 := HB.out.1
  have c0 := b2.cell 0
  have c1 := b2.cell 1
  have c2 := b2.cell 2
  have c3 := b2.cell 3
  simp only [List.getElem?_cons_zero, List.getElem?_cons_succ] at c0 c1 c2 c3
  clear u2 b2
  have hr := right_any k fs body cl a cap w2 (HC.out.upd HB.out.2)
  simp only [rcells, S, HBD.out] at hr
  have HR := Hd.mk hr
  clear hr
  go_wp2_with fail
  refine HR.out.mono ?_
  rintro e w3 ⟨b, rfl, hb, u3⟩
  have HB := Hd.mk (And.intro (u3.blk HB.out.1 (by simp)) (HB.out.2.trans u3 (by simp)))
  clear u3 c0 c1 c2 c3
  cases b with
  | false =>
    clear hb
    go_wp2_with fail
    go_ret
    exact ⟨rfl, HB.out.2⟩
  | true =>
    obtain ⟨m, rfl, hf⟩ := hb rfl
    clear hb
    have b2 := HB.out.1
    have c0 := b2.cell 0
    have c1 := b2.cell 1
    have c2 := b2.cell 2
    have c3 := b2.cell 3
    simp only [List.getElem?_cons_zero, List.getElem?_cons_succ] at c0 c1 c2 c3
    clear b2
    have henc := encode_ok ⟨m, fs, body, cl⟩ a cap w3 (HC.out.rf.upd HB.out.2) (by have := hf.right.st1; show m ≤ _; simp at this; omega) (by have := hf.flds; show (flds fs).length ≤ _; simp at this; omega) (by have := hf.body; show body.length ≤ _; simp at this; omega) (by have := hf.num; show fs.length ≤ _; simp at this; omega) (HT.out.upd HB.out.2)
    simp only [Rs.cells, S, HBD.out] at henc
    have HF := Hd.mk hf
    have hel := hf.enc
    have hep := enc_pos ⟨m, fs, body, cl⟩
    obtain ⟨te, hte⟩ : ∃ t : ByteArray, (⟨(encL ⟨m, fs, body, cl⟩).toArray⟩ : ByteArray) = t := ⟨_, rfl⟩
    have hts : te.size = (encL ⟨m, fs, body, cl⟩).length := by rw [← hte, S_size]
    have HTE := Hd.mk (show te.data.toList = encL ⟨m, fs, body, cl⟩ by rw [← hte])
    rw [hte] at henc
    have HENC := Hd.mk henc
    rw [← hts] at hel hep
    have HTS := Hd.mk hts
    clear henc hte hts hf
    go_wp2_with fail
    refine HENC.out.mono ?_
    rintro e w4 ⟨rfl, u4⟩
    have HB := Hd.mk (And.intro (u4.blk HB.out.1 (by simp)) (HB.out.2.trans u4 (by simp)))
    clear u4 c0 c1 c2 c3
    obtain ⟨q, hq⟩ : ∃ q : Nat, n % 65536 % (te.size : Int) = q := ⟨(n % 65536 % (te.size : Int)).toNat, by
      have := Int.emod_nonneg (n % 65536) (show (te.size : Int) ≠ 0 by omega)
      omega⟩
    have hq2 : q < te.size := by
      have := Int.emod_lt_of_pos (n % 65536) (show (0 : Int) < te.size by omega)
      omega
    have hq3 : Int.tmod (n % 65536) (te.size : Int) = (q : Int) := by
      rw [Int.tmod_eq_emod_of_nonneg (by omega)]
      exact hq
    obtain ⟨px, hpx⟩ : ∃ t : ByteArray, te.extract 0 q = t := ⟨_, rfl⟩
    have hps : px.size = q := by rw [← hpx]; simp; omega
    have HPX := Hd.mk (show px.data.toList = (encL ⟨m, fs, body, cl⟩).take q by rw [← hpx, ext_list, HTE.out]; simp)
    go_wp2_with fail
    refine (decode_ok px w4 (by omega) (HT.out.upd HB.out.2)).mono ?_
    intro e w5 hd
    obtain ⟨rfl, u5⟩ := hd.none_of (by rw [HPX.out]; exact decL_cut _ HF.out.right q (by have := HTS.out; omega))
    have HU := Hd.mk (HB.out.2.trans u5 (by simp))
    clear hd u5
    simp only [zeroR, S]
    go_wp2_with fail
    go_ret
    exact ⟨rfl, HU.out.alloc _⟩
theorem cuts_row (cs : Array Value) (n : Int) (w : World) (hT : Tab w) (hz : Leaf.oks w [.int .i64, .sl [.str, .str], .str, .bool] cs.toList) (_ : (Lit.int .i64 n).wf = true) :
    Calls Tryd.prog 8 #[.agg cs, .int .i64 n] w fun e w' => e = .returned (.bool true) ∧ Below w.heap.size w w' := by
  obtain ⟨k, fs, body, cl, a, cap, he, hc⟩ := leaf_rs hz
  obtain rfl : cs = (rcells k fs body cl a cap).toArray := by rw [← he]
  exact (cuts_walk k fs body cl a cap n w hc hT).mono fun _ _ h => ⟨h.1, h.2.nil_below⟩
end Go.Proofs.YtgmpahdagbelfaaDoor
