/- AnswerPlain: plain answers have their words as their bodies, and are read back. -/
import Derived.Test.YtgmpahdagbelfaaDoorA14
namespace Go.Proofs.YtgmpahdagbelfaaDoor
set_option linter.unusedSimpArgs false
set_option linter.unusedVariables false
set_option linter.unnecessarySimpa false
open Go.RowKit BigFrame

theorem plain_right (m : Nat) (cl : Bool) (h0 : 100 ≤ m) (h1 : m ≤ 999) : RightL (Rs.plain m cl) :=
  ⟨h0, h1, fun f hf => absurd hf (by simp [Rs.plain]), by have := wordL_len m; unfold Rs.plain; simp; omega⟩
set_option maxRecDepth 100000 in
set_option maxHeartbeats 4000000 in
theorem plain_walk (n : Int) (cl : Bool) (mo : ByteArray) (w : World) (hmo : mo.size ≤ 140737488351232) (hT : Tab w) :
    Calls Tryd.prog 5 #[.int .i64 n, .bool cl, .string mo] w fun e w' => e = .returned (.bool true) ∧ Upd [] w w' := by
  have HT := Hd.mk hT
  clear hT
  by_cases hl : 200 < mo.size
  · go_enter Tryd.func5, Tryd.ntmps5
    go_wp2_with fail
    refine (fit_ok w HT.out).mono ?_
    rintro e w1 ⟨rfl, u1⟩
    go_wp2_with fail
    go_ret
    exact ⟨rfl, u1⟩
  obtain ⟨q, hq⟩ : ∃ q : Nat, n % 65536 % 900 = q := ⟨(n % 65536 % 900).toNat, by omega⟩
  have hq2 : q < 900 := by omega
  have hq3 : Int.tmod (n % 65536) 900 = (q : Int) := by
    rw [Int.tmod_eq_emod_of_nonneg (by omega)]
    exact hq
  have hq4 : (100 : Int) + q = ((100 + q : Nat) : Int) := by omega
  have hrt := plain_right (100 + q) cl (by omega) (by omega)
  obtain ⟨pl, hpl⟩ : ∃ l, wordL (100 + q) ++ [10] = l := ⟨_, rfl⟩
  have hplen : pl.length ≤ 32 := by have := wordL_len (100 + q); rw [← hpl]; simp; omega
  have hPE : Rs.plain (100 + q) cl = ⟨100 + q, [], pl, cl⟩ := by unfold Rs.plain; rw [hpl]
  rw [hPE] at hrt
  have HPL := Hd.mk hPE
  clear hpl hPE
  have HRT := Hd.mk hrt
  clear hrt
  obtain ⟨bd, hbd⟩ : ∃ t : ByteArray, (⟨pl.toArray⟩ : ByteArray) = t := ⟨_, rfl⟩
  have HBD := Hd.mk hbd
  clear hbd
  generalize hm : 100 + q = m at *
  have hm1 : m ≤ 999 := by omega
  have HM := Hd.mk hm
  clear hm
  go_enter Tryd.func5, Tryd.ntmps5
  go_wp2_with fail
  refine (fit_ok w HT.out).mono ?_
  rintro e w1 ⟨rfl, u1⟩
  have HU := Hd.mk u1
  clear u1
  go_wp2_with fail
  refine (plain_ok m cl w1 (by omega)).mono ?_
  rintro e w2 ⟨rfl, u2⟩
  have HU := Hd.mk (HU.out.trans u2 (by simp))
  clear u2
  rw [HPL.out]
  simp only [Rs.cells, S, HBD.out, List.length_nil]
  go_upto_region 7 with (fail)
  have B1 := Blk.new w2 [.int .i64 m, .slice none 0 0, .string bd, .bool cl] 29 _ rfl
  have hpu := HU.out.alloc (.cells #[.int .i64 m, .slice none 0 0, .string bd, .bool cl] 29)
  refine wp_abs (fun W => Blk W w2.heap.size [.int .i64 m, .slice none 0 0, .string bd, .bool cl] 29 ∧ Upd [] w W) ⟨B1, hpu⟩ ?_
  clear B1 hpu HU
  generalize w2.heap.size = pb
  rintro w3 ⟨b3, u3⟩
  have HB := Hd.mk (And.intro b3 u3)
  have c0 := b3.cell 0
  have c1 := b3.cell 1
  have c2 := b3.cell 2
  have c3 := b3.cell 3
  simp only [List.getElem?_cons_zero, List.getElem?_cons_succ] at c0 c1 c2 c3
  clear b3 u3
  have henc := encode_ok ⟨m, [], pl, cl⟩ none 0 w3 (Rf.nil _ _) (by show m ≤ _; omega) (by show (flds []).length ≤ _; simp [flds]) (by show pl.length ≤ _; omega) (by show ([] : List (Bs × Bs)).length ≤ _; simp) (HT.out.upd HB.out.2)
  simp only [Rs.cells, S, HBD.out, List.length_nil] at henc
  have hel : (encL ⟨m, [], pl, cl⟩).length ≤ 9000 := by
    have hf : Fits ⟨m, [], pl, cl⟩ := ⟨HRT.out, by simp, by simp, by show pl.length ≤ _; omega⟩
    exact hf.enc
  obtain ⟨te, hte⟩ : ∃ t : ByteArray, (⟨(encL ⟨m, [], pl, cl⟩).toArray⟩ : ByteArray) = t := ⟨_, rfl⟩
  have hts : te.size ≤ 9000 := by rw [← hte, S_size]; exact hel
  have HTE := Hd.mk (show te.data.toList = encL ⟨m, [], pl, cl⟩ by rw [← hte])
  rw [hte] at henc
  have HENC := Hd.mk henc
  clear henc hte hel
  go_wp2_with fail
  refine HENC.out.mono ?_
  rintro e w4 ⟨rfl, u4⟩
  have HB := Hd.mk (And.intro (u4.blk HB.out.1 (by simp)) (HB.out.2.trans u4 (by simp)))
  clear u4 c0 c1 c2 c3
  obtain ⟨px, hpx⟩ : ∃ t : ByteArray, te ++ mo = t := ⟨_, rfl⟩
  have hps : px.size = te.size + mo.size := by rw [← hpx]; simp
  have HPX := Hd.mk (show px.data.toList = encL ⟨m, [], pl, cl⟩ ++ mo.data.toList by rw [← hpx]; simp [HTE.out])
  go_wp2_with fail
  refine (decode_ok px w4 (by omega) (HT.out.upd HB.out.2)).mono ?_
  intro e w5 hd
  obtain ⟨a5, k5, rfl, hrf, u5⟩ := hd.some_of (by rw [HPX.out]; exact decL_enc _ HRT.out _)
  have HB := Hd.mk (And.intro (u5.blk HB.out.1 (by simp)) (HB.out.2.trans u5 (by simp)))
  clear hd u5 hrf
  simp only [Rs.cells, S, HBD.out, List.length_nil, mk_data]
  go_upto_region 8 with (fail)
  have B5 := Blk.new w5 [.int .i64 m, .slice a5 0 k5, .string bd, .bool cl] 29 _ rfl
  have hb5 := HB.out.1.alloc (.cells #[.int .i64 m, .slice a5 0 k5, .string bd, .bool cl] 29)
  have hu5 := HB.out.2.alloc (.cells #[.int .i64 m, .slice a5 0 k5, .string bd, .bool cl] 29)
  refine wp_abs (fun W => Blk W pb [.int .i64 m, .slice none 0 0, .string bd, .bool cl] 29 ∧ Blk W w5.heap.size [.int .i64 m, .slice a5 0 k5, .string bd, .bool cl] 29 ∧ Upd [] w W) ⟨hb5, B5, hu5⟩ ?_
  clear B5 hb5 hu5 HB
  generalize w5.heap.size = qb
  rintro w6 ⟨b6, q6, u6⟩
  have HB := Hd.mk (And.intro b6 (And.intro q6 u6))
  have c0 := b6.cell 0
  have c1 := b6.cell 1
  have c2 := b6.cell 2
  have c3 := b6.cell 3
  simp only [List.getElem?_cons_zero, List.getElem?_cons_succ] at c0 c1 c2 c3
  have d0 := q6.cell 0
  have d1 := q6.cell 1
  have d2 := q6.cell 2
  have d3 := q6.cell 3
  simp only [List.getElem?_cons_zero, List.getElem?_cons_succ] at d0 d1 d2 d3
  clear b6 q6 u6
  have y1 := str_yes (rfl : mo = mo)
  have hsm := same_ok ⟨m, [], pl, cl⟩ a5 none k5 0 w6 (Rf.nil _ _) (Rf.nil _ _) (by simp)
  simp only [Rs.cells, S, HBD.out, List.length_nil] at hsm
  have HSM := Hd.mk hsm
  clear hsm
  go_wp2_with fail
  refine HSM.out.mono ?_
  rintro e w7 ⟨rfl, u7⟩
  have HB := Hd.mk (And.intro (u7.blk HB.out.1 (by simp)) (And.intro (u7.blk HB.out.2.1 (by simp)) (HB.out.2.2.trans u7 (by simp))))
  have b7 := HB.out.1
  have q7 := HB.out.2.1
  clear c0 c1 c2 c3 d0 d1 d2 d3 u7
  have c0 := b7.cell 0
  have c1 := b7.cell 1
  have c2 := b7.cell 2
  have c3 := b7.cell 3
  simp only [List.getElem?_cons_zero, List.getElem?_cons_succ] at c0 c1 c2 c3
  have d0 := q7.cell 0
  have d1 := q7.cell 1
  have d2 := q7.cell 2
  have d3 := q7.cell 3
  simp only [List.getElem?_cons_zero, List.getElem?_cons_succ] at d0 d1 d2 d3
  clear b7 q7
  go_wp2_with fail
  go_ret
  exact ⟨rb (by cases cl <;> simp), HB.out.2.2⟩
theorem plain_row (n : Int) (cl : Bool) (mo : ByteArray) (w : World) (hT : Tab w) (_ : (Lit.int .i64 n).wf = true) (hz : mo.size ≤ 140737488351232) :
    Calls Tryd.prog 5 #[.int .i64 n, .bool cl, .string mo] w fun e w' => e = .returned (.bool true) ∧ Below w.heap.size w w' :=
  (plain_walk n cl mo w hz hT).mono fun _ _ h => ⟨h.1, h.2.nil_below⟩
end Go.Proofs.YtgmpahdagbelfaaDoor
