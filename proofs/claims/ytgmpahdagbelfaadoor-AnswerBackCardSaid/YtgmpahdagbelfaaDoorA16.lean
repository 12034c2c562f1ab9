/- AnswerBack: responses come back from their bytes, one behind the other. -/
import Derived.Test.YtgmpahdagbelfaaDoorA14
namespace Go.Proofs.YtgmpahdagbelfaaDoor
set_option linter.unusedSimpArgs false
set_option linter.unusedVariables false
set_option linter.unnecessarySimpa false
open Go.RowKit BigFrame

/-- The two boxes. -/
def Two (w : World) (s1 s2 : Nat) (cs ds : List Value) (W : World) : Prop := Blk W s1 cs 29 ∧ Blk W s2 ds 29 ∧ Upd [] w W
theorem Two.up {w W W' : World} {s1 s2 : Nat} {cs ds : List Value} (h : Two w s1 s2 cs ds W) (hu : Upd [] W W') : Two w s1 s2 cs ds W' := ⟨hu.blk h.1 (by simp), hu.blk h.2.1 (by simp), h.2.2.trans hu (by simp)⟩

set_option maxRecDepth 100000 in
set_option maxHeartbeats 4000000 in
theorem back_walk (k k' : Int) (fs fs' : List (Bs × Bs)) (body body' : Bs) (cl cl' : Bool) (a a' : Option Addr) (cap cap' : Nat) (mo : ByteArray) (w : World) (h : Came w k fs body a) (h' : Came w k' fs' body' a') (hmo : mo.size ≤ 140737488351232) (hT : Tab w) :
    Calls Tryd.prog 6 #[.agg (rcells k fs body cl a cap).toArray, .agg (rcells k' fs' body' cl' a' cap').toArray, .string mo] w fun e w' => e = .returned (.bool true) ∧ Upd [] w w' := by
  have HT := Hd.mk hT
  have HC := Hd.mk h
  have HC' := Hd.mk h'
  clear hT h h'
  obtain ⟨bd, hbd⟩ : ∃ t : ByteArray, (⟨body.toArray⟩ : ByteArray) = t := ⟨_, rfl⟩
  obtain ⟨bd', hbd'⟩ : ∃ t : ByteArray, (⟨body'.toArray⟩ : ByteArray) = t := ⟨_, rfl⟩
  simp only [rcells, S, hbd, hbd']
  have HBD := Hd.mk hbd
  have HBD' := Hd.mk hbd'
  clear hbd hbd'
  go_enter Tryd.func6, Tryd.ntmps6
  go_upto_region 1 with (fail)
  have B1 := Blk.new w [.int .i64 k, .slice a fs.length cap, .string bd, .bool cl] 29 _ rfl
  have B2 := Blk.new (w.alloc (.cells #[.int .i64 k, .slice a fs.length cap, .string bd, .bool cl] 29)) [.int .i64 k', .slice a' fs'.length cap', .string bd', .bool cl'] 29 (w.heap.size + 1) (by simp)
  refine wp_abs (fun W => Two w w.heap.size (w.heap.size + 1) [.int .i64 k, .slice a fs.length cap, .string bd, .bool cl] [.int .i64 k', .slice a' fs'.length cap', .string bd', .bool cl'] W) ⟨B1.alloc _, B2, ((Upd.refl _ _).alloc _).alloc _⟩ ?_
  clear B1 B2
  have hne : w.heap.size ≠ w.heap.size + 1 := by omega
  generalize hs2 : w.heap.size + 1 = s2 at *
  clear hs2
  generalize w.heap.size = s1 at *
  rintro w1 hw1
  have HB := Hd.mk hw1
  clear hw1
  go_wp2_with fail
  refine (fit_ok w1 (HT.out.upd HB.out.2.2)).mono ?_
  rintro e w2 ⟨rfl, u2⟩
  have HB := Hd.mk (HB.out.up u2)
  have b2 := HB.out.1
  have q2 := HB.out.2.1
  have c0 := b2.cell 0
  have c1 := b2.cell 1
  have c2 := b2.cell 2
  have c3 := b2.cell 3
  simp only [List.getElem?_cons_zero, List.getElem?_cons_succ] at c0 c1 c2 c3
  have d0 := q2.cell 0
  have d1 := q2.cell 1
  have d2 := q2.cell 2
  have d3 := q2.cell 3
  simp only [List.getElem?_cons_zero, List.getElem?_cons_succ] at d0 d1 d2 d3
  clear u2 b2 q2
  have hr := right_any k fs body cl a cap w2 (HC.out.upd HB.out.2.2)
  simp only [rcells, S, HBD.out] at hr
  have HR := Hd.mk hr
  clear hr
  go_wp2_with fail
  refine HR.out.mono ?_
  rintro e w3 ⟨b, rfl, hb, u3⟩
  have HB := Hd.mk (HB.out.up u3)
  clear u3 c0 c1 c2 c3 d0 d1 d2 d3 HR
  have b2 := HB.out.1
  have q2 := HB.out.2.1
  have c0 := b2.cell 0
  have c1 := b2.cell 1
  have c2 := b2.cell 2
  have c3 := b2.cell 3
  simp only [List.getElem?_cons_zero, List.getElem?_cons_succ] at c0 c1 c2 c3
  have d0 := q2.cell 0
  have d1 := q2.cell 1
  have d2 := q2.cell 2
  have d3 := q2.cell 3
  simp only [List.getElem?_cons_zero, List.getElem?_cons_succ] at d0 d1 d2 d3
  clear b2 q2
  cases b with
  | false =>
    clear hb
    go_wp2_with fail
    go_ret
    exact ⟨rfl, HB.out.2.2⟩
  | true =>
  obtain ⟨m, rfl, hf⟩ := hb rfl
  have HF := Hd.mk hf
  clear hb hf
  have hr := right_any k' fs' body' cl' a' cap' w3 (HC'.out.upd HB.out.2.2)
  simp only [rcells, S, HBD'.out] at hr
  have HR := Hd.mk hr
  clear hr
  go_wp2_with fail
  refine HR.out.mono ?_
  rintro e w4 ⟨b, rfl, hb, u4⟩
  have HB := Hd.mk (HB.out.up u4)
  clear u4 c0 c1 c2 c3 d0 d1 d2 d3 HR
  cases b with
  | false =>
    clear hb
    go_wp2_with fail
    go_ret
    exact ⟨rfl, HB.out.2.2⟩
  | true =>
  obtain ⟨m', rfl, hf'⟩ := hb rfl
  have HF' := Hd.mk hf'
  clear hb hf'
  by_cases hl : 500 < mo.size
  · go_wp2_with fail
    go_ret
    exact ⟨rfl, HB.out.2.2⟩
  go_upto_region 5 with (fail)
  have hA := HF.out.enc
  have hA' := HF'.out.enc
  have henc : ∀ W, Two w s1 s2 [.int .i64 m, .slice a fs.length cap, .string bd, .bool cl] [.int .i64 m', .slice a' fs'.length cap', .string bd', .bool cl'] W → Calls Tryd.prog 13 #[.agg #[.int .i64 m, .slice a fs.length cap, .string bd, .bool cl]] W fun e w' => e = .returned (S (encL ⟨m, fs, body, cl⟩)) ∧ Upd [] W w' := fun W hW => by
    have := encode_ok ⟨m, fs, body, cl⟩ a cap W (HC.out.rf.upd hW.2.2) (by have := HF.out.right.st1; show m ≤ _; simp at this; omega) (by have := HF.out.flds; show (flds fs).length ≤ _; simp at this; omega) (by have := HF.out.body; show body.length ≤ _; simp at this; omega) (by have := HF.out.num; show fs.length ≤ _; simp at this; omega) (HT.out.upd hW.2.2)
    simp only [Rs.cells, show S body = .string bd by unfold S; rw [HBD.out]] at this
    exact this
  have henc' : ∀ W, Two w s1 s2 [.int .i64 m, .slice a fs.length cap, .string bd, .bool cl] [.int .i64 m', .slice a' fs'.length cap', .string bd', .bool cl'] W → Calls Tryd.prog 13 #[.agg #[.int .i64 m', .slice a' fs'.length cap', .string bd', .bool cl']] W fun e w' => e = .returned (S (encL ⟨m', fs', body', cl'⟩)) ∧ Upd [] W w' := fun W hW => by
    have := encode_ok ⟨m', fs', body', cl'⟩ a' cap' W (HC'.out.rf.upd hW.2.2) (by have := HF'.out.right.st1; show m' ≤ _; simp at this; omega) (by have := HF'.out.flds; show (flds fs').length ≤ _; simp at this; omega) (by have := HF'.out.body; show body'.length ≤ _; simp at this; omega) (by have := HF'.out.num; show fs'.length ≤ _; simp at this; omega) (HT.out.upd hW.2.2)
    simp only [Rs.cells, show S body' = .string bd' by unfold S; rw [HBD'.out]] at this
    exact this
  obtain ⟨te, hte⟩ : ∃ t : ByteArray, (⟨(encL ⟨m, fs, body, cl⟩).toArray⟩ : ByteArray) = t := ⟨_, rfl⟩
  obtain ⟨te', hte'⟩ : ∃ t : ByteArray, (⟨(encL ⟨m', fs', body', cl'⟩).toArray⟩ : ByteArray) = t := ⟨_, rfl⟩
  have hts : te.size ≤ 9000 := by rw [← hte, S_size]; exact hA
  have hts' : te'.size ≤ 9000 := by rw [← hte', S_size]; exact hA'
  have HTE := Hd.mk (show te.data.toList = encL ⟨m, fs, body, cl⟩ by rw [← hte])
  have HTE' := Hd.mk (show te'.data.toList = encL ⟨m', fs', body', cl'⟩ by rw [← hte'])
  simp only [S, hte] at henc
  simp only [S, hte'] at henc'
  have HENC := Hd.mk henc
  have HENC' := Hd.mk henc'
  clear henc henc' hte hte' hA hA'
  have c0 : ∀ x : Cls (Two w s1 s2 [.int .i64 m, .slice a fs.length cap, .string bd, .bool cl] [.int .i64 m', .slice a' fs'.length cap', .string bd', .bool cl']), x.w.cell? ⟨s1, 0, none⟩ = some (.int .i64 m) := fun x => x.ok.1.cell 0
  have c1 : ∀ x : Cls (Two w s1 s2 [.int .i64 m, .slice a fs.length cap, .string bd, .bool cl] [.int .i64 m', .slice a' fs'.length cap', .string bd', .bool cl']), x.w.cell? ⟨s1, 1, none⟩ = some (.slice a fs.length cap) := fun x => x.ok.1.cell 1
  have c2 : ∀ x : Cls (Two w s1 s2 [.int .i64 m, .slice a fs.length cap, .string bd, .bool cl] [.int .i64 m', .slice a' fs'.length cap', .string bd', .bool cl']), x.w.cell? ⟨s1, 2, none⟩ = some (.string bd) := fun x => x.ok.1.cell 2
  have c3 : ∀ x : Cls (Two w s1 s2 [.int .i64 m, .slice a fs.length cap, .string bd, .bool cl] [.int .i64 m', .slice a' fs'.length cap', .string bd', .bool cl']), x.w.cell? ⟨s1, 3, none⟩ = some (.bool cl) := fun x => x.ok.1.cell 3
  have d0 : ∀ x : Cls (Two w s1 s2 [.int .i64 m, .slice a fs.length cap, .string bd, .bool cl] [.int .i64 m', .slice a' fs'.length cap', .string bd', .bool cl']), x.w.cell? ⟨s2, 0, none⟩ = some (.int .i64 m') := fun x => x.ok.2.1.cell 0
  have d1 : ∀ x : Cls (Two w s1 s2 [.int .i64 m, .slice a fs.length cap, .string bd, .bool cl] [.int .i64 m', .slice a' fs'.length cap', .string bd', .bool cl']), x.w.cell? ⟨s2, 1, none⟩ = some (.slice a' fs'.length cap') := fun x => x.ok.2.1.cell 1
  have d2 : ∀ x : Cls (Two w s1 s2 [.int .i64 m, .slice a fs.length cap, .string bd, .bool cl] [.int .i64 m', .slice a' fs'.length cap', .string bd', .bool cl']), x.w.cell? ⟨s2, 2, none⟩ = some (.string bd') := fun x => x.ok.2.1.cell 2
  have d3 : ∀ x : Cls (Two w s1 s2 [.int .i64 m, .slice a fs.length cap, .string bd, .bool cl] [.int .i64 m', .slice a' fs'.length cap', .string bd', .bool cl']), x.w.cell? ⟨s2, 3, none⟩ = some (.bool cl') := fun x => x.ok.2.1.cell 3
  refine wp_region_cls (Two w s1 s2 [.int .i64 m, .slice a fs.length cap, .string bd, .bool cl] [.int .i64 m', .slice a' fs'.length cap', .string bd', .bool cl']) (HB.out.up ((Upd.refl _ _).drew)) (by kernel_rfl) (by kernel_rfl) (fun _ => ?_)
  repeat (go_big_quiet_step (first | (go_at_call 13; rename_i x; with_reducible exact Calls.cls (HENC.out x.w x.ok) (fun e w' h => ⟨h.1, x.ok.up h.2⟩)) | (go_at_call 13; rename_i x; with_reducible exact Calls.cls (HENC'.out x.w x.ok) (fun e w' h => ⟨h.1, x.ok.up h.2⟩))))
  refine wpQuiet_nil ?_
  intro _ hw'
  obtain ⟨nq, hw''⟩ := hw'
  subst hw''
  have HB := Hd.mk nq.ok
  generalize nq.w = w5 at HB ⊢
  clear c0 c1 c2 c3 d0 d1 d2 d3
  obtain ⟨px, hpx⟩ : ∃ t : ByteArray, te ++ te' ++ mo = t := ⟨_, rfl⟩
  have hps : px.size ≤ 20000 := by rw [← hpx]; simp; omega
  have HPX := Hd.mk (show px.data.toList = encL ⟨m, fs, body, cl⟩ ++ (encL ⟨m', fs', body', cl'⟩ ++ mo.data.toList) by rw [← hpx]; simp [HTE.out, HTE'.out])
  go_wp2_with fail
  refine (decode_ok px w5 (by omega) (HT.out.upd HB.out.2.2)).mono ?_
  intro e w6 hd
  obtain ⟨a5, k5, rfl, hrf, u6⟩ := hd.some_of (by rw [HPX.out]; exact decL_enc _ HF.out.right _)
  have HB := Hd.mk (HB.out.up u6)
  have HRF := Hd.mk hrf
  clear hd u6 hrf
  obtain ⟨rb, hrb⟩ : ∃ t : ByteArray, (⟨(encL ⟨m', fs', body', cl'⟩ ++ mo.data.toList).toArray⟩ : ByteArray) = t := ⟨_, rfl⟩
  have HRB := Hd.mk (show rb.data.toList = encL ⟨m', fs', body', cl'⟩ ++ mo.data.toList by rw [← hrb])
  have hrs : rb.size ≤ 10000 := by
    have h1 : rb.data.toList.length = rb.size := by simp
    have h2 := HF'.out.enc
    rw [← h1, HRB.out, List.length_append]
    simp
    omega
  simp only [Rs.cells, S, HBD.out, hrb]
  clear hrb
  go_upto_region 7 with (fail)
  refine wp_abs (fun W => Two w s1 s2 [.int .i64 m, .slice a fs.length cap, .string bd, .bool cl] [.int .i64 m', .slice a' fs'.length cap', .string bd', .bool cl'] W ∧ Blk W w6.heap.size [.int .i64 m, .slice a5 fs.length k5, .string bd, .bool cl] 29 ∧ Rf W a5 fs) ⟨HB.out.up ((Upd.refl _ _).alloc _), Blk.new w6 [.int .i64 m, .slice a5 fs.length k5, .string bd, .bool cl] 29 _ rfl, HRF.out.upd ((Upd.refl _ _).alloc _)⟩ ?_
  clear HB HRF
  generalize w6.heap.size = e1
  rintro w7 ⟨t7, b7, r7⟩
  have HB := Hd.mk (And.intro t7 (And.intro b7 r7))
  clear t7 b7 r7
  go_wp2_with fail
  refine (decode_ok rb w7 (by omega) (HT.out.upd HB.out.1.2.2)).mono ?_
  intro e w8 hd
  obtain ⟨a6, k6, rfl, hrf, u8⟩ := hd.some_of (by rw [HRB.out]; exact decL_enc _ HF'.out.right _)
  have HB := Hd.mk (And.intro (HB.out.1.up u8) (And.intro (u8.blk HB.out.2.1 (by simp)) (And.intro (HB.out.2.2.upd u8) hrf)))
  clear hd u8 hrf
  simp only [Rs.cells, S, HBD'.out, mk_data]
  go_upto_region 8 with (fail)
  refine wp_abs (fun W => Two w s1 s2 [.int .i64 m, .slice a fs.length cap, .string bd, .bool cl] [.int .i64 m', .slice a' fs'.length cap', .string bd', .bool cl'] W ∧ Blk W e1 [.int .i64 m, .slice a5 fs.length k5, .string bd, .bool cl] 29 ∧ Rf W a5 fs ∧ Blk W w8.heap.size [.int .i64 m', .slice a6 fs'.length k6, .string bd', .bool cl'] 29 ∧ Rf W a6 fs') ⟨HB.out.1.up ((Upd.refl _ _).alloc _), HB.out.2.1.alloc _, HB.out.2.2.1.upd ((Upd.refl _ _).alloc _), Blk.new w8 [.int .i64 m', .slice a6 fs'.length k6, .string bd', .bool cl'] 29 _ rfl, HB.out.2.2.2.upd ((Upd.refl _ _).alloc _)⟩ ?_
  clear HB
  generalize w8.heap.size = e2
  rintro w9 ⟨t9, b9, r9, b10, r10⟩
  have ba := t9.1
  have bb := t9.2.1
  have HB := Hd.mk (And.intro t9 (And.intro b9 (And.intro r9 (And.intro b10 r10))))
  have c0 := ba.cell 0
  have c1 := ba.cell 1
  have c2 := ba.cell 2
  have c3 := ba.cell 3
  simp only [List.getElem?_cons_zero, List.getElem?_cons_succ] at c0 c1 c2 c3
  have d0 := bb.cell 0
  have d1 := bb.cell 1
  have d2 := bb.cell 2
  have d3 := bb.cell 3
  simp only [List.getElem?_cons_zero, List.getElem?_cons_succ] at d0 d1 d2 d3
  have f0 := b9.cell 0
  have f1 := b9.cell 1
  have f2 := b9.cell 2
  have f3 := b9.cell 3
  simp only [List.getElem?_cons_zero, List.getElem?_cons_succ] at f0 f1 f2 f3
  have g0 := b10.cell 0
  have g1 := b10.cell 1
  have g2 := b10.cell 2
  have g3 := b10.cell 3
  simp only [List.getElem?_cons_zero, List.getElem?_cons_succ] at g0 g1 g2 g3
  clear t9 b9 r9 b10 r10 ba bb
  have y1 := str_yes (rfl : mo = mo)
  have hsm := same_ok ⟨m, fs, body, cl⟩ a5 a k5 cap w9 HB.out.2.2.1 (HC.out.rf.upd HB.out.1.2.2) (by have := HF.out.num; show fs.length ≤ _; simp at this; omega)
  simp only [Rs.cells, S, HBD.out] at hsm
  have HSM := Hd.mk hsm
  clear hsm
  go_wp2_with fail
  refine HSM.out.mono ?_
  rintro e w10 ⟨rfl, u10⟩
  clear c0 c1 c2 c3 d0 d1 d2 d3 f0 f1 f2 f3 g0 g1 g2 g3
  have HB := Hd.mk (And.intro (HB.out.1.up u10) (And.intro (u10.blk HB.out.2.1 (by simp)) (And.intro (HB.out.2.2.1.upd u10) (And.intro (u10.blk HB.out.2.2.2.1 (by simp)) (HB.out.2.2.2.2.upd u10)))))
  have bb := HB.out.1.2.1
  have b10 := HB.out.2.2.2.1
  have d0 := bb.cell 0
  have d1 := bb.cell 1
  have d2 := bb.cell 2
  have d3 := bb.cell 3
  simp only [List.getElem?_cons_zero, List.getElem?_cons_succ] at d0 d1 d2 d3
  have g0 := b10.cell 0
  have g1 := b10.cell 1
  have g2 := b10.cell 2
  have g3 := b10.cell 3
  simp only [List.getElem?_cons_zero, List.getElem?_cons_succ] at g0 g1 g2 g3
  clear bb b10 u10
  have hsm := same_ok ⟨m', fs', body', cl'⟩ a6 a' k6 cap' w10 HB.out.2.2.2.2 (HC'.out.rf.upd HB.out.1.2.2) (by have := HF'.out.num; show fs'.length ≤ _; simp at this; omega)
  simp only [Rs.cells, S, HBD'.out] at hsm
  have HSM2 := Hd.mk hsm
  clear hsm
  go_wp2_with fail
  refine HSM2.out.mono ?_
  rintro e w11 ⟨rfl, u11⟩
  have HU := Hd.mk (HB.out.1.2.2.trans u11 (by simp))
  clear d0 d1 d2 d3 g0 g1 g2 g3 u11
  go_wp2_with fail
  go_ret
  exact ⟨rfl, HU.out⟩
theorem back_row (cs ds : Array Value) (mo : ByteArray) (w : World) (hT : Tab w) (hz : Leaf.oks w [.int .i64, .sl [.str, .str], .str, .bool] cs.toList) (hz' : Leaf.oks w [.int .i64, .sl [.str, .str], .str, .bool] ds.toList) (hm : mo.size ≤ 140737488351232) :
    Calls Tryd.prog 6 #[.agg cs, .agg ds, .string mo] w fun e w' => e = .returned (.bool true) ∧ Below w.heap.size w w' := by
  obtain ⟨k, fs, body, cl, a, cap, he, hc⟩ := leaf_rs hz
  obtain ⟨k', fs', body', cl', a', cap', he', hc'⟩ := leaf_rs hz'
  obtain rfl : cs = (rcells k fs body cl a cap).toArray := by rw [← he]
  obtain rfl : ds = (rcells k' fs' body' cl' a' cap').toArray := by rw [← he']
  exact (back_walk k k' fs fs' body body' cl cl' a a' cap cap' mo w hc hc' hm hT).mono fun _ _ h => ⟨h.1, h.2.nil_below⟩
end Go.Proofs.YtgmpahdagbelfaaDoor
