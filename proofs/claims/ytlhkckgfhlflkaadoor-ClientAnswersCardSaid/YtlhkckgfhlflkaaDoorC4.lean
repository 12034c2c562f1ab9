/- ClientAnswers: answers that are whole are read, up to what is none. -/
import Derived.Test.YtlhkckgfhlflkaaDoorC3
namespace Go.Proofs.YtlhkckgfhlflkaaDoor
set_option linter.unusedSimpArgs false
set_option linter.unusedVariables false
set_option linter.unnecessarySimpa false
open Go.RowKit BigFrame

/-- Answers that are right, and what is none behind them. -/
theorem ans_from (R : Nat → Rw) (more : Bs) (hm : decL more = none) (n : Nat) (hR : ∀ j, j < n → Fits (R j).rs) : ∀ k i, n = i + k → ansL (encFrom R i n ++ more) = ((List.range' i k).map (fun j => (R j).rs), more)
  | 0, i, h => by
    obtain rfl : n = i := by omega
    rw [encFrom_end, List.nil_append, ansL_none hm]
    rfl
  | k + 1, i, h => by
    have h1 := decL_enc _ (hR i (by omega)).right (encFrom R (i + 1) n ++ more)
    rw [encFrom_step R (by omega), List.append_assoc, ansL_some h1, ans_from R more hm n hR k (i + 1) (by omega)]
    rfl
theorem ans_to (R : Nat → Rw) (more : Bs) (n : Nat) (hm : decL more = none) (hR : ∀ j, j < n → Fits (R j).rs) : ansL (encTo R n ++ more) = ((List.range' 0 n).map (fun j => (R j).rs), more) := by
  rw [← encFrom_zero]
  exact ans_from R more hm n hR n 0 (by omega)
theorem acells_at : ∀ (l : List (Rs × Option Addr × Nat)) (j q : Nat) (hj : j < l.length), q < 4 → (acells l)[j * 4 + q]? = ((l[j]).1.cells (l[j]).2.1 (l[j]).2.2)[q]?
  | [], _, _, h, _ => by simp at h
  | s :: O, 0, q, _, hq => by
    unfold acells
    rw [List.flatMap_cons, List.getElem?_append_left (by simp [Rs.cells]; omega)]
    simp
  | s :: O, j + 1, q, hj, hq => by
    have := acells_at O j q (by simpa using hj) hq
    unfold acells at this ⊢
    rw [List.flatMap_cons, List.getElem?_append_right (by simp [Rs.cells]; omega)]
    simp only [List.getElem_cons_succ]
    rw [← this]
    congr 1
    simp [Rs.cells]
    omega
def cfitL : Bs := [71, 69, 84, 32, 47, 104, 101, 97, 108, 116, 104, 32, 72, 84, 84, 80, 47, 49, 46, 49, 13, 10, 104, 111, 115, 116, 58, 32, 99, 114, 111, 115, 115, 114, 111, 97, 100, 13, 10, 13, 10]
abbrev cfitQ : Rq := ⟨[71, 69, 84], [47, 104, 101, 97, 108, 116, 104], [], [], false⟩
theorem cfit_text : textL cfitQ = cfitL := by decide +kernel
set_option maxRecDepth 100000 in
set_option maxHeartbeats 4000000 in
theorem cfit_ok (w : World) (hT : Tab w) : Calls Tryd.prog 5 #[] w fun e w' => e = .returned (.bool true) ∧ Upd [] w w' := by
  have HT := Hd.mk hT
  have HTX := Hd.mk (text_ok cfitQ none 0 w (Rf.nil _ _) (by decide) (by decide) (by decide) (by decide) (by decide) hT)
  rw [cfit_text] at HTX
  clear hT
  go_enter Tryd.func5, Tryd.ntmps5
  go_wp2_with fail
  refine HTX.out.mono ?_
  rintro e w1 ⟨rfl, u1⟩
  have HU := Hd.mk u1
  have heq : ((⟨cfitL.toArray⟩ : ByteArray).toList == (⟨cfitL.toArray⟩ : ByteArray).toList) = true := str_yes rfl
  simp only [S, cfitL] at heq ⊢
  clear u1 HTX
  go_wp2_with fail
  refine (all_ok [] none 0 [] w1 (Rf.nil _ _) (by decide)).mono ?_
  rintro e w2 ⟨v, rfl, hb⟩
  obtain ⟨va, vc, rfl⟩ := hb.sl.form
  have HU := Hd.mk (HU.out.trans hb.upd (by simp))
  rw [show (allL [] []).length = 0 from rfl]
  clear hb
  go_wp2_with fail
  refine (word_ok 200 w2).mono ?_
  rintro e w3 ⟨rfl, u3⟩
  rw [show wordL (200 : Int).toNat = [79, 75] from rfl]
  simp only [S]
  go_wp2_with fail
  go_ret
  exact ⟨rfl, HU.out.trans u3 (by simp)⟩
def UpW (w W : World) : Prop := Upd [] w W
theorem UpW.u {w W : World} (h : UpW w W) : Upd [] w W := h
theorem UpW.up {w W W' : World} (h : UpW w W) (hu : Upd [] W W') : UpW w W' := Upd.trans h hu (by simp)
theorem UpW.at {w : World} (x : Cls (UpW w)) {p : Addr} {v : Value} (h : w.cell? p = some v) : x.w.cell? p = some v := (x.ok.u.cell (block_lt_of_cell h) (by simp)).trans h
def Two2 (w : World) (s1 s2 : Nat) (cs ds : List Value) (W : World) : Prop := Blk W s1 cs 26 ∧ Blk W s2 ds 26 ∧ Upd [] w W
theorem Two2.u {w W : World} {s1 s2 : Nat} {cs ds : List Value} (h : Two2 w s1 s2 cs ds W) : Upd [] w W := h.2.2
theorem Two2.up {w W W' : World} {s1 s2 : Nat} {cs ds : List Value} (h : Two2 w s1 s2 cs ds W) (hu : Upd [] W W') : Two2 w s1 s2 cs ds W' := ⟨hu.blk h.1 (by simp), hu.blk h.2.1 (by simp), h.2.2.trans hu (by simp)⟩
set_option maxRecDepth 100000 in
set_option maxHeartbeats 4000000 in
theorem sameE_ok (r : Rs) (a a' : Option Addr) (cap cap' : Nat) (w : World) (h1 : Rf w a r.fields) (h2 : Rf w a' r.fields) (hst : r.status ≤ 2000000000) (hl : (flds r.fields).length ≤ 2000000) (hb : r.body.length ≤ 2000000) (hn : r.fields.length ≤ 2000000) (hT : Tab w) :
    Calls Tryd.prog 10 #[.agg (r.cells a cap).toArray, .agg (r.cells a' cap').toArray] w fun e w' => e = .returned (.bool true) ∧ Upd [] w w' := by
  have henc := fun W (hu : Upd [] w W) => encode_ok r a cap W (h1.upd hu) hst hl hb hn (hT.upd hu)
  have henc' := fun W (hu : Upd [] w W) => encode_ok r a' cap' W (h2.upd hu) hst hl hb hn (hT.upd hu)
  obtain ⟨te, hte⟩ : ∃ t : ByteArray, (⟨(encL r).toArray⟩ : ByteArray) = t := ⟨_, rfl⟩
  obtain ⟨m, fs, body, cl⟩ := r
  obtain ⟨bd, hbd⟩ : ∃ t : ByteArray, (⟨body.toArray⟩ : ByteArray) = t := ⟨_, rfl⟩
  simp only [Rs.cells, S, hbd, hte] at henc henc' ⊢
  have HENC := Hd.mk henc
  have HENC' := Hd.mk henc'
  clear henc henc' h1 h2 hT hte hbd hst hl hb hn
  have B1 := (Blk.new w [.int .i64 m, .slice a fs.length cap, .string bd, .bool cl] 26 _ rfl).alloc (.cells #[.int .i64 m, .slice a' fs.length cap', .string bd, .bool cl] 26)
  have B2 := Blk.new (w.alloc (.cells #[.int .i64 m, .slice a fs.length cap, .string bd, .bool cl] 26)) [.int .i64 m, .slice a' fs.length cap', .string bd, .bool cl] 26 _ rfl
  have HB := Hd.mk (show Two2 w w.heap.size (w.alloc (.cells #[.int .i64 m, .slice a fs.length cap, .string bd, .bool cl] 26)).heap.size [.int .i64 m, .slice a fs.length cap, .string bd, .bool cl] [.int .i64 m, .slice a' fs.length cap', .string bd, .bool cl] _ from ⟨B1, B2, ((Upd.refl [] w).alloc _).alloc _⟩)
  clear B1 B2
  have hsz : (w.alloc (.cells #[.int .i64 m, .slice a fs.length cap, .string bd, .bool cl] 26)).heap.size = w.heap.size + 1 := by show (w.heap.push _).size = _; rw [Array.size_push]
  rw [hsz] at HB
  go_enter Tryd.func10, Tryd.ntmps10
  go_upto_region 1 with (fail)
  refine wp_abs (Two2 w w.heap.size (w.heap.size + 1) [.int .i64 m, .slice a fs.length cap, .string bd, .bool cl] [.int .i64 m, .slice a' fs.length cap', .string bd, .bool cl]) HB.out ?_
  clear HB hsz
  generalize w.heap.size + 1 = s2
  generalize w.heap.size = s1
  intro w1 hw1
  have HB := Hd.mk hw1
  clear hw1
  have c0 : ∀ x : Cls (Two2 w s1 s2 [.int .i64 m, .slice a fs.length cap, .string bd, .bool cl] [.int .i64 m, .slice a' fs.length cap', .string bd, .bool cl]), x.w.cell? ⟨s1, 0, none⟩ = some (.int .i64 m) := fun x => x.ok.1.cell 0
  have c1 : ∀ x : Cls (Two2 w s1 s2 [.int .i64 m, .slice a fs.length cap, .string bd, .bool cl] [.int .i64 m, .slice a' fs.length cap', .string bd, .bool cl]), x.w.cell? ⟨s1, 1, none⟩ = some (.slice a fs.length cap) := fun x => x.ok.1.cell 1
  have c2 : ∀ x : Cls (Two2 w s1 s2 [.int .i64 m, .slice a fs.length cap, .string bd, .bool cl] [.int .i64 m, .slice a' fs.length cap', .string bd, .bool cl]), x.w.cell? ⟨s1, 2, none⟩ = some (.string bd) := fun x => x.ok.1.cell 2
  have c3 : ∀ x : Cls (Two2 w s1 s2 [.int .i64 m, .slice a fs.length cap, .string bd, .bool cl] [.int .i64 m, .slice a' fs.length cap', .string bd, .bool cl]), x.w.cell? ⟨s1, 3, none⟩ = some (.bool cl) := fun x => x.ok.1.cell 3
  have d0 : ∀ x : Cls (Two2 w s1 s2 [.int .i64 m, .slice a fs.length cap, .string bd, .bool cl] [.int .i64 m, .slice a' fs.length cap', .string bd, .bool cl]), x.w.cell? ⟨s2, 0, none⟩ = some (.int .i64 m) := fun x => x.ok.2.1.cell 0
  have d1 : ∀ x : Cls (Two2 w s1 s2 [.int .i64 m, .slice a fs.length cap, .string bd, .bool cl] [.int .i64 m, .slice a' fs.length cap', .string bd, .bool cl]), x.w.cell? ⟨s2, 1, none⟩ = some (.slice a' fs.length cap') := fun x => x.ok.2.1.cell 1
  have d2 : ∀ x : Cls (Two2 w s1 s2 [.int .i64 m, .slice a fs.length cap, .string bd, .bool cl] [.int .i64 m, .slice a' fs.length cap', .string bd, .bool cl]), x.w.cell? ⟨s2, 2, none⟩ = some (.string bd) := fun x => x.ok.2.1.cell 2
  have d3 : ∀ x : Cls (Two2 w s1 s2 [.int .i64 m, .slice a fs.length cap, .string bd, .bool cl] [.int .i64 m, .slice a' fs.length cap', .string bd, .bool cl]), x.w.cell? ⟨s2, 3, none⟩ = some (.bool cl) := fun x => x.ok.2.1.cell 3
  have y := str_yes (rfl : te = te)
  refine wp_region_cls (Two2 w s1 s2 [.int .i64 m, .slice a fs.length cap, .string bd, .bool cl] [.int .i64 m, .slice a' fs.length cap', .string bd, .bool cl]) (HB.out.up ((Upd.refl _ _).drew)) (by kernel_rfl) (by kernel_rfl) (fun _ => ?_)
  repeat (go_big_quiet_step (first | (go_at_call 7; rename_i x; with_reducible exact Calls.cls (HENC.out x.w x.ok.u) (fun e w' h => ⟨h.1, x.ok.up h.2⟩)) | (go_at_call 7; rename_i x; with_reducible exact Calls.cls (HENC'.out x.w x.ok.u) (fun e w' h => ⟨h.1, x.ok.up h.2⟩))))
  refine wpQuiet_nil ?_
  intro _ hw'
  obtain ⟨nq, hw''⟩ := hw'
  subst hw''
  go_wp2_with fail
  go_ret
  exact ⟨rfl, nq.ok.2.2⟩
set_option maxRecDepth 100000 in
set_option maxHeartbeats 8000000 in
theorem answers_walk (a : Option Addr) (n cap : Nat) (R : Nat → Rw) (more : ByteArray) (w : World) (h : Many w a n R) (hn : n ≤ 140737488351232) (hT : Tab w) :
    Calls Tryd.prog 3 #[.slice a n cap, .string more] w fun e w' => e = .returned (.bool true) ∧ Upd [] w w' := by
  have HT := Hd.mk hT
  have HM := Hd.mk h
  clear hT h
  go_enter Tryd.func3, Tryd.ntmps3
  go_wp2_with fail
  refine (cfit_ok w HT.out).mono ?_
  rintro e w1 ⟨rfl, u1⟩
  have HU := Hd.mk u1
  clear u1
  by_cases hl : 12 < n
  · have d0 : decide ((12 : Int) < n) = true := decide_eq_true (by omega)
    go_wp2_with fail
    go_ret
    exact ⟨rfl, HU.out⟩
  have d0 : decide ((12 : Int) < n) = false := decide_eq_false (by omega)
  by_cases hl2 : 200 < more.size
  · have d1 : decide ((200 : Int) < more.size) = true := decide_eq_true (by omega)
    go_wp2_with fail
    go_ret
    exact ⟨rfl, HU.out⟩
  have d1 : decide ((200 : Int) < more.size) = false := decide_eq_false (by omega)
  go_upto_region 7 with (fail)
  clear d0 d1
  go_loopg [5, 7, 26] n (fun g s5 s7 ii wr => ∃ (i : Nat) (t : ByteArray), g + i = n ∧ ii = .int .i64 i ∧ s5 = .string t ∧ t.size ≤ 9000 * i ∧ Hd (t.data.toList = encTo R i ∧ (∀ j, j < i → (∃ m : Nat, (R j).k = m) ∧ Fits (R j).rs) ∧ Upd [] w wr))
  case atStart => exact ⟨0, ⟨#[]⟩, by omega, rfl, rfl, by decide, Hd.mk ⟨rfl, by omega, HU.out⟩⟩
  case round =>
    obtain ⟨i, t, hg, rfl, rfl, hts, HS⟩ := hrel
    by_cases hi : i < n
    · obtain ⟨b, off, rfl, hbw, hcm, c0, c1, c2, c3⟩ := (HM.out.upd HS.out.2.2).at hi
      have HES := Hd.mk (encTo_succ R i)
      generalize hri : R i = ri at hcm c0 c1 c2 c3
      obtain ⟨k, fs, body, cl, ra, rc⟩ := ri
      have HRI := Hd.mk hri
      have HC := Hd.mk hcm
      obtain ⟨bd, hbd⟩ : ∃ t : ByteArray, (⟨body.toArray⟩ : ByteArray) = t := ⟨_, rfl⟩
      simp only [S, hbd] at c0 c1 c2 c3
      have HBD := Hd.mk hbd
      have HG := Hd.mk hg
      clear hri hcm hbd hg hbw
      go_upto_region 9 with (fail)
      refine wp_abs (fun W => Blk W wr.heap.size [.int .i64 k, .slice ra fs.length rc, .string bd, .bool cl] 26 ∧ Upd [] wr W) ⟨Blk.new wr [.int .i64 k, .slice ra fs.length rc, .string bd, .bool cl] 26 _ rfl, (Upd.refl _ _).alloc _⟩ ?_
      clear c0 c1 c2 c3
      generalize wr.heap.size = fb
      rintro w2 ⟨b2, u2⟩
      have HB := Hd.mk (And.intro b2 u2)
      have c0 := b2.cell 0
      have c1 := b2.cell 1
      have c2 := b2.cell 2
      have c3 := b2.cell 3
      simp only [List.getElem?_cons_zero, List.getElem?_cons_succ] at c0 c1 c2 c3
      clear b2 u2
      have hr := right_any k fs body cl ra rc w2 (HC.out.upd HB.out.2)
      simp only [rcells, S, HBD.out] at hr
      have HR := Hd.mk hr
      clear hr
      go_wp2_with fail
      refine HR.out.mono ?_
      rintro e w3 ⟨b, rfl, hb, u3⟩
      have HB := Hd.mk (And.intro (u3.blk HB.out.1 (by simp)) (HB.out.2.trans u3 (by simp)))
      clear u3 c0 c1 c2 c3 HR
      cases b with
      | false =>
        clear hb
        go_wp2_with fail
        go_ret
        exact ⟨rfl, HS.out.2.2.trans HB.out.2 (by simp)⟩
      | true =>
        obtain ⟨m, rfl, hf⟩ := hb rfl
        clear hb
        have b2 := HB.out.1
        have c0 := b2.cell 0
        have c1 := b2.cell 1
        have c2 := b2.cell 2
        have c3 := b2.cell 3
        simp only [List.getElem?_cons_zero, List.getElem?_cons_succ] at c0 c1 c2 c3
        clear b2
        have henc := encode_ok ⟨m, fs, body, cl⟩ ra rc w3 (HC.out.rf.upd HB.out.2) (by have := hf.right.st1; show m ≤ _; simp at this; omega) (by have := hf.flds; show (flds fs).length ≤ _; simp at this; omega) (by have := hf.body; show body.length ≤ _; simp at this; omega) (by have := hf.num; show fs.length ≤ _; simp at this; omega) (HT.out.upd (HS.out.2.2.trans HB.out.2 (by simp)))
        simp only [Rs.cells, S, HBD.out] at henc
        have HF := Hd.mk hf
        have hel := hf.enc
        obtain ⟨te, hte⟩ : ∃ t : ByteArray, (⟨(encL ⟨m, fs, body, cl⟩).toArray⟩ : ByteArray) = t := ⟨_, rfl⟩
        have hts2 : te.size ≤ 9000 := by rw [← hte, S_size]; exact hel
        have HTE := Hd.mk (show te.data.toList = encL ⟨m, fs, body, cl⟩ by rw [← hte])
        rw [hte] at henc
        have HENC := Hd.mk henc
        clear henc hte hel hf
        go_wp2_with fail
        refine HENC.out.mono ?_
        rintro e w4 ⟨rfl, u4⟩
        have HU4 := Hd.mk ((HS.out.2.2.trans HB.out.2 (by simp)).trans u4 (by simp))
        clear u4 c0 c1 c2 c3
        go_wp2_with fail
        go_roundg (gk - 1)
        case measure => have := HG.out; omega
        case rel => exact ⟨i + 1, _, by have := HG.out; omega, by go_num, rfl, by simp only [ByteArray.size_append]; omega, Hd.mk ⟨by
            rw [HES.out, HRI.out]
            simp only [ByteArray.data_append, Array.toList_append, HS.out.1, HTE.out]
            rfl, fun j hj => by
            by_cases e : j = i
            · subst e; rw [HRI.out]; exact ⟨⟨m, rfl⟩, HF.out⟩
            · exact HS.out.2.1 j (by omega), HU4.out⟩⟩
    · obtain rfl : i = n := by omega
      have HS1 := Hd.mk HS.out
      clear hg hi
      go_wp2_with fail
      refine (decode_ok more wr (by omega) (HT.out.upd HS1.out.2.2)).mono ?_
      intro e w3 hd
      cases hdec : decL more.data.toList with
      | some rt =>
        obtain ⟨r, tt⟩ := rt
        obtain ⟨a5, k5, rfl, hrf, u3⟩ := hd.some_of hdec
        obtain ⟨st, sf, sb, sc⟩ := r
        have HUF := Hd.mk (HS1.out.2.2.trans u3 (by simp))
        clear hd hdec hrf u3
        simp only [Rs.cells, S]
        go_wp2_with fail
        go_ret
        exact ⟨rfl, HUF.out.alloc _⟩
      | none =>
        obtain ⟨rfl, u3⟩ := hd.none_of hdec
        have HEX := Hd.mk (ans_to R more.data.toList i hdec (fun j hj => (HS1.out.2.1 j hj).2))
        have HUF := Hd.mk (HS1.out.2.2.trans u3 (by simp))
        clear hd hdec u3
        simp only [zeroR, S]
        go_wp2_with fail
        refine (answers_ok (t ++ more) _ (by simp only [ByteArray.size_append]; omega) (HT.out.upd (HUF.out.alloc _))).mono ?_
        rintro e w5 ⟨v, l, rfl, hb, hl, hfs⟩
        rw [show (t ++ more).data.toList = encTo R i ++ more.data.toList by simp [HS1.out.1], HEX.out] at hl ⊢
        simp only at hl ⊢
        obtain ⟨va, vc, rfl⟩ := hb.sl.form
        have hln : l.length = i := by have := congrArg List.length hl; simpa using this
        have HLL := Hd.mk hl
        have HB := Hd.mk hb
        have HFS := Hd.mk hfs
        have HUF := Hd.mk ((HUF.out.alloc _).trans hb.upd (by simp))
        have hmo : (⟨more.data.toList.toArray⟩ : ByteArray) = more := by rw [mk_data]
        simp only [S, hmo]
        have y := str_yes (rfl : more = more)
        subst hln
        clear hl hb hfs hmo
        go_upto_region 20 with (fail)
        clear y
        go_loopg [13, 64] l.length (fun g s13 ii wr => ∃ i : Nat, g + i = l.length ∧ ii = .int .i64 i ∧ Hd (Upd [] w5 wr))
        case atStart => exact ⟨0, by omega, rfl, Hd.mk (Upd.refl _ _)⟩
        case round =>
          obtain ⟨i, hg, rfl, HQ⟩ := hrel
          have HG := Hd.mk hg
          clear hg
          by_cases hi : i < l.length
          · obtain ⟨b, off, rfl, hbw, hcm, c0, c1, c2, c3⟩ := (HM.out.upd (HUF.out.trans HQ.out (by simp))).at hi
            obtain ⟨vb, vo, vcc, hv, -, -, hcc⟩ := (HB.out.sl.upd HQ.out (by simp)).some (by omega)
            simp only [Value.slice.injEq, true_and] at hv
            obtain ⟨rfl, rfl⟩ := hv
            have d0 := hcc (i * 4) (by omega)
            have d1 := hcc (i * 4 + 1) (by omega)
            have d2 := hcc (i * 4 + 2) (by omega)
            have d3 := hcc (i * 4 + 3) (by omega)
            have e0 := acells_at l i 0 hi (by omega)
            have e1 := acells_at l i 1 hi (by omega)
            have e2 := acells_at l i 2 hi (by omega)
            have e3 := acells_at l i 3 hi (by omega)
            rw [Nat.add_zero] at e0
            rw [e0] at d0
            rw [e1, ← Nat.add_assoc] at d1
            rw [e2, ← Nat.add_assoc] at d2
            rw [e3, ← Nat.add_assoc] at d3
            have hfs := (HFS.out _ (List.getElem_mem hi)).up HQ.out
            have heq : (l[i]).1 = (R i).rs := by
              have h1 := congrArg (·[i]?) HLL.out
              simpa [hi] using h1
            obtain ⟨⟨m, hm⟩, hf⟩ := HS1.out.2.1 i hi
            generalize l[i] = y at d0 d1 d2 d3 hfs heq
            obtain ⟨yr, ya, yc⟩ := y
            simp only at heq
            subst heq
            generalize R i = ri at hcm c0 c1 c2 c3 d0 d1 d2 d3 hfs hf hm
            obtain ⟨k, fs, body, cl, ra, rc⟩ := ri
            simp only at hm
            subst hm
            have hsm := fun W (hu : Upd [] wr W) => sameE_ok ⟨m, fs, body, cl⟩ ya ra yc rc W ((Rf.of_sl hfs).upd hu) (hcm.rf.upd hu) (by have := hf.right.st1; show m ≤ _; simp [Rw.rs] at this; omega) (by have := hf.flds; show (flds fs).length ≤ _; simp [Rw.rs] at this; omega) (by have := hf.body; show body.length ≤ _; simp [Rw.rs] at this; omega) (by have := hf.num; show fs.length ≤ _; simp [Rw.rs] at this; omega) (HT.out.upd ((HUF.out.trans HQ.out (by simp)).trans hu (by simp)))
            obtain ⟨bd, hbd⟩ : ∃ t : ByteArray, (⟨body.toArray⟩ : ByteArray) = t := ⟨_, rfl⟩
            simp only [Rs.cells, Rw.rs, S, hbd, Int.toNat_natCast, List.getElem?_cons_zero, List.getElem?_cons_succ] at c0 c1 c2 c3 d0 d1 d2 d3 hsm
            have HSM := Hd.mk hsm
            clear hcc e0 e1 e2 e3 hfs hcm hbw hf hsm hbd
            go_upto_region 22 with (fail)
            have C0 := fun x : Cls (UpW wr) => UpW.at x c0
            have C1 := fun x : Cls (UpW wr) => UpW.at x c1
            have C2 := fun x : Cls (UpW wr) => UpW.at x c2
            have C3 := fun x : Cls (UpW wr) => UpW.at x c3
            have D0 := fun x : Cls (UpW wr) => UpW.at x d0
            have D1 := fun x : Cls (UpW wr) => UpW.at x d1
            have D2 := fun x : Cls (UpW wr) => UpW.at x d2
            have D3 := fun x : Cls (UpW wr) => UpW.at x d3
            clear c0 c1 c2 c3 d0 d1 d2 d3
            refine wp_region_cls (UpW wr) ((Upd.refl [] wr).drew) (by kernel_rfl) (by kernel_rfl) (fun _ => ?_)
            repeat (go_big_quiet_step ((go_at_call 10; rename_i x; with_reducible exact Calls.cls (HSM.out x.w x.ok.u) (fun e w' h => ⟨h.1, x.ok.up h.2⟩))))
            refine wpQuiet_nil ?_
            intro _ hw'
            obtain ⟨nq, hw''⟩ := hw'
            subst hw''
            clear C0 C1 C2 C3 D0 D1 D2 D3
            go_wp2_with fail
            go_roundg (gk - 1)
            case measure => have := HG.out; omega
            case rel => exact ⟨i + 1, by have := HG.out; omega, by go_num, Hd.mk (HQ.out.trans nq.ok.u (by simp))⟩
          · obtain rfl : i = l.length := by have := HG.out; omega
            clear hi HG
            go_wp2_with fail
            go_ret
            exact ⟨rfl, HUF.out.trans HQ.out (by simp)⟩
theorem answers_row (a : Option Addr) (len cap : Nat) (more : ByteArray) (w : World) (hT : Tab w) (hz : Leaf.ok w (.sl [.int .i64, .sl [.str, .str], .str, .bool]) (.slice a len cap)) (_ : more.size ≤ 140737488351232) :
    Calls Tryd.prog 3 #[.slice a len cap, .string more] w fun e w' => e = .returned (.bool true) ∧ Below w.heap.size w w' := by
  obtain ⟨R, hR⟩ := leaf_many hz
  have hn : len ≤ 140737488351232 := by
    simp only [Leaf.ok] at hz
    obtain ⟨_, _, _, _, e, -, -, h, -⟩ := hz
    simp only [Value.slice.injEq] at e
    omega
  exact (answers_walk a len cap R more w hR hn hT).mono fun _ _ h => ⟨h.1, h.2.nil_below⟩
end Go.Proofs.YtlhkckgfhlflkaaDoor
