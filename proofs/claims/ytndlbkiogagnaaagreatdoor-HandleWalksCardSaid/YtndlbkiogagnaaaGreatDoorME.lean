/- A region that draws its order, one of whose operations is a call behind all those ahead of it in the text and ahead of all those behind it: the others only read (calls of the head may make memory). (With what it rests on, merged: A6, C1, Fl, W1, W2, W3, P1, Qp.) -/
import Derived.Test.YtndlbkiogagnaaaGreatDoorA5
import Derived.Test.YtndlbkiogagnaaaGreatDoorIt
import Derived.Test.YtndlbkiogagnaaaGreatDoorCq
import Derived.WalkKit
import Derived.WalkLawsBesides
import Derived.Test.YtndlbkiogagnaaaGreatDoorRows
import Derived.Test.YtndlbkiogagnaaaGreatDoorQt
import Derived.Test.YtndlbkiogagnaaaGreatDoorOps
import Derived.Deep.LoopGhost
import Derived.Deep.DeepCutAuto
import Derived.Deep.RegionWith
import Derived.Test.YtndlbkiogagnaaaGreatDoorV9
import Derived.Test.YtndlbkiogagnaaaGreatDoorMD
import Derived.Test.YtndlbkiogagnaaaGreatDoorCq2
namespace Go.Proofs.YtndlbkiogagnaaaGreatDoor
set_option linter.unusedSimpArgs false
set_option linter.unusedVariables false
set_option linter.unnecessarySimpa false
open Go.RowKit BigFrame

/-- Fields that can be read at a. -/
def Rf (w : World) (a : Option Addr) (fs : List (Bs × Bs)) : Prop := 0 < fs.length → ∃ b off, a = some ⟨b, off, none⟩ ∧ b < w.heap.size ∧ ∀ i (h : i < fs.length), w.cell? ⟨b, off + i * 2, none⟩ = some (S fs[i].1) ∧ w.cell? ⟨b, off + i * 2 + 1, none⟩ = some (S fs[i].2)
theorem Rf.upd {w w' : World} {a : Option Addr} {fs : List (Bs × Bs)} (h : Rf w a fs) (hu : Upd [] w w') : Rf w' a fs := by
  intro h0
  obtain ⟨b, off, ha, hb, hc⟩ := h h0
  have hsz := hu.size
  exact ⟨b, off, ha, by omega, fun i hi => ⟨(hu.cell (p := ⟨b, _, none⟩) hb (by simp)).trans (hc i hi).1, (hu.cell (p := ⟨b, _, none⟩) hb (by simp)).trans (hc i hi).2⟩⟩
theorem Rf.nil (w : World) (a : Option Addr) : Rf w a [] := fun h => by simp at h

def flds (fs : List (Bs × Bs)) : Bs := fs.flatMap fun f => fieldL f ++ crlf
theorem flds_take {fs : List (Bs × Bs)} {i : Nat} (h : i < fs.length) : flds (fs.take (i + 1)) = flds (fs.take i) ++ (fieldL fs[i] ++ crlf) := by
  unfold flds
  rw [List.take_succ_eq_append_getElem h, List.flatMap_append]
  simp
theorem flds_take_len (fs : List (Bs × Bs)) (i : Nat) : (flds (fs.take i)).length ≤ (flds fs).length := by
  have : flds fs = flds (fs.take i) ++ flds (fs.drop i) := by
    unfold flds
    rw [← List.flatMap_append, List.take_append_drop]
  rw [this, List.length_append]
  omega
theorem firstL_len (n : Nat) (h : n ≤ 9223372036854775807) : (firstL n).length ≤ 62 := by
  unfold firstL
  have h1 := wordL_len n
  have h2 := itoaB_size (n : Int) (by omega) (by omega)
  have h3 : (itoaB (n : Int)).size = (Lib.decDigits n).length := by
    unfold itoaB
    rw [Lib.itoa_nonneg, S_size]
  simp [http]
  omega

/-- Worlds that differ from w by new blocks alone, the box of the response being one. -/
def EncW (w : World) (b : Nat) (cs : List Value) (W : World) : Prop := Blk W b cs 40 ∧ Upd [] w W
theorem EncW.up {w W W' : World} {b : Nat} {cs : List Value} (h : EncW w b cs W) (hu : Upd [] W W') : EncW w b cs W' := ⟨hu.blk h.1 (by simp), h.2.trans hu (by simp)⟩

set_option maxHeartbeats 4000000 in
theorem encode_ok (r : Rs) (a : Option Addr) (cap : Nat) (w : World) (hf : Rf w a r.fields) (hst : r.status ≤ 2000000000) (hl : (flds r.fields).length ≤ 2000000) (hb : r.body.length ≤ 2000000) (hn : r.fields.length ≤ 2000000) (hT : Tab w) :
    Calls Tryz.prog 52 #[.agg (r.cells a cap).toArray] w fun e w' => e = .returned (S (encL r)) ∧ Upd [] w w' := by
  obtain ⟨n, fs, body, cl⟩ := r
  simp only at hf hst hl hb hn
  have HT := Hd.mk hT
  have HF := Hd.mk hf
  have HL := Hd.mk hl
  have h1l := firstL_len n (by omega)
  clear hT hf hl
  simp only [Rs.cells]
  obtain ⟨bd, hbd⟩ : ∃ t : ByteArray, (⟨body.toArray⟩ : ByteArray) = t := ⟨_, rfl⟩
  have hbs : bd.size = body.length := by rw [← hbd, S_size]
  simp only [S, hbd]
  have HBD := Hd.mk hbd
  clear hbd
  have B := Blk.new w [.int .i64 n, .slice a fs.length cap, .string bd, .bool cl] 40 _ rfl
  have HB := Hd.mk B
  have c0 := B.cell 0
  have c1 := B.cell 1
  have c2 := B.cell 2
  have c3 := B.cell 3
  simp only [List.getElem?_cons_zero, List.getElem?_cons_succ] at c0 c1 c2 c3
  clear B
  have t1 := itoaB_size (n : Int) (by omega) (by omega)
  have t2 := wordL_len n
  go_enter Tryz.func52, Tryz.ntmps52
  go_upto_region 1 with (fail)
  refine wp_abs (fun W => Blk W w.heap.size [.int .i64 n, .slice a fs.length cap, .string bd, .bool cl] 40 ∧ Upd [] w W) ⟨HB.out, (Upd.refl _ _).alloc _⟩ ?_
  clear c0 c1 c2 c3 HB
  generalize w.heap.size = sb at *
  rintro w1 ⟨b1, u1⟩
  have HB := Hd.mk (And.intro b1 u1)
  have c0 := b1.cell 0
  have c1 := b1.cell 1
  have c2 := b1.cell 2
  have c3 := b1.cell 3
  simp only [List.getElem?_cons_zero, List.getElem?_cons_succ] at c0 c1 c2 c3
  clear b1 u1
  obtain ⟨wd, hwd⟩ : ∃ t : ByteArray, (⟨(wordL n).toArray⟩ : ByteArray) = t := ⟨_, rfl⟩
  have hws : wd.size = (wordL n).length := by rw [← hwd, S_size]
  have HWD := Hd.mk hwd
  clear hwd
  obtain ⟨it, hit⟩ : ∃ t : ByteArray, itoaB (n : Int) = t := ⟨_, rfl⟩
  rw [hit] at t1
  have HIT := Hd.mk hit
  clear hit
  have HPRE := Hd.mk (show (⟨#[72, 84, 84, 80, 47, 49, 46, 49, 32]⟩ ++ it ++ ⟨#[32]⟩ ++ wd ++ ⟨#[13, 10]⟩ : ByteArray).data.toList = firstL n ++ crlf by
    rw [← HIT.out, ← HWD.out]
    unfold itoaB firstL
    rw [Lib.itoa_nonneg]
    simp [http, crlf])
  go_cut [1, 3] (fun s1 s3 W => s1 = .pointer (some ⟨sb, 0, none⟩) ∧ (∃ t : ByteArray, s3 = .string t ∧ Hd (t.data.toList = firstL n ++ crlf)) ∧ Hd (Blk W sb [.int .i64 n, .slice a fs.length cap, .string bd, .bool cl] 40 ∧ Upd [] w W))
  case first =>
    clear c0 c1 c2 c3
    have c0 : ∀ x : Cls (EncW w sb [.int .i64 n, .slice a fs.length cap, .string bd, .bool cl]), x.w.cell? ⟨sb, 0, none⟩ = some (.int .i64 n) := fun x => x.ok.1.cell 0
    refine wp_region_cls (EncW w sb [.int .i64 n, .slice a fs.length cap, .string bd, .bool cl]) ⟨HB.out.1.drew, HB.out.2.drew⟩ (by kernel_rfl) (by kernel_rfl) (fun _ => ?_)
    repeat (go_big_quiet_step (first | (go_at_call 44; rename_i x; exact Calls.cls (itoa_ok (n : Int) _ (by omega) (by omega) (HT.out.upd x.ok.2)) (fun e w' h => ⟨h.1.trans (by rw [HIT.out]), x.ok.up h.2⟩)) | (go_at_call 29; rename_i x; exact Calls.cls (word_ok (n : Int) _) (fun e w' h => ⟨h.1.trans (by rw [S, Int.toNat_natCast, HWD.out]), x.ok.up h.2⟩))))
    refine wpQuiet_nil ?_
    intro _ hw'
    obtain ⟨nq, hw''⟩ := hw'
    subst hw''
    go_wp2_with fail
    go_meet
    case rel => exact ⟨rfl, ⟨_, rfl, HPRE.out⟩, Hd.mk nq.ok⟩
  case rest =>
    clear HB c0 c1 c2 c3 HPRE HIT HWD t1 t2 hws
    obtain ⟨rfl, ⟨t, rfl, HTL⟩, HB⟩ := hcut
    have b1 := HB.out.1
    have c0 := b1.cell 0
    have c1 := b1.cell 1
    have c2 := b1.cell 2
    have c3 := b1.cell 3
    simp only [List.getElem?_cons_zero, List.getElem?_cons_succ] at c0 c1 c2 c3
    clear b1
    have hts : t.size ≤ 64 := by
      have : t.data.toList.length = t.size := by simp
      rw [← this, HTL.out, List.length_append]
      simp [crlf]
      omega
    go_wp2_with fail
    go_loopg [3, 5, 19] fs.length (fun g s3 s5 ii wr => ∃ (i : Nat) (t : ByteArray), g + i = fs.length ∧ ii = .int .i64 i ∧ s3 = .string t ∧ t.size ≤ 2000100 ∧ Hd (t.data.toList = firstL n ++ (crlf ++ flds (fs.take i))) ∧ Hd (Blk wr sb [.int .i64 n, .slice a fs.length cap, .string bd, .bool cl] 40 ∧ Upd [] w wr))
    case atStart => exact ⟨0, t, by omega, rfl, rfl, by omega, Hd.mk (by rw [HTL.out]; simp [flds]), HB⟩
    case round =>
      clear HB c0 c1 c2 c3 HTL hts
      obtain ⟨i, t, hg, rfl, rfl, hts, HTL, HB⟩ := hrel
      by_cases hi : i < fs.length
      · obtain ⟨b, off, rfl, hbw, hc⟩ := HF.out.upd HB.out.2 (by omega)
        obtain ⟨k0, k1⟩ := hc i hi
        have HST := Hd.mk (flds_take hi)
        have hl1 := flds_take_len fs (i + 1)
        have hl0 := flds_take_len fs i
        rw [HST.out, List.length_append] at hl1
        have hfl := HL.out
        have htl : t.data.toList.length = t.size := by simp
        rw [HTL.out] at htl
        simp only [List.length_append] at htl
        simp only [crlf, fieldL, List.length_append, List.length_cons, List.length_nil] at hl1 htl
        obtain ⟨nm, hnm⟩ : ∃ t : ByteArray, (⟨fs[i].1.toArray⟩ : ByteArray) = t := ⟨_, rfl⟩
        obtain ⟨vl, hvl⟩ : ∃ t : ByteArray, (⟨fs[i].2.toArray⟩ : ByteArray) = t := ⟨_, rfl⟩
        have hns : nm.size = fs[i].1.length := by rw [← hnm, S_size]
        have hvs : vl.size = fs[i].2.length := by rw [← hvl, S_size]
        simp only [S, hnm, hvl] at k0 k1
        have HNV := Hd.mk (And.intro hnm hvl)
        generalize fs[i].1.length = l1 at hl1 hns
        generalize fs[i].2.length = l2 at hl1 hvs
        have hbd1 : nm.size + vl.size + t.size + 4 ≤ 2000100 := by omega
        have HG := Hd.mk hg
        clear hc hnm hvl hl1 hl0 hfl htl hns hvs
        go_upto_region 5 with (fail)
        refine wp_abs (fun W => (Blk W sb [.int .i64 n, .slice (some ⟨b, off, none⟩) fs.length cap, .string bd, .bool cl] 40 ∧ Upd [] w W) ∧ Blk W wr.heap.size [.string nm, .string vl] 62) ⟨⟨?_, ?_⟩, Blk.new wr [.string nm, .string vl] 62 _ rfl⟩ ?_
        · exact HB.out.1.alloc _
        · exact HB.out.2.alloc _
        clear k0 k1 HB hbw
        generalize wr.heap.size = fb at *
        rintro w5 ⟨hu, tb⟩
        have HB := Hd.mk hu
        have c0 := tb.cell 0
        have c1 := tb.cell 1
        simp only [List.getElem?_cons_zero, List.getElem?_cons_succ] at c0 c1
        clear hu tb
        go_wp2_with fail
        go_roundg (gk - 1)
        case measure => have := HG.out; omega
        case rel => exact ⟨i + 1, _, by have := HG.out; omega, by go_num, rfl, by
          have e1 : (⟨#[58, 32]⟩ : ByteArray).size = 2 := rfl
          have e2 : (⟨#[13, 10]⟩ : ByteArray).size = 2 := rfl
          simp only [ByteArray.size_append]
          omega, Hd.mk (by
          rw [HST.out]
          simp only [ByteArray.data_append, Array.toList_append, HTL.out]
          rw [← HNV.out.1, ← HNV.out.2]
          simp [fieldL, crlf]), HB⟩
      · obtain rfl : i = fs.length := by omega
        have b1 := HB.out.1
        have c0 := b1.cell 0
        have c1 := b1.cell 1
        have c2 := b1.cell 2
        have c3 := b1.cell 3
        simp only [List.getElem?_cons_zero, List.getElem?_cons_succ] at c0 c1 c2 c3
        clear b1 hi hg
        have t1 := itoaB_size (body.length : Int) (by omega) (by omega)
        obtain ⟨it2, hit2⟩ : ∃ t : ByteArray, itoaB (body.length : Int) = t := ⟨_, rfl⟩
        rw [hit2] at t1
        have HIT := Hd.mk hit2
        clear hit2
        have HIL : Hd (it2.data.toList = Lib.decDigits body.length) := Hd.mk (by rw [← HIT.out]; unfold itoaB; rw [Lib.itoa_nonneg])
        go_upto_if 34 with (fail)
        go_cut [1, 3] (fun s1 s3 W => s1 = .pointer (some ⟨sb, 0, none⟩) ∧ W = wr ∧ ∃ t : ByteArray, s3 = .string t ∧ t.size ≤ 2000200 ∧ Hd (t.data.toList = firstL n ++ (crlf ++ flds fs) ++ (if cl then connClose ++ crlf else [])))
        case first =>
          cases cl with
          | false =>
            go_wp2_with fail
            go_meet
            case rel => exact ⟨rfl, rfl, _, rfl, by omega, Hd.mk (by rw [HTL.out]; simp)⟩
          | true =>
            go_wp2_with fail
            go_meet
            case rel => exact ⟨rfl, rfl, _, rfl, by
              have e1 : (⟨#[99, 111, 110, 110, 101, 99, 116, 105, 111, 110, 58, 32, 99, 108, 111, 115, 101, 13, 10]⟩ : ByteArray).size = 19 := rfl
              simp only [ByteArray.size_append]
              omega, Hd.mk (by simp only [ByteArray.data_append, Array.toList_append, HTL.out]; simp [connClose, crlf])⟩
        case rest =>
          obtain ⟨rfl, rfl, t2, rfl, hts2, HTL2⟩ := hcut
          clear HTL hts
          go_upto_region 9 with (fail)
          clear c0 c1 c2 c3
          have c2 : ∀ x : Cls (EncW w sb [.int .i64 n, .slice a fs.length cap, .string bd, .bool cl]), x.w.cell? ⟨sb, 2, none⟩ = some (.string bd) := fun x => x.ok.1.cell 2
          refine wp_region_cls (EncW w sb [.int .i64 n, .slice a fs.length cap, .string bd, .bool cl]) ⟨HB.out.1.drew, HB.out.2.drew⟩ (by kernel_rfl) (by kernel_rfl) (fun _ => ?_)
          repeat (go_big_quiet_step ((go_at_call 44; rename_i x; exact Calls.cls (itoa_ok (body.length : Int) _ (by omega) (by omega) (HT.out.upd x.ok.2)) (fun e w' h => ⟨h.1.trans (by rw [HIT.out]), x.ok.up h.2⟩))))
          refine wpQuiet_nil ?_
          intro _ hw'
          obtain ⟨nq, hw''⟩ := hw'
          subst hw''
          go_wp2_with fail
          go_ret
          refine ⟨?_, nq.ok.2⟩
          refine congrArg Ending.returned (S_of ?_)
          simp only [ByteArray.data_append, Array.toList_append, HTL2.out, HIL.out, List.take_length]
          rw [← HBD.out]
          cases cl <;> simp [encL, flds, contLen, connClose, crlf]
end Go.Proofs.YtndlbkiogagnaaaGreatDoor

namespace Go.Proofs.YtndlbkiogagnaaaGreatDoor
set_option linter.unusedSimpArgs false
set_option linter.unusedVariables false
set_option linter.unnecessarySimpa false
open Go.RowKit BigFrame

/-- The values of a name's fields. -/
def allL (fs : List (Bs × Bs)) (nm : Bs) : List Bs := (fs.filter fun f => decide (f.1 = nm)).map (·.2)
theorem allL_snoc {fs : List (Bs × Bs)} {i : Nat} (h : i < fs.length) (nm : Bs) : allL (fs.take (i + 1)) nm = allL (fs.take i) nm ++ (if fs[i].1 = nm then [fs[i].2] else []) := by
  unfold allL
  rw [List.take_succ_eq_append_getElem h, List.filter_append, List.map_append]
  by_cases e : fs[i].1 = nm <;> simp [e]
theorem allL_len (fs : List (Bs × Bs)) (nm : Bs) : (allL fs nm).length ≤ fs.length := by
  unfold allL
  rw [List.length_map]
  exact List.length_filter_le _ _
set_option maxRecDepth 100000 in
set_option maxHeartbeats 4000000 in
theorem all_ok (fs : List (Bs × Bs)) (a : Option Addr) (cap : Nat) (nm : Bs) (w : World) (hf : Rf w a fs) (hn : fs.length ≤ 900000) :
    Calls Tryz.prog 95 #[.slice a fs.length cap, S nm] w fun e w' => ∃ v, e = .returned v ∧ Bld w w' 9 1 v (allL fs nm).length ((allL fs nm).map S) := by
  have HF := Hd.mk hf
  obtain ⟨nb, hnb⟩ : ∃ t : ByteArray, S nm = .string t ∧ t.data.toList = nm := ⟨⟨nm.toArray⟩, rfl, by simp⟩
  have HNM := Hd.mk hnb.2
  rw [hnb.1]
  clear hf hnb
  go_enter Tryz.func95, Tryz.ntmps95
  go_upto_region 3 with (fail)
  go_loopg [5, 7, 10] fs.length (fun g s5 s7 ii wr => ∃ (i : Nat) (l : List Bs), g + i = fs.length ∧ ii = .int .i64 i ∧ l.length ≤ i ∧ Hd (l = allL (fs.take i) nm) ∧ Hd (Bld w wr 9 1 s5 l.length (l.map S)))
  case atStart => exact ⟨0, [], by omega, rfl, by simp, Hd.mk rfl, Hd.mk (Bld.nil (Upd.refl _ _) _ _)⟩
  case round =>
    obtain ⟨i, l, hg, rfl, hli, HL, HB⟩ := hrel
    obtain ⟨va, vc, rfl⟩ := HB.out.sl.form
    have HG := Hd.mk hg
    clear hg
    by_cases hi : i < fs.length
    · obtain ⟨b, off, rfl, hbw, hc⟩ := HF.out.upd HB.out.upd (by omega)
      obtain ⟨k0, k1⟩ := hc i hi
      have HS := Hd.mk (allL_snoc hi nm)
      generalize fs[i] = f at k0 k1 HS
      obtain ⟨fn, fv⟩ := f
      obtain ⟨n1, hn1⟩ : ∃ t : ByteArray, S fn = .string t ∧ t.data.toList = fn := ⟨⟨fn.toArray⟩, rfl, by simp⟩
      obtain ⟨v1, hv1⟩ : ∃ t : ByteArray, S fv = .string t ∧ t.data.toList = fv := ⟨⟨fv.toArray⟩, rfl, by simp⟩
      have HN1 := Hd.mk hn1.2
      have HV1 := Hd.mk hv1.1
      rw [hn1.1] at k0
      rw [hv1.1] at k1
      clear hc hbw hn1 hv1
      go_upto_region 5 with (fail)
      refine wp_abs (fun W => Blk W wr.heap.size [.string n1, .string v1] 62 ∧ Upd [] wr W) ⟨Blk.new wr [.string n1, .string v1] 62 _ rfl, (Upd.refl _ _).alloc _⟩ ?_
      clear k0 k1
      generalize wr.heap.size = fb
      rintro w5 ⟨tb, u5⟩
      have HB := Hd.mk (HB.out.over u5)
      have c0 := tb.cell 0
      have c1 := tb.cell 1
      simp only [List.getElem?_cons_zero, List.getElem?_cons_succ] at c0 c1
      clear tb u5
      by_cases he : n1 = nb
      · have y := str_yes he
        have HE := Hd.mk (show l ++ [fv] = allL (fs.take (i + 1)) nm by rw [HS.out, HL.out]; simp only; rw [if_pos (by rw [← HN1.out, ← HNM.out, he])])
        have hsl := HB.out.sl
        clear he
        go_wp2_with (at_builtin; refine wpList_append_row rfl (.tmp 18) (.tmp 21) 22 rfl rfl 9 (.string ⟨#[]⟩) 1 16 Tryz.underlying22 (by kernel_rfl) rfl _ _ _ rfl hsl [.string v1] rfl rfl rfl (by omega) (by omega) ?_)
        intro v7 w7 s7 u7 o7
        have HB := Hd.mk (HB.out.app s7 u7 o7)
        obtain ⟨a7, c7, rfl⟩ := s7.form
        clear s7 u7 o7 hsl c0 c1
        go_wp2_with fail
        go_roundg (gk - 1)
        case measure => have := HG.out; omega
        case rel => exact ⟨i + 1, l ++ [fv], by have := HG.out; omega, by go_num, by simp; omega, HE, Hd.mk (by
            have := HB.out
            rw [List.length_append, List.map_append, List.map_singleton, HV1.out]
            exact this)⟩
      · have y := str_no he
        have HE := Hd.mk (show l = allL (fs.take (i + 1)) nm by rw [HS.out, HL.out]; simp only; rw [if_neg (fun e => he (toList_inj (by rw [HN1.out, HNM.out, e]))), List.append_nil])
        clear he
        go_wp2_with fail
        go_roundg (gk - 1)
        case measure => have := HG.out; omega
        case rel => exact ⟨i + 1, l, by have := HG.out; omega, by go_num, by omega, HE, HB⟩
    · obtain rfl : i = fs.length := by have := HG.out; omega
      have HE := Hd.mk (show l = allL fs nm by rw [HL.out, List.take_length])
      go_wp2_with fail
      go_ret
      rw [← HE.out]
      exact ⟨_, rfl, HB.out⟩
end Go.Proofs.YtndlbkiogagnaaaGreatDoor

namespace Go.Proofs.YtndlbkiogagnaaaGreatDoor
set_option linter.unusedSimpArgs false
set_option linter.unusedVariables false
set_option linter.unnecessarySimpa false

/-- The words of a small whole number: two of nought. -/
def zs (n : Int) : List Nat := if n = 0 then [0, 9223372036854775808] else [floatOfInt .f64 n]
/-- The word b stands for n. -/
def Z (b : Nat) (n : Int) : Prop := b ∈ zs n
theorem Z.of (n : Int) : Z (floatOfInt .f64 n) n := by
  unfold Z zs
  split
  · rename_i h; subst h; exact List.mem_cons.2 (.inl (by decide +kernel))
  · exact List.mem_singleton.2 rfl

def small (k : Nat) (n : Int) : Prop := -(k : Int) ≤ n ∧ n ≤ k

def both (p : Nat → Nat → Bool) (i j : Int) : Bool := (zs i).all fun a => (zs j).all fun b => p a b
theorem both_out {p : Nat → Nat → Bool} {i j : Int} (h : both p i j = true) {a b : Nat} (ha : Z a i) (hb : Z b j) : p a b = true :=
  List.all_eq_true.1 (List.all_eq_true.1 h a ha) b hb
def rng (k : Nat) (f : Int → Bool) : Bool := (List.range (2 * k + 1)).all fun i => f ((i : Int) - k)
theorem rng_out {k : Nat} {f : Int → Bool} (h : rng k f = true) {n : Int} (hn : small k n) : f n = true := by
  have := List.all_eq_true.1 h (n + k).toNat (by simp; unfold small at hn; omega)
  rw [show (((n + k).toNat : Nat) : Int) - k = n by unfold small at hn; omega] at this
  exact this
def isW (o : Option Nat) (n : Int) : Bool := match o with | some r => (zs n).contains r | none => false
theorem isW_out {o : Option Nat} {n : Int} (h : isW o n = true) : ∃ r, o = some r ∧ Z r n := by
  cases o with
  | none => cases h
  | some r => exact ⟨r, rfl, by unfold Z; simpa [isW] using h⟩

theorem chk_add : (rng 41 fun n => rng 1 fun m => both (fun a b => isW (floatBits .add .f64 a b) (n + m) && isW (floatBits .sub .f64 a b) (n - m)) n m) = true := by decide +kernel
theorem chk_add0 : (rng 1 fun n => rng 41 fun m => both (fun a b => isW (floatBits .add .f64 a b) (n + m) && isW (floatBits .sub .f64 a b) (n - m)) n m) = true := by decide +kernel
theorem chk_mul : (rng 41 fun n => rng 1 fun m => both (fun a b => isW (floatBits .mul .f64 a b) (n * m)) n m) = true := by decide +kernel
theorem chk_cmp : (rng 41 fun n => rng 41 fun m => both (fun a b => (FloatKind.f64.format.order a b == some .eq) == decide (n = m)) n m) = true := by decide +kernel
theorem chk_int : (rng 41 fun n => (zs n).all fun a => floatToIntVal .f64 a .i64 == some n) = true := by decide +kernel

theorem Z.add {a b : Nat} {n m : Int} (ha : Z a n) (hb : Z b m) (h : small 41 n ∧ small 1 m ∨ small 1 n ∧ small 41 m) : ∃ r, floatBits .add .f64 a b = some r ∧ Z r (n + m) := by
  refine isW_out ?_
  rcases h with ⟨h1, h2⟩ | ⟨h1, h2⟩
  · exact (Bool.and_eq_true_iff.1 (both_out (rng_out (rng_out chk_add h1) h2) ha hb)).1
  · exact (Bool.and_eq_true_iff.1 (both_out (rng_out (rng_out chk_add0 h1) h2) ha hb)).1
theorem Z.sub {a b : Nat} {n m : Int} (ha : Z a n) (hb : Z b m) (h : small 41 n ∧ small 1 m ∨ small 1 n ∧ small 41 m) : ∃ r, floatBits .sub .f64 a b = some r ∧ Z r (n - m) := by
  refine isW_out ?_
  rcases h with ⟨h1, h2⟩ | ⟨h1, h2⟩
  · exact (Bool.and_eq_true_iff.1 (both_out (rng_out (rng_out chk_add h1) h2) ha hb)).2
  · exact (Bool.and_eq_true_iff.1 (both_out (rng_out (rng_out chk_add0 h1) h2) ha hb)).2
theorem Z.mul {a b : Nat} {n m : Int} (ha : Z a n) (hb : Z b m) (h1 : small 41 n) (h2 : small 1 m) : ∃ r, floatBits .mul .f64 a b = some r ∧ Z r (n * m) :=
  isW_out (both_out (rng_out (rng_out chk_mul h1) h2) ha hb)
theorem Z.cmp {a b : Nat} {n m : Int} (ha : Z a n) (hb : Z b m) (h1 : small 41 n) (h2 : small 41 m) : (FloatKind.f64.format.order a b == some .eq) = decide (n = m) := by
  simpa using both_out (rng_out (rng_out chk_cmp h1) h2) ha hb
theorem Z.int {a : Nat} {n : Int} (ha : Z a n) (h1 : small 41 n) : floatToIntVal .f64 a .i64 = some n := by
  simpa using List.all_eq_true.1 (rng_out chk_int h1) a ha
theorem Z.csum {a b c d : Nat} {n m k l : Int} (ha : Z a n) (hb : Z b m) (hc : Z c k) (hd : Z d l) (h1 : small 41 n) (h2 : small 41 m) (h3 : small 1 k) (h4 : small 1 l) :
    ∃ re im, cSumBits .add .f64 a b c d = some (re, im) ∧ Z re (n + k) ∧ Z im (m + l) := by
  obtain ⟨r, hr, zr⟩ := ha.add hc (.inl ⟨h1, h3⟩)
  obtain ⟨i, hi, zi⟩ := hb.add hd (.inl ⟨h2, h4⟩)
  exact ⟨r, i, by simp [cSumBits, hr, hi], zr, zi⟩
theorem Z.csub {a b c d : Nat} {n m k l : Int} (ha : Z a n) (hb : Z b m) (hc : Z c k) (hd : Z d l) (h1 : small 41 n) (h2 : small 41 m) (h3 : small 1 k) (h4 : small 1 l) :
    ∃ re im, cSumBits .sub .f64 a b c d = some (re, im) ∧ Z re (n - k) ∧ Z im (m - l) := by
  obtain ⟨r, hr, zr⟩ := ha.sub hc (.inl ⟨h1, h3⟩)
  obtain ⟨i, hi, zi⟩ := hb.sub hd (.inl ⟨h2, h4⟩)
  exact ⟨r, i, by simp [cSumBits, hr, hi], zr, zi⟩
/-- A product by a unit along one of the axes. -/
theorem Z.cmul {a b c d : Nat} {n m k l : Int} (ha : Z a n) (hb : Z b m) (hc : Z c k) (hd : Z d l) (h1 : small 41 n) (h2 : small 41 m) (hu : small 1 k ∧ l = 0 ∨ k = 0 ∧ small 1 l) :
    ∃ re im, cMulBits a b c d = some (re, im) ∧ Z re (n * k - m * l) ∧ Z im (n * l + m * k) := by
  have h3 : small 1 k := by unfold small at hu ⊢; omega
  have h4 : small 1 l := by unfold small at hu ⊢; omega
  obtain ⟨ac, e1, z1⟩ := ha.mul hc h1 h3
  obtain ⟨bd, e2, z2⟩ := hb.mul hd h2 h4
  obtain ⟨ad, e3, z3⟩ := ha.mul hd h1 h4
  obtain ⟨bc, e4, z4⟩ := hb.mul hc h2 h3
  have key : ∀ x y : Int, small 41 x → small 1 y → small 41 (x * y) := by
    intro x y hx hy
    have hy' : y = -1 ∨ y = 0 ∨ y = 1 := by unfold small at hy; omega
    unfold small at hx ⊢
    rcases hy' with rfl | rfl | rfl <;> simp <;> omega
  have s0 : small 1 (0 : Int) := by unfold small; omega
  obtain ⟨re, e5, z5⟩ := z1.sub z2 (by
    rcases hu with ⟨_, rfl⟩ | ⟨rfl, _⟩
    · left; exact ⟨key _ _ h1 h3, by simpa using s0⟩
    · right; exact ⟨by simpa using s0, key _ _ h2 h4⟩)
  obtain ⟨im, e6, z6⟩ := z3.add z4 (by
    rcases hu with ⟨_, rfl⟩ | ⟨rfl, _⟩
    · right; exact ⟨by simpa using s0, key _ _ h2 h3⟩
    · left; exact ⟨key _ _ h1 h4, by simpa using s0⟩)
  exact ⟨re, im, by simp [cMulBits, e1, e2, e3, e4, e5, e6], z5, z6⟩
end Go.Proofs.YtndlbkiogagnaaaGreatDoor

namespace Go.Proofs.YtndlbkiogagnaaaGreatDoor
set_option linter.unusedSimpArgs false
set_option linter.unusedVariables false
set_option linter.unnecessarySimpa false
open Go.RowKit BigFrame

section
variable (P : Program) (w : World) (a : Addr) (m : Mode)
@[go_sem] theorem run_store_complex (k : FloatKind) (x y : Nat) : (store a (.complex k x y) m).run P w = stored P w a (.complex k x y) m := run_store P w a _ m rfl
@[go_sem] theorem run_store_float (k : FloatKind) (x : Nat) : (store a (.float k x) m).run P w = stored P w a (.float k x) m := run_store P w a _ m rfl
end

structure Wk where
  x : Int
  y : Int
  dx : Int
  dy : Int
def Wk.new : Wk := ⟨0, 0, 1, 0⟩
def Wk.zero : Wk := ⟨0, 0, 0, 0⟩
def Wk.step (k : Wk) (c : Nat) : Option Wk :=
  if c = 70 then some ⟨k.x + k.dx, k.y + k.dy, k.dx, k.dy⟩
  else if c = 66 then some ⟨k.x - k.dx, k.y - k.dy, k.dx, k.dy⟩
  else if c = 76 then some ⟨k.x, k.y, -k.dy, k.dx⟩
  else if c = 82 then some ⟨k.x, k.y, k.dy, -k.dx⟩
  else none
/-- No further away than n steps; it looks along an axis. -/
structure Wk.ok (n : Nat) (k : Wk) : Prop where
  x : small n k.x
  y : small n k.y
  d : (k.dx = 1 ∧ k.dy = 0) ∨ (k.dx = 0 ∧ k.dy = 1) ∨ (k.dx = -1 ∧ k.dy = 0) ∨ (k.dx = 0 ∧ k.dy = -1)
theorem Wk.ok.step {n : Nat} {k k' : Wk} {c : Nat} (h : k.ok n) (hs : k.step c = some k') : k'.ok (n + 1) := by
  obtain ⟨hx, hy, hd⟩ := h
  unfold small at hx hy
  unfold Wk.step at hs
  by_cases h1 : c = 70
  · rw [if_pos h1] at hs; cases hs; exact ⟨by unfold small; simp only; omega, by unfold small; simp only; omega, hd⟩
  · rw [if_neg h1] at hs
    by_cases h2 : c = 66
    · rw [if_pos h2] at hs; cases hs; exact ⟨by unfold small; simp only; omega, by unfold small; simp only; omega, hd⟩
    · rw [if_neg h2] at hs
      by_cases h3 : c = 76
      · rw [if_pos h3] at hs; cases hs; exact ⟨by unfold small; simp only; omega, by unfold small; simp only; omega, by simp only; omega⟩
      · rw [if_neg h3] at hs
        by_cases h4 : c = 82
        · rw [if_pos h4] at hs; cases hs; exact ⟨by unfold small; simp only; omega, by unfold small; simp only; omega, by simp only; omega⟩
        · rw [if_neg h4] at hs; cases hs
theorem Wk.ok.more {n m : Nat} {k : Wk} (h : k.ok n) (hm : n ≤ m) : k.ok m :=
  ⟨by have := h.x; unfold small at *; omega, by have := h.y; unfold small at *; omega, h.d⟩
theorem Wk.ok.new : Wk.new.ok 0 := ⟨⟨by simp [Wk.new], by simp [Wk.new]⟩, ⟨by simp [Wk.new], by simp [Wk.new]⟩, .inl ⟨rfl, rfl⟩⟩

/-- The cells of a walker. -/
def WkC (k : Wk) (cs : List Value) : Prop := ∃ a b c d, cs = [.complex .f64 a b, .complex .f64 c d] ∧ Z a k.x ∧ Z b k.y ∧ Z c k.dx ∧ Z d k.dy
def zeroW : List Value := [.complex .f64 0 0, .complex .f64 0 0]
theorem Z.i : Z 4607182418800017408 1 := show _ ∈ zs _ from by decide +kernel
theorem Z.mi : Z 13830554455654793216 (-1) := show _ ∈ zs _ from by decide +kernel
theorem Z.o : Z 0 0 := show _ ∈ zs _ from by decide +kernel
theorem WkC.zero : WkC Wk.zero zeroW := ⟨0, 0, 0, 0, rfl, Z.o, Z.o, Z.o, Z.o⟩
def RetS (k : Wk) (w : World) (e : Ending) (w' : World) : Prop := ∃ cs, WkC k cs ∧ e = .returned (.tuple #[.agg cs.toArray, .bool true]) ∧ Upd [] w w'

set_option maxHeartbeats 1000000 in
theorem step_some (k k' : Wk) (c : Nat) (cs : List Value) (w : World) (hv : WkC k cs) (ho : k.ok 40) (h : k.step c = some k') :
    Calls Tryz.prog 43 #[.agg cs.toArray, .int .u8 c] w (RetS k' w) := by
  obtain ⟨a, b, x, y, rfl, h1, h2, h3, h4⟩ := hv
  have o1 : small 41 k.x := by have := ho.x; unfold small at *; omega
  have o2 : small 41 k.y := by have := ho.y; unfold small at *; omega
  have o3 : small 1 k.dx := by have := ho.d; unfold small at *; omega
  have o4 : small 1 k.dy := by have := ho.d; unfold small at *; omega
  have o5 : small 41 k.dx := by unfold small at *; omega
  have o6 : small 41 k.dy := by unfold small at *; omega
  unfold Wk.step at h
  have hc : c = 70 ∨ c = 66 ∨ c = 76 ∨ c = 82 := by
    by_cases e1 : c = 70
    · exact .inl e1
    · by_cases e2 : c = 66
      · exact .inr (.inl e2)
      · by_cases e3 : c = 76
        · exact .inr (.inr (.inl e3))
        · by_cases e4 : c = 82
          · exact .inr (.inr (.inr e4))
          · rw [if_neg e1, if_neg e2, if_neg e3, if_neg e4] at h; cases h
  rcases hc with rfl | rfl | rfl | rfl
  · simp only [Nat.reduceEqDiff, if_true, if_false, Option.some.injEq] at h
    subst h
    obtain ⟨re, im, hr, z1, z2⟩ := h1.csum h2 h3 h4 o1 o2 o3 o4
    have hrun := fun w => run_complex_sum (P := Tryz.prog) w .add (.inl rfl) 55 .f64 a b x y re im hr
    have HF := Hd.mk (show WkC ⟨k.x + k.dx, k.y + k.dy, k.dx, k.dy⟩ _ from ⟨_, _, _, _, rfl, z1, z2, h3, h4⟩)
    clear hr z1 z2 h1 h2 h3 h4 o1 o2 o3 o4 o5 o6 ho
    go_enter Tryz.func43, Tryz.ntmps43
    go_wp2_with fail
    exact bodyPost_ret (results_cell_tmp _ _ _ 4 5 57 (w.heap.size + 1) _ 57 rfl rfl (Blk.new (w.alloc _) _ _ _ (by simp)) (by kernel_rfl) (by kernel_rfl)) rfl ⟨_, HF.out, rfl, ((Upd.refl _ _).alloc _).alloc _⟩
  · simp only [Nat.reduceEqDiff, if_true, if_false, Option.some.injEq] at h
    subst h
    obtain ⟨re, im, hr, z1, z2⟩ := h1.csub h2 h3 h4 o1 o2 o3 o4
    have hrun := fun w => run_complex_sum (P := Tryz.prog) w .sub (.inr rfl) 55 .f64 a b x y re im hr
    have HF := Hd.mk (show WkC ⟨k.x - k.dx, k.y - k.dy, k.dx, k.dy⟩ _ from ⟨_, _, _, _, rfl, z1, z2, h3, h4⟩)
    clear hr z1 z2 h1 h2 h3 h4 o1 o2 o3 o4 o5 o6 ho
    go_enter Tryz.func43, Tryz.ntmps43
    go_wp2_with fail
    exact bodyPost_ret (results_cell_tmp _ _ _ 4 5 57 (w.heap.size + 1) _ 57 rfl rfl (Blk.new (w.alloc _) _ _ _ (by simp)) (by kernel_rfl) (by kernel_rfl)) rfl ⟨_, HF.out, rfl, ((Upd.refl _ _).alloc _).alloc _⟩
  · simp only [Nat.reduceEqDiff, if_true, if_false, Option.some.injEq] at h
    subst h
    obtain ⟨re, im, hr, z1, z2⟩ := h3.cmul h4 Z.o Z.i o5 o6 (.inr ⟨rfl, by unfold small; omega⟩)
    have hrun := fun w => run_complex_mul (P := Tryz.prog) w 55 x y 0 4607182418800017408 re im hr
    have HF := Hd.mk (show WkC ⟨k.x, k.y, -k.dy, k.dx⟩ _ from ⟨_, _, _, _, rfl, h1, h2, (by simpa using z1), (by simpa using z2)⟩)
    clear hr z1 z2 h1 h2 h3 h4 o1 o2 o3 o4 o5 o6 ho
    go_enter Tryz.func43, Tryz.ntmps43
    go_wp2_with fail
    exact bodyPost_ret (results_cell_tmp _ _ _ 4 5 57 (w.heap.size + 1) _ 57 rfl rfl (Blk.new (w.alloc _) _ _ _ (by simp)) (by kernel_rfl) (by kernel_rfl)) rfl ⟨_, HF.out, rfl, ((Upd.refl _ _).alloc _).alloc _⟩
  · simp only [Nat.reduceEqDiff, if_true, if_false, Option.some.injEq] at h
    subst h
    obtain ⟨re, im, hr, z1, z2⟩ := h3.cmul h4 Z.o Z.mi o5 o6 (.inr ⟨rfl, by unfold small; omega⟩)
    have hrun := fun w => run_complex_mul (P := Tryz.prog) w 55 x y 0 13830554455654793216 re im hr
    have HF := Hd.mk (show WkC ⟨k.x, k.y, k.dy, -k.dx⟩ _ from ⟨_, _, _, _, rfl, h1, h2, (by simpa using z1), (by simpa using z2)⟩)
    clear hr z1 z2 h1 h2 h3 h4 o1 o2 o3 o4 o5 o6 ho
    go_enter Tryz.func43, Tryz.ntmps43
    go_wp2_with fail
    exact bodyPost_ret (results_cell_tmp _ _ _ 4 5 57 (w.heap.size + 1) _ 57 rfl rfl (Blk.new (w.alloc _) _ _ _ (by simp)) (by kernel_rfl) (by kernel_rfl)) rfl ⟨_, HF.out, rfl, ((Upd.refl _ _).alloc _).alloc _⟩

theorem step_four {c : Nat} {k : Wk} (h : k.step c = none) : c ≠ 70 ∧ c ≠ 66 ∧ c ≠ 76 ∧ c ≠ 82 := by
  unfold Wk.step at h
  by_cases e1 : c = 70
  · rw [if_pos e1] at h; cases h
  · by_cases e2 : c = 66
    · rw [if_neg e1, if_pos e2] at h; cases h
    · by_cases e3 : c = 76
      · rw [if_neg e1, if_neg e2, if_pos e3] at h; cases h
      · by_cases e4 : c = 82
        · rw [if_neg e1, if_neg e2, if_neg e3, if_pos e4] at h; cases h
        · exact ⟨e1, e2, e3, e4⟩

set_option maxHeartbeats 1000000 in
theorem wstep_none (k : Wk) (c : Nat) (cs : List Value) (w : World) (hv : WkC k cs) (h : k.step c = none) :
    Calls Tryz.prog 43 #[.agg cs.toArray, .int .u8 c] w fun e w' => e = .returned (.tuple #[.agg zeroW.toArray, .bool false]) ∧ Upd [] w w' := by
  obtain ⟨a, b, x, y, rfl, -⟩ := hv
  obtain ⟨e1, e2, e3, e4⟩ := step_four h
  have d1 : ((c : Int) == 70) = false := by simp; omega
  have d2 : ((c : Int) == 66) = false := by simp; omega
  have d3 : ((c : Int) == 76) = false := by simp; omega
  have d4 : ((c : Int) == 82) = false := by simp; omega
  clear e1 e2 e3 e4 h
  go_enter Tryz.func43, Tryz.ntmps43
  go_wp2_with fail
  exact bodyPost_ret (results_cell_tmp _ _ _ 4 5 57 (w.heap.size + 1) zeroW 57 rfl rfl (Blk.new (w.alloc _) zeroW _ _ (by simp)) (by kernel_rfl) (by kernel_rfl)) rfl ⟨rfl, ((Upd.refl _ _).alloc _).alloc _⟩

def newW : List Value := [.complex .f64 0 0, .complex .f64 4607182418800017408 0]
theorem WkC.new : WkC Wk.new newW := ⟨_, _, _, _, rfl, Z.o, Z.o, Z.i, Z.o⟩
theorem wnew_ok (w : World) : Calls Tryz.prog 42 #[] w fun e w' => e = .returned (.agg newW.toArray) ∧ Upd [] w w' := by
  go_enter Tryz.func42, Tryz.ntmps42
  go_wp2_with fail
  exact bodyPost_ret (results_cell _ _ _ 0 57 w.heap.size newW 57 rfl rfl (Blk.new w newW _ _ rfl) (by kernel_rfl) (by kernel_rfl)) rfl ⟨rfl, (Upd.refl _ _).alloc _⟩

/-- So many steps of a text. -/
def steps (l : List UInt8) : Option Wk := l.foldl (fun o c => o.bind fun k => k.step c.toNat) (some Wk.new)
theorem foldl_none (l : List UInt8) : l.foldl (fun (o : Option Wk) c => o.bind fun k => k.step c.toNat) none = none := by
  induction l with
  | nil => rfl
  | cons c l ih => exact ih
theorem steps_snoc (l : List UInt8) (c : UInt8) : steps (l ++ [c]) = (steps l).bind fun k => k.step c.toNat := by
  simp [steps, List.foldl_append]
theorem steps_ok (l : List UInt8) (k : Wk) (h : steps l = some k) : k.ok l.length := by
  induction hn : l.length generalizing l k with
  | zero =>
    have : l = [] := List.eq_nil_of_length_eq_zero hn
    subst this
    cases h
    exact Wk.ok.new
  | succ n ih =>
    have hne : l ≠ [] := by intro e; subst e; cases hn
    rw [← List.dropLast_concat_getLast hne, steps_snoc] at h
    cases hs : steps l.dropLast with
    | none => rw [hs] at h; cases h
    | some k0 =>
      rw [hs] at h
      exact (ih l.dropLast k0 hs (by simp [hn])).step h
theorem steps_take (l m : List UInt8) (h : steps l = none) : steps (l ++ m) = none := by
  unfold steps at h ⊢
  rw [List.foldl_append, h, foldl_none]
def walkM (l : List UInt8) : Option Wk := if l.length ≤ 40 then steps l else none
end Go.Proofs.YtndlbkiogagnaaaGreatDoor

namespace Go.Proofs.YtndlbkiogagnaaaGreatDoor
set_option linter.unusedSimpArgs false
set_option linter.unusedVariables false
set_option linter.unnecessarySimpa false
open Go.RowKit BigFrame

def WalkR (o : Option Wk) (w : World) (e : Ending) (w' : World) : Prop :=
  Upd [] w w' ∧ match o with
    | some k => ∃ cs, WkC k cs ∧ e = .returned (.tuple #[.agg cs.toArray, .bool true])
    | none => e = .returned (.tuple #[.agg zeroW.toArray, .bool false])
theorem WalkR.none {o : Option Wk} {w w' : World} (ho : o = .none) (hu : Upd [] w w') : WalkR o w (.returned (.tuple #[.agg zeroW.toArray, .bool false])) w' := by
  subst ho; exact ⟨hu, rfl⟩
theorem WalkR.some {o : Option Wk} {k : Wk} {cs : List Value} {w w' : World} (ho : o = .some k) (hu : Upd [] w w') (hc : WkC k cs) : WalkR o w (.returned (.tuple #[.agg cs.toArray, .bool true])) w' := by
  subst ho; exact ⟨hu, cs, hc, rfl⟩

set_option maxHeartbeats 2000000 in
theorem walk_ok (s : ByteArray) (w : World) (hs : s.size ≤ 9223372036854775807) :
    Calls Tryz.prog 16 #[.string s] w (WalkR (walkM s.data.toList) w) := by
  have hlen : s.data.toList.length = s.size := by simp
  by_cases hl : 40 < s.size
  · have h0 : walkM s.data.toList = none := by unfold walkM; rw [if_neg (by omega)]
    have H0 := Hd.mk h0
    clear h0 hlen
    go_enter Tryz.func16, Tryz.ntmps16
    go_wp2_with fail
    refine (wnew_ok _).mono ?_
    rintro e w1 ⟨rfl, u1⟩
    have hb := u1.blk (Blk.new w zeroW 57 _ rfl) (by simp)
    have hb0 := hb.cell 0
    have hb1 := hb.cell 1
    have hf0 := hb.free 0
    have hf1 := hb.free 1
    have hz := hb.lt
    have u0 := (Upd.refl [] w).alloc (.cells zeroW.toArray 57)
    simp only [zeroW, List.getElem?_cons_zero, List.getElem?_cons_succ] at hb0 hb1
    simp only [newW]
    have U1 := Hd.mk (u0.trans u1 (by simp))
    have HB := Hd.mk hb
    have hzz : w.heap.size ≠ w1.heap.size := by omega
    clear u0 u1 hb
    go_wp2_with fail
    refine bodyPost_ret (results_cell_tmp _ _ _ 2 3 57 w.heap.size zeroW 57 rfl rfl ?_ (by kernel_rfl) (by kernel_rfl)) rfl (WalkR.none H0.out ?_)
    · exact (((HB.out.set 0 _).set 1 _).as rfl).alloc _
    · exact ((U1.out.set _ _ (by simp)).set _ _ (by simp)).alloc _
  · have hl : s.size ≤ 40 := by omega
    have HM := Hd.mk (show walkM s.data.toList = steps s.data.toList by unfold walkM; rw [if_pos (by omega)])
    have HL := Hd.mk hlen
    clear hlen
    go_enter Tryz.func16, Tryz.ntmps16
    go_wp2_with fail
    refine (wnew_ok _).mono ?_
    rintro e w1 ⟨rfl, u1⟩
    have hb := u1.blk (Blk.new w zeroW 57 _ rfl) (by simp)
    have hz := hb.lt
    have u0 := (Upd.refl [] w).alloc (.cells zeroW.toArray 57)
    simp only [newW]
    have U1 := Hd.mk (u0.trans u1 (by simp))
    have HB := Hd.mk hb
    have hzz : w.heap.size ≠ w1.heap.size := by omega
    clear u0 u1 hb
    go_wp2_with fail
    refine wp_abs (fun W => Blk W w.heap.size zeroW 57 ∧ Blk W w1.heap.size newW 57 ∧ Upd [] w W) ⟨HB.out.alloc _, Blk.new w1 newW _ _ rfl, U1.out.alloc _⟩ ?_
    rintro w2 ⟨b1, b2, u2⟩
    have Y := Hd.mk (show w.heap.size ≤ w1.heap.size from Nat.le_of_lt hz)
    clear U1 HB hz
    generalize w1.heap.size = cb at b2 hzz Y ⊢
    generalize hrb : w.heap.size = rb at b1 hzz ⊢
    have YR := Hd.mk hrb
    clear hrb
    go_loopg [14] s.size (fun g i wr => ∃ (j : Nat) (k : Wk) (cs : List Value), j + g = s.size ∧ i = .int .i64 j ∧ Hd (steps (s.data.toList.take j) = some k) ∧ WkC k cs ∧ Blk wr rb zeroW 57 ∧ Blk wr cb cs 57 ∧ Upd [] w wr)
    case atStart => exact ⟨0, Wk.new, newW, by omega, rfl, Hd.mk rfl, WkC.new, b1, b2, u2⟩
    case round =>
      obtain ⟨j, k, cs, hj, rfl, HS, hv, b1, b2, u2⟩ := hrel
      have hok := (steps_ok _ _ HS.out).more (show _ ≤ 40 by rw [List.length_take]; omega)
      by_cases hlt : j < s.size
      · have HT : Hd (s.data.toList.take (j + 1) = s.data.toList.take j ++ [s[j]]) := Hd.mk (by rw [List.take_succ_eq_append_getElem (by simpa using hlt)]; rfl)
        have hv0 := hv
        obtain ⟨a, b, x, y, rfl, -⟩ := hv0
        have HV := Hd.mk (And.intro b1 (And.intro b2 u2))
        have c0 := b2.cell 0
        have c1 := b2.cell 1
        have f0 := b2.free 0
        have f1 := b2.free 1
        have r0 := b1.cell 0
        have r1 := b1.cell 1
        have q0 := b1.free 0
        have q1 := b1.free 1
        simp only [zeroW, List.getElem?_cons_zero, List.getElem?_cons_succ] at c0 c1 r0 r1
        clear b1 b2 u2
        go_wp2_with fail
        have hidx : (0 : Int) ≤ j := by omega
        have hidx2 : (j : Int) < s.size := by omega
        cases hst : k.step s[j].toNat with
        | none =>
          have HN := Hd.mk (show steps s.data.toList = none by
            have h1 := steps_take (s.data.toList.take (j + 1)) (s.data.toList.drop (j + 1)) (by rw [HT.out, steps_snoc, HS.out]; exact hst)
            rwa [List.take_append_drop] at h1)
          have HST := Hd.mk hst
          clear hst
          go_region_with ((go_at_call 43; refine (wstep_none k _ _ _ hv HST.out).mono ?_; rintro e w4 ⟨rfl, u4⟩; have k1 := u4.blk (HV.out.2.1.drewN 1) (by simp); have m0 := k1.cell 0; have m1 := k1.cell 1; have g0 := k1.free 0; have g1 := k1.free 1; simp only [List.getElem?_cons_zero, List.getElem?_cons_succ] at m0 m1; simp only [zeroW]; have k0 := u4.blk (HV.out.1.drewN 1) (by simp); have s0 := k0.cell 0; have s1 := k0.cell 1; have t0 := k0.free 0; have t1 := k0.free 1; simp only [zeroW, List.getElem?_cons_zero, List.getElem?_cons_succ] at s0 s1; have HK := Hd.mk (And.intro k0 (And.intro k1 u4)); clear k0 k1 u4))
          all_goals
            clear c0 c1 f0 f1 r0 r1 q0 q1
            go_wp2_with fail
            refine bodyPost_ret (results_cell_tmp _ _ _ 2 3 57 rb zeroW 57 rfl rfl ?_ (by kernel_rfl) (by kernel_rfl)) rfl (WalkR.none (HM.out.trans HN.out) ?_)
            · refine Blk.as (cs := (zeroW.set 0 (.complex .f64 0 0)).set 1 (.complex .f64 0 0)) ?_ rfl
              have h := HK.out.1
              repeat (first | with_reducible exact h | with_reducible apply Blk.drewN | with_reducible apply Blk.drew | with_reducible apply Blk.set | ((with_reducible refine Blk.set_ne ?_ _ _ ?hne); (case hne => first | exact hzz | (simp; omega))) | with_reducible apply Blk.alloc)
            · have h := (HV.out.2.2.drew).trans HK.out.2.2 (by simp)
              have y1 := Y.out
              have y2 := YR.out
              repeat (first | with_reducible exact h | ((with_reducible refine Upd.set ?_ _ _ ?hne); (case hne => (simp; omega))) | with_reducible apply Upd.drewN | with_reducible apply Upd.drew | with_reducible apply Upd.alloc)
        | some k' =>
          have HN := Hd.mk (show steps (s.data.toList.take (j + 1)) = some k' by rw [HT.out, steps_snoc, HS.out]; exact hst)
          have HST := Hd.mk hst
          clear hst
          go_region_with ((go_at_call 43; refine (step_some k k' _ _ _ hv hok HST.out).mono ?_; rintro e w4 ⟨cs, hw, rfl, u4⟩; obtain ⟨a', b', x', y', rfl, zz⟩ := hw; have ZZ := Hd.mk zz; clear zz; have k1 := u4.blk (HV.out.2.1.drewN 1) (by simp); have m0 := k1.cell 0; have m1 := k1.cell 1; have g0 := k1.free 0; have g1 := k1.free 1; simp only [List.getElem?_cons_zero, List.getElem?_cons_succ] at m0 m1; have k0 := u4.blk (HV.out.1.drewN 1) (by simp); have HK := Hd.mk (And.intro k0 (And.intro k1 u4)); clear k0 k1 u4))
          all_goals
            clear c0 c1 f0 f1 r0 r1 q0 q1
            go_wp2_with fail
            go_roundg (gk - 1)
            case measure => omega
            case rel =>
              refine ⟨j + 1, k', [.complex .f64 a' b', .complex .f64 x' y'], by omega, by simp, HN, ⟨a', b', x', y', rfl, ZZ.out⟩, ?_, ?_, ?_⟩
              · have h := HK.out.1
                repeat (first | with_reducible exact h | with_reducible apply Blk.drewN | with_reducible apply Blk.drew | with_reducible apply Blk.set | ((with_reducible refine Blk.set_ne ?_ _ _ ?hne); (case hne => first | exact hzz | (simp; omega))) | with_reducible apply Blk.alloc)
              · refine Blk.as (cs := ([.complex .f64 a b, .complex .f64 x y].set 0 (.complex .f64 a' b')).set 1 (.complex .f64 x' y')) ?_ rfl
                have h := HK.out.2.1
                repeat (first | with_reducible exact h | with_reducible apply Blk.drewN | with_reducible apply Blk.drew | with_reducible apply Blk.set | ((with_reducible refine Blk.set_ne ?_ _ _ ?hne); (case hne => first | exact hzz | (simp; omega))) | with_reducible apply Blk.alloc)
              · have h := (HV.out.2.2.drew).trans HK.out.2.2 (by simp)
                have y1 := Y.out
                have y2 := YR.out
                repeat (first | with_reducible exact h | ((with_reducible refine Upd.set ?_ _ _ ?hne); (case hne => (simp; omega))) | with_reducible apply Upd.drewN | with_reducible apply Upd.drew | with_reducible apply Upd.alloc)
      · obtain rfl : j = s.size := by omega
        have HN := Hd.mk (show steps s.data.toList = some k by have h := HS.out; rw [← HL.out, List.take_length] at h; exact h)
        obtain ⟨a, b, x, y, rfl, zz⟩ := hv
        have ZZ := Hd.mk zz
        have HV := Hd.mk (And.intro b1 (And.intro b2 u2))
        have c0 := b2.cell 0
        have c1 := b2.cell 1
        have f0 := b2.free 0
        have f1 := b2.free 1
        have r0 := b1.cell 0
        have r1 := b1.cell 1
        have q0 := b1.free 0
        have q1 := b1.free 1
        simp only [zeroW, List.getElem?_cons_zero, List.getElem?_cons_succ] at c0 c1 r0 r1
        clear b1 b2 u2 zz
        go_wp2_with fail
        refine bodyPost_ret (results_cell_tmp _ _ _ 2 3 57 rb [.complex .f64 a b, .complex .f64 x y] 57 rfl rfl ?_ (by kernel_rfl) (by kernel_rfl)) rfl (WalkR.some (HM.out.trans HN.out) ?_ ⟨a, b, x, y, rfl, ZZ.out⟩)
        · refine Blk.as (cs := (zeroW.set 0 (.complex .f64 a b)).set 1 (.complex .f64 x y)) ?_ rfl
          have h := HV.out.1
          repeat (first | with_reducible exact h | with_reducible apply Blk.drewN | with_reducible apply Blk.drew | with_reducible apply Blk.set | ((with_reducible refine Blk.set_ne ?_ _ _ ?hne); (case hne => first | exact hzz | (simp; omega))) | with_reducible apply Blk.alloc)
        · have h := HV.out.2.2
          have y1 := Y.out
          have y2 := YR.out
          repeat (first | with_reducible exact h | ((with_reducible refine Upd.set ?_ _ _ ?hne); (case hne => (simp; omega))) | with_reducible apply Upd.drewN | with_reducible apply Upd.drew | with_reducible apply Upd.alloc)
end Go.Proofs.YtndlbkiogagnaaaGreatDoor

namespace Go.Proofs.YtndlbkiogagnaaaGreatDoor
set_option linter.unusedSimpArgs false
set_option linter.unusedVariables false
set_option linter.unnecessarySimpa false
open Go.RowKit BigFrame

def Wk.num (k : Wk) : Nat → Int
  | 0 => k.x
  | 1 => k.y
  | 2 => k.dx
  | _ => k.dy
def Wk.upto (k : Wk) : Nat → ByteArray
  | 0 => ⟨#[]⟩
  | j + 1 => (if 0 < j then k.upto j ++ ⟨#[32]⟩ else k.upto j) ++ itoaB (k.num j)
theorem Wk.upto_size (k : Wk) (h : k.ok 41) (j : Nat) : (k.upto j).size ≤ 22 * j := by
  induction j with
  | zero => exact Nat.le_refl _
  | succ j ih =>
    have hb : (itoaB (k.num j)).size ≤ 21 := by
      have hx := h.x
      have hy := h.y
      have hd := h.d
      unfold small at hx hy
      apply itoaB_size
      · unfold Wk.num; split <;> omega
      · unfold Wk.num; split <;> omega
    show ((if 0 < j then k.upto j ++ ⟨#[32]⟩ else k.upto j) ++ itoaB (k.num j)).size ≤ _
    rw [ByteArray.size_append]
    split
    · rw [ByteArray.size_append]
      have : (⟨#[32]⟩ : ByteArray).size = 1 := rfl
      omega
    · omega

set_option maxHeartbeats 2000000 in
theorem wtext_ok (k : Wk) (cs : List Value) (w : World) (hv : WkC k cs) (ho : k.ok 41) (hT : Tab w) :
    Calls Tryz.prog 17 #[.agg cs.toArray] w fun e w' => e = .returned (.string (k.upto 4)) ∧ Upd [] w w' := by
  obtain ⟨a, b, x, y, rfl, h1, h2, h3, h4⟩ := hv
  have o1 := ho.x
  have o2 := ho.y
  have o3 : small 41 k.dx := by have := ho.d; unfold small at *; omega
  have o4 : small 41 k.dy := by have := ho.d; unfold small at *; omega
  have r1 := fun w => run_convert_float_int (P := Tryz.prog) w 106 3 .f64 .i64 a k.x (by kernel_rfl) Tryz.underlying3 (h1.int o1)
  have r2 := fun w => run_convert_float_int (P := Tryz.prog) w 106 3 .f64 .i64 b k.y (by kernel_rfl) Tryz.underlying3 (h2.int o2)
  have r3 := fun w => run_convert_float_int (P := Tryz.prog) w 106 3 .f64 .i64 x k.dx (by kernel_rfl) Tryz.underlying3 (h3.int o3)
  have r4 := fun w => run_convert_float_int (P := Tryz.prog) w 106 3 .f64 .i64 y k.dy (by kernel_rfl) Tryz.underlying3 (h4.int o4)
  unfold small at o1 o2 o3 o4
  have HS := Hd.mk (Wk.upto_size k ho)
  have HT := Hd.mk hT
  clear h1 h2 h3 h4 ho hT
  have i0 : ∀ w, (Instr.index 107 (.agg #[.float .f64 a, .float .f64 b, .float .f64 x, .float .f64 y]) (.int .i64 0)).run Tryz.prog w = .ok (.float .f64 a) w := fun _ => by kernel_rfl
  have i1 : ∀ w, (Instr.index 107 (.agg #[.float .f64 a, .float .f64 b, .float .f64 x, .float .f64 y]) (.int .i64 1)).run Tryz.prog w = .ok (.float .f64 b) w := fun _ => by kernel_rfl
  have i2 : ∀ w, (Instr.index 107 (.agg #[.float .f64 a, .float .f64 b, .float .f64 x, .float .f64 y]) (.int .i64 2)).run Tryz.prog w = .ok (.float .f64 x) w := fun _ => by kernel_rfl
  have i3 : ∀ w, (Instr.index 107 (.agg #[.float .f64 a, .float .f64 b, .float .f64 x, .float .f64 y]) (.int .i64 3)).run Tryz.prog w = .ok (.float .f64 y) w := fun _ => by kernel_rfl
  go_enter Tryz.func17, Tryz.ntmps17
  go_wp2_with fail
  go_loopg [3, 19] 4 (fun g s i wr => ∃ j : Nat, j + g = 4 ∧ s = .string (k.upto j) ∧ i = .int .i64 j ∧ Upd [] w wr)
  case atStart => exact ⟨0, by omega, rfl, rfl, (Upd.refl _ _).alloc _⟩
  case round =>
    obtain ⟨j, hj, rfl, rfl, u⟩ := hrel
    have hj5 : j = 0 ∨ j = 1 ∨ j = 2 ∨ j = 3 ∨ j = 4 := by omega
    have HU := Hd.mk u
    clear u
    rcases hj5 with rfl | rfl | rfl | rfl | rfl
    · have h1 := HS.out 0
      have h2 := itoaB_size (k.x) (by omega) (by omega)
      go_wp2_with fail
      refine (itoa_ok (k.x) _ (by omega) (by omega) (HT.out.upd HU.out)).mono ?_
      rintro e w2 ⟨rfl, u2⟩
      go_wp2_with fail
      go_roundg (gk - 1)
      case measure => omega
      case rel => exact ⟨1, by omega, rfl, rfl, HU.out.trans u2 (by simp)⟩
    · have h1 := HS.out 1
      have h2 := itoaB_size (k.y) (by omega) (by omega)
      go_wp2_with fail
      refine (itoa_ok (k.y) _ (by omega) (by omega) (HT.out.upd HU.out)).mono ?_
      rintro e w2 ⟨rfl, u2⟩
      go_wp2_with fail
      go_roundg (gk - 1)
      case measure => omega
      case rel => exact ⟨2, by omega, rfl, rfl, HU.out.trans u2 (by simp)⟩
    · have h1 := HS.out 2
      have h2 := itoaB_size (k.dx) (by omega) (by omega)
      go_wp2_with fail
      refine (itoa_ok (k.dx) _ (by omega) (by omega) (HT.out.upd HU.out)).mono ?_
      rintro e w2 ⟨rfl, u2⟩
      go_wp2_with fail
      go_roundg (gk - 1)
      case measure => omega
      case rel => exact ⟨3, by omega, rfl, rfl, HU.out.trans u2 (by simp)⟩
    · have h1 := HS.out 3
      have h2 := itoaB_size (k.dy) (by omega) (by omega)
      go_wp2_with fail
      refine (itoa_ok (k.dy) _ (by omega) (by omega) (HT.out.upd HU.out)).mono ?_
      rintro e w2 ⟨rfl, u2⟩
      go_wp2_with fail
      go_roundg (gk - 1)
      case measure => omega
      case rel => exact ⟨4, by omega, rfl, rfl, HU.out.trans u2 (by simp)⟩
    · go_wp2_with fail
      go_ret
      exact ⟨rfl, HU.out⟩
end Go.Proofs.YtndlbkiogagnaaaGreatDoor

namespace Go.Proofs.YtndlbkiogagnaaaGreatDoor
set_option linter.unusedSimpArgs false
set_option linter.unusedVariables false
set_option linter.unnecessarySimpa false
open Go.RowKit BigFrame

def u8s (l : Bs) : List Value := (l.map fun c => c.toNat).map B8
theorem u8s_snoc (l : Bs) (c : UInt8) : u8s (l ++ [c]) = u8s l ++ [.int .u8 c.toNat] := by simp [u8s, B8]
theorem u8map (l : Bs) : ((l.map fun c => c.toNat).map UInt8.ofNat) = l := by
  rw [List.map_map]
  conv => rhs; rw [← List.map_id l]
  apply List.map_congr_left
  intro c _
  simp
set_option maxRecDepth 100000 in
set_option maxHeartbeats 4000000 in
theorem turn_plain (s : ByteArray) (w : World) (hs : s.size ≤ 100000) (h : (37 : UInt8) ∉ s.data.toList) :
    Calls Tryz.prog 51 #[.string s] w fun e w' => e = .returned (.tuple #[.string s, .bool true]) ∧ Upd [] w w' := by
  have HNO := Hd.mk h
  clear h
  go_enter Tryz.func51, Tryz.ntmps51
  go_upto_region 3 with (fail)
  go_loopg [4, 5, 6, 7] s.size (fun g s4 s5 s6 s7 wr => ∃ i : Nat, g + i = s.size ∧ s5 = .int .i64 i ∧ Hd (Bld w wr 5 1 s4 i (u8s (s.data.toList.take i))))
  case atStart => exact ⟨0, by omega, rfl, Hd.mk (Bld.nil (Upd.refl _ _) _ _)⟩
  case round =>
    obtain ⟨i, hg, rfl, HB⟩ := hrel
    obtain ⟨va, vc, rfl⟩ := HB.out.sl.form
    have HG := Hd.mk hg
    clear hg
    by_cases hi : i < s.size
    · have h' : i < s.data.toList.length := by rw [Array.length_toList]; exact hi
      obtain ⟨c, hc⟩ : ∃ c, s[i] = c := ⟨_, rfl⟩
      have HT := Hd.mk (show s.data.toList.take (i + 1) = s.data.toList.take i ++ [c] by
        rw [List.take_succ_eq_append_getElem h', ← hc]; rfl)
      have hne : c ≠ 37 := fun e => HNO.out (by
        rw [← e, ← hc]
        exact List.getElem_mem h')
      have q1 : ((c.toNat : Int) != 37) = true := by
        simp only [bne_iff_ne, ne_eq]
        exact fun e => hne (UInt8.toNat_inj.1 (show c.toNat = 37 by omega))
      have q3 : ¬ (c.toNat : Int) = 37 := by simpa using q1
      have hsl := HB.out.sl
      clear hne
      go_wp2_with (at_builtin; refine wpList_append_row rfl (.tmp 18) (.tmp 22) 116 rfl rfl 5 (.int .u8 0) 1 1 Tryz.underlying116 (by kernel_rfl) rfl _ _ _ rfl hsl [.int .u8 c.toNat] rfl rfl rfl (by omega) (by omega) ?_)
      intro v7 w7 s7 u7 o7
      have HB := Hd.mk (HB.out.app s7 u7 o7)
      obtain ⟨a7, c7, rfl⟩ := s7.form
      clear s7 u7 o7 hsl
      go_wp2_with fail
      go_roundg (gk - 1)
      case measure => have := HG.out; omega
      case rel => exact ⟨i + 1, by have := HG.out; omega, by go_num, Hd.mk (by
          have := HB.out
          rw [HT.out, u8s_snoc]
          exact this)⟩
    · obtain rfl : i = s.size := by have := HG.out; omega
      have hcv := run_string_sl (P := Tryz.prog) 116 5 Tryz.underlying116 Tryz.underlying5 HB.out.sl 9 Tryz.underlying9
      rw [u8map, List.take_of_length_le (by rw [Array.length_toList]; exact Nat.le_refl _), mk_data] at hcv
      clear hi HG
      go_wp2_with fail
      go_ret2
      exact ⟨rfl, HB.out.upd⟩
/-- A target's segments (of targets without %). -/
def splitU (u : Bs) : Option (List Bs) := match u with
  | [] => none
  | c :: r => if c ≠ 47 then none else if r = [] then some [] else if 8 < (splitL 47 r).length then none else some (splitL 47 r)
def splitT (t : Bs) : Option (List Bs) := splitU ((splitL 63 t).headD [])
def SplitQ (R : Option (List Bs)) (w : World) (e : Ending) (w' : World) : Prop := ∃ v, e = .returned (.tuple #[v, .bool R.isSome]) ∧ Bld w w' 9 1 v (R.getD []).length ((R.getD []).map S)
theorem Bld.storeIn {w W : World} {e : TypeId} {g o n cap : Nat} {xs : List Value} (h : Bld w W e 1 (.slice (some ⟨g, o, none⟩) n cap) n xs) (i : Nat) (hi : i < n) (x : Value) : Bld w (W.setCell ⟨g, o + i, none⟩ x) e 1 (.slice (some ⟨g, o, none⟩) n cap) n (xs.set i x) :=
  ⟨h.sl.set i hi x, h.own, h.upd.set _ _ (fun hlt => by have := h.own g (by simp [ownB]); simp at hlt; omega)⟩
theorem splitL_sub (c : UInt8) : ∀ (l : Bs), ∀ x ∈ splitL c l, ∀ b ∈ x, b ∈ l
  | [], x, hx, b, hb => by simp [splitL] at hx; subst hx; cases hb
  | a :: r, x, hx, b, hb => by
    have ih := splitL_sub c r
    rw [splitL_cons] at hx
    split at hx
    · rcases List.mem_cons.1 hx with e | e
      · subst e; cases hb
      · exact List.mem_cons_of_mem _ (ih x e b hb)
    · cases hs : splitL c r with
      | nil => exact absurd hs (splitL_ne c r)
      | cons y t =>
        rw [hs] at hx ih
        simp only [glue] at hx
        rcases List.mem_cons.1 hx with e | e
        · subst e
          rcases List.mem_cons.1 hb with rfl | hb
          · simp
          · exact List.mem_cons_of_mem _ (ih y (by simp) b hb)
        · exact List.mem_cons_of_mem _ (ih x (by simp [e]) b hb)
set_option maxRecDepth 100000 in
set_option maxHeartbeats 4000000 in
theorem split_plain (t : Bs) (w : World) (hs : t.length ≤ 100000) (h : (37 : UInt8) ∉ t) : Calls Tryz.prog 26 #[S t] w (SplitQ (splitT t) w) := by
  obtain ⟨tb, ht, htx, htz⟩ : ∃ tb : ByteArray, S t = .string tb ∧ tb.data.toList = t ∧ tb.size = t.length := ⟨⟨t.toArray⟩, rfl, by simp, by simp [ByteArray.size]⟩
  have HW := Hd.mk (fun W => words_ok tb 63 W (by omega))
  rw [htx] at HW
  rw [ht]
  obtain ⟨u, us, hu⟩ : ∃ u us, splitL 63 t = u :: us := by
    cases hq : splitL 63 t with
    | nil => exact absurd hq (splitL_ne 63 t)
    | cons a b => exact ⟨a, b, rfl⟩
  have HSP := Hd.mk (show splitT t = splitU u by unfold splitT; rw [hu]; rfl)
  have hul : u.length ≤ t.length := (splitL_le 63 t).2 u (by rw [hu]; simp)
  have hno : (37 : UInt8) ∉ u := fun e => h (splitL_sub 63 t u (by rw [hu]; simp) _ e)
  have HNO := Hd.mk hno
  rw [hu] at HW
  generalize splitT t = R at *
  clear hno h hu htx ht
  go_enter Tryz.func26, Tryz.ntmps26
  go_wp2_with fail
  refine (HW.out _).mono ?_
  rintro e w1 ⟨wv, rfl, hb⟩
  obtain ⟨g, o, cp, rfl, -, -, hc⟩ := hb.sl.some (by simp)
  have k0 := hc 0 (by simp)
  simp only [Ss, List.map_cons, List.getElem?_cons_zero, Nat.add_zero] at k0
  have HU := Hd.mk hb.upd
  obtain ⟨ub, hub, hux, huz⟩ : ∃ tb : ByteArray, S u = .string tb ∧ tb.data.toList = u ∧ tb.size = u.length := ⟨⟨u.toArray⟩, rfl, by simp, by simp [ByteArray.size]⟩
  rw [hub] at k0
  have HUX := Hd.mk hux
  simp only [List.length_cons]
  have hpos : 0 < us.length + 1 := by omega
  clear hb hc hub hux HW
  cases u with
  | nil =>
    obtain rfl : ub = ⟨#[]⟩ := toList_inj (by rw [HUX.out])
    have y := str_eq0 (rfl : (⟨#[]⟩ : ByteArray) = ⟨#[]⟩)
    go_wp2_with fail
    go_ret2
    rw [HSP.out]
    exact ⟨_, rfl, Bld.nil HU.out _ _⟩
  | cons c r =>
    have hne : ub ≠ ⟨#[]⟩ := fun e => by have h1 := HUX.out; rw [e] at h1; cases h1
    have y := str_ne0 hne
    have hz : 0 < ub.size := by rw [huz]; simp
    obtain ⟨c', hc'⟩ : ∃ c', ub[0] = c' := ⟨_, rfl⟩
    have hcc : c' = c := by
      have h1 : ub.data.toList[0]? = some c := by rw [HUX.out]; rfl
      have h' : 0 < ub.data.toList.length := by rw [Array.length_toList]; exact hz
      rw [List.getElem?_eq_getElem h'] at h1
      rw [← hc']
      exact Option.some.inj h1
    subst hcc
    clear hne
    by_cases c1 : c' = 47
    rotate_left
    · have q1 : ((c'.toNat : Int) != 47) = true := by
        simp only [bne_iff_ne, ne_eq]
        exact fun e => c1 (UInt8.toNat_inj.1 (show c'.toNat = 47 by omega))
      have q3 : ¬ (c'.toNat : Int) = 47 := by simpa using q1
      have HE := Hd.mk (show R = none by rw [HSP.out]; unfold splitU; simp only; rw [if_pos c1])
      clear c1
      go_wp2_with fail
      go_ret2
      rw [HE.out]
      exact ⟨_, rfl, Bld.nil HU.out _ _⟩
    · have q1 : ((c'.toNat : Int) != 47) = false := by rw [c1]; rfl
      have q3 : (c'.toNat : Int) = 47 := by rw [c1]; rfl
      have HC := Hd.mk (show ub.data.toList = 47 :: r by rw [HUX.out, c1])
      have HSP := Hd.mk (show R = if r = [] then some [] else if 8 < (splitL 47 r).length then none else some (splitL 47 r) by rw [HSP.out]; unfold splitU; simp only; rw [if_neg (by simpa using c1)])
      by_cases hr0 : r = []
      · have he : ub = ⟨#[47]⟩ := toList_inj (by rw [HC.out, hr0])
        have y2 := lit_yes (a := ub) (l := [47]) (by rw [HC.out, hr0])
        have HE := Hd.mk (show R = some [] by rw [HSP.out, if_pos hr0])
        clear he hr0 c1
        go_wp2_with fail
        go_ret2
        rw [HE.out]
        exact ⟨_, rfl, Bld.nil HU.out _ _⟩
      have y2 := lit_no (a := ub) (l := [47]) (by rw [HC.out]; simpa using hr0)
      have HSP := Hd.mk (show R = if 8 < (splitL 47 r).length then none else some (splitL 47 r) by rw [HSP.out, if_neg hr0])
      have h1' : (1 : Int) ≤ (ub.size : Int) := by omega
      obtain ⟨rb, hrb⟩ : ∃ rb, ub.extract 1 ub.size = rb := ⟨_, rfl⟩
      have HRB := Hd.mk (show rb.data.toList = r by rw [← hrb]; exact tail_S 47 r ub HC.out)
      have hrz : rb.size = r.length := by have h2 := congrArg List.length HRB.out; simpa using h2
      have HW2 := Hd.mk (fun W => words_ok rb 47 W (by have h3 : (c' :: r).length = r.length + 1 := rfl; omega))
      rw [HRB.out] at HW2
      have HSL := Hd.mk (splitL_le 47 r)
      have HSB := Hd.mk (splitL_sub 47 r)
      have hrl : r.length ≤ 100000 := by have h3 : (c' :: r).length = r.length + 1 := rfl; omega
      have HZ := Hd.mk hrl
      have HNR := Hd.mk (show (37 : UInt8) ∉ r from fun e => HNO.out (List.mem_cons_of_mem _ e))
      generalize splitL 47 r = l at *
      clear hr0 c1
      have HUL := Hd.mk (And.intro hul huz)
      clear hul huz
      go_wp2_with fail
      refine (HW2.out _).mono ?_
      rintro e w2 ⟨lv, rfl, hb2⟩
      obtain ⟨la, lc, rfl⟩ := hb2.sl.form
      have HB2 := Hd.mk (show Bld w w2 9 1 (.slice la l.length lc) l.length (l.map S) from ⟨hb2.sl, fun k hk => by have := hb2.own k hk; have := HU.out.size; omega, HU.out.trans hb2.upd (by simp)⟩)
      clear hb2 HW2
      by_cases h8 : 8 < l.length
      · have d0 : decide ((8 : Int) < l.length) = true := decide_eq_true (by omega)
        have HE := Hd.mk (show R = none by rw [HSP.out, if_pos h8])
        clear h8
        go_wp2_with fail
        go_ret2
        rw [HE.out]
        exact ⟨_, rfl, Bld.nil HB2.out.upd _ _⟩
      have d0 : decide ((8 : Int) < l.length) = false := decide_eq_false (by omega)
      have HE := Hd.mk (show R = some l by rw [HSP.out, if_neg h8])
      clear h8
      have hll : l.length ≤ 100001 := by have := HSL.out.1; omega
      go_upto_region 10 with (fail)
      clear d0
      go_loopg [5, 6, 7, 8, 30] l.length (fun g s5 s6 s7 s8 ii wr => ∃ i : Nat, g + i = l.length ∧ ii = .int .i64 i ∧ Hd (Bld w wr 9 1 (.slice la l.length lc) l.length (l.map S)))
      case atStart => exact ⟨0, by omega, rfl, HB2⟩
      case round =>
        obtain ⟨i, hg, rfl, HB⟩ := hrel
        have HG := Hd.mk hg
        clear hg
        by_cases hi : i < l.length
        · obtain ⟨g2, o2, cp2, hv, -, -, hc2⟩ := HB.out.sl.some (by omega)
          simp only [Value.slice.injEq, true_and] at hv
          obtain ⟨rfl, rfl⟩ := hv
          have m0 := hc2 i (by omega)
          rw [List.getElem?_map, List.getElem?_eq_getElem hi] at m0
          have hin := List.getElem_mem hi
          have HXL := Hd.mk (HSL.out.2 _ hin)
          have HXN := Hd.mk (show (37 : UInt8) ∉ l[i] from fun e => HNR.out (HSB.out _ hin _ e))
          have HSET := Hd.mk (show (l.map S).set i (S l[i]) = l.map S by
            apply List.ext_getElem?
            intro j
            rw [List.getElem?_set]
            by_cases e : i = j
            · subst e; simp [hi]
            · simp [e])
          generalize l[i] = x at m0 HXL HXN HSET
          rw [Option.map_some] at m0
          obtain ⟨xb, hx, hxx, hxz⟩ : ∃ tb : ByteArray, S x = .string tb ∧ tb.data.toList = x ∧ tb.size = x.length := ⟨⟨x.toArray⟩, rfl, by simp, by simp [ByteArray.size]⟩
          rw [hx] at m0 HSET
          have HTN := Hd.mk (fun W => turn_plain xb W (by have := HXL.out; omega) (by rw [hxx]; exact HXN.out))
          have fr := HB.out.sl.free (o2 + i)
          clear hc2 hin hx hxx hxz
          go_wp2_with fail
          refine (HTN.out _).mono ?_
          rintro e w3 ⟨rfl, u3⟩
          have HB := Hd.mk (HB.out.over u3)
          have m0 := (u3.cell (p := ⟨g2, _, none⟩) (block_lt_of_cell m0) (by simp)).trans m0
          have fr := HB.out.sl.free (o2 + i)
          clear u3
          go_wp2_with fail
          go_roundg (gk - 1)
          case measure => have := HG.out; omega
          case rel => exact ⟨i + 1, by have := HG.out; omega, by go_num, Hd.mk (by
              have := HB.out.storeIn i hi (.string xb)
              rw [HSET.out] at this
              exact this)⟩
        · obtain rfl : i = l.length := by have := HG.out; omega
          clear hi HG
          go_wp2_with fail
          go_ret2
          rw [HE.out]
          exact ⟨_, rfl, HB.out⟩
end Go.Proofs.YtndlbkiogagnaaaGreatDoor

namespace Go.Proofs.YtndlbkiogagnaaaGreatDoor
set_option linter.unusedSimpArgs false
set_option linter.unusedVariables false
set_option linter.unnecessarySimpa false
section
variable {P : Program} {ops : Array Oper} {md : Region.Mode} {C : World → Prop}

theorem headAny_first' {n i : Nat} {oi : Oper} {v : Value} {L : Array Bool → Act → Prop} (hi : ops[i]? = some oi) (hsel : ∀ (j : Nat) (o : Oper) cs b, ops[j]? = some o → o.op ≠ .select cs b)
    (htw : ∀ ls, HeadInv md ops n ls → ∀ i, i < n → ls.getD i true = false → ∀ t, n ≤ t → t ∉ Region.ready md ops ls) (hin : i < n)
    (hdone : ∀ ls a, L ls a → ∀ j ∈ Region.ready md ops ls, n ≤ j) (f : Nat) :
    ∀ (ls : Array Bool) (a : Act), HeadInv md ops n ls →
      (∀ j oj, ops[j]? = some oj → j ≠ i → ls.getD j true = false → (∀ e ∈ oj.after, Region.binds md e = true → e.on ≠ i) → oi.apart ops oj = true) →
      i ∈ Region.ready md ops ls → YieldsIn P ops C oi v a →
      headAny P md ops C n L f (ls.setIfInBounds i true) (a.put oi.dst v) → headAny P md ops C n L (f + 1) ls a := by
  induction f with
  | zero =>
    intro ls a inv _ hr hy H
    refine ⟨fun h => (by rw [h] at hr; cases hr), fun j hj => ?_⟩
    have hjn : j < n := by
      apply Classical.byContradiction
      intro h
      exact absurd hj (htw _ inv i hin (mem_ready.1 hr).1 j (by omega))
    refine ⟨hjn, ?_⟩
    by_cases hji : j = i
    · rw [hji]; exact hy.qOp hi H
    · exact absurd (hdone _ _ H j (ready_mono hj hji)) (by omega)
  | succ f ih =>
    intro ls a inv hfree hr hy H
    have hun := (mem_ready.1 hr).1
    refine ⟨fun h => (by rw [h] at hr; cases hr), fun j hj => ?_⟩
    have hjn : j < n := by
      apply Classical.byContradiction
      intro h
      exact absurd hj (htw _ inv i hin hun j (by omega))
    refine ⟨hjn, ?_⟩
    by_cases hji : j = i
    · rw [hji]; exact hy.qOp hi H
    · obtain ⟨hjun, oj, hoj, hall⟩ := mem_ready.1 hj
      have hnot : ∀ e ∈ oj.after, Region.binds md e = true → e.on ≠ i := fun e he hb heq => by
        have := hall e he hb
        rw [heq, getD_both hun] at this
        cases this
      have h2 := qOp_put hoj (hfree j oj hoj hji hjun hnot) (fun cs b => hsel i oi cs b hi) (fun cs b => hsel j oj cs b hoj) hy (H.2 j (ready_mono hj hji)).2
      refine qOp_mono (fun a' h3 => ?_) h2
      refine ih (ls.setIfInBounds j true) a' (inv.set hj hjn) (fun k ok hk hki hu hno => hfree k ok hk hki ?_ hno) (ready_mono hr (Ne.symm hji)) h3.1 ?_
      · by_cases hjk : j = k
        · rw [← hjk]; exact hjun
        · rwa [getD_set_ne true hjk] at hu
      · rw [Array.setIfInBounds_comm _ _ hji]; exact h3.2
/-- The operations from k on, in the order of the text; then fin. -/
def lexF (md : Region.Mode) (ops : Array Oper) (fin : Array Bool → Bool) : Nat → Nat → Array Bool → Bool
  | 0, _, ls => fin ls
  | f + 1, k, ls => (Region.ready md ops ls).contains k && Region.free md ops ls k && lexF md ops fin f (k + 1) (ls.setIfInBounds k true)
theorem headAny_lex' {n : Nat} {fin : Array Bool → Bool} {Lq : Act → Prop} (hsel : Region.noSelect ops = true)
    (htw : ∀ ls, HeadInv md ops n ls → ∀ i, i < n → ls.getD i true = false → ∀ t, n ≤ t → t ∉ Region.ready md ops ls) (hfin : ∀ ls, fin ls = true → ∀ j ∈ Region.ready md ops ls, n ≤ j) (l : List Oper) :
    ∀ (k : Nat) (ls : Array Bool) (a : Act), (∀ j, j < l.length → l[j]? = ops[k + j]?) → k + l.length = n → HeadInv md ops n ls →
    lexF md ops fin l.length k ls = true → wpQuiet P ops C Lq l a →
    headAny P md ops C n (fun ls' a' => (fin ls' = true ∧ Lq a') ∧ HeadInv md ops n ls') l.length ls a := by
  induction l with
  | nil =>
    intro k ls a _ hk inv hB h
    exact ⟨⟨by simpa [lexF] using hB, h⟩, inv⟩
  | cons o l ih =>
    intro k ls a hl hk inv hB h
    have h0 : ops[k]? = some o := by simpa using (hl 0 (by simp)).symm
    simp only [List.length_cons, lexF, Bool.and_eq_true] at hB hk
    have hr' : k ∈ Region.ready md ops ls := by simpa using hB.1.1
    have hst : qOp P ops C k (wpQuiet P ops C Lq l) a := by unfold qOp; simp only [h0]; exact h
    obtain ⟨v, hy, hK⟩ := yieldsIn_of_qOp h0 hst
    refine headAny_first' h0 (Region.noSelect_spec hsel) htw (by omega) (fun ls' a' hL => hfin _ hL.1.1) l.length ls a inv (Region.free_spec h0 hB.1.2) hr' hy ?_
    refine ih (k + 1) _ _ (fun j hj => ?_) (by omega) (inv.set hr' (by omega)) hB.2 hK
    have := hl (j + 1) (by simp; omega)
    simpa [Nat.add_assoc, Nat.add_comm 1 j] using this
/-- Operation q parts the region. -/
def Region.partB (md : Region.Mode) (ops : Array Oper) (q : Nat) : Bool :=
  (List.range ops.size).all fun t => decide (t ≤ q) || (List.range t).any fun j => decide (q ≤ j) && Region.waitsFor md ops t j
theorem part_waits {q : Nat} (hs : Region.sinkB md ops q = true) (hp : Region.partB md ops q = true) (ls : Array Bool) (inv : HeadInv md ops q ls) :
    ∀ (i : Nat), i < q → ls.getD i true = false → ∀ t, q ≤ t → t ∉ Region.ready md ops ls := by
  have hq : ∀ d i, q - i = d → i < q → ls.getD i true = false → q ∉ Region.ready md ops ls := by
    intro d
    induction d using Nat.strongRecOn with
    | _ d ih =>
      intro i hd hi hun hr
      obtain ⟨_, ot, hot, hall⟩ := mem_ready.1 hr
      have h1 := List.all_eq_true.1 hs i (List.mem_range.2 hi)
      obtain ⟨j, hj, hj2⟩ := List.any_eq_true.1 h1
      simp only [Bool.and_eq_true, decide_eq_true_eq] at hj2
      obtain ⟨oj, hoj, e, he, hb, hon⟩ := Region.waitsFor_spec hj2.2
      have hjle : j ≤ q := by have := List.mem_range.1 hj; omega
      by_cases hjt : j = q
      · subst hjt
        have : oj = ot := Option.some.inj (hoj.symm.trans hot)
        subst this
        have h2 := hall e he hb
        rw [hon, getD_both hun] at h2
        cases h2
      · cases hl : ls.getD j false with
        | true =>
          have h2 := inv.closed j oj hoj hl e he hb
          rw [hon, getD_both hun] at h2
          cases h2
        | false =>
          have hqs : q < ops.size := (Array.getElem?_eq_some_iff.1 hot).1
          have hjs : j < ls.size := by rw [inv.size]; omega
          exact ih (q - j) (by omega) j rfl (by omega) (getD_in hjs hl) hr
  intro i hi hun t ht hr
  by_cases htq : t = q
  · subst htq
    exact hq _ i rfl hi hun hr
  · obtain ⟨_, ot, hot, hall⟩ := mem_ready.1 hr
    have htlt : t < ops.size := (Array.getElem?_eq_some_iff.1 hot).1
    have h1 := List.all_eq_true.1 hp t (List.mem_range.2 htlt)
    simp only [Bool.or_eq_true, decide_eq_true_eq] at h1
    rcases h1 with h1 | h1
    · omega
    · obtain ⟨j, hj, hj2⟩ := List.any_eq_true.1 h1
      simp only [Bool.and_eq_true, decide_eq_true_eq] at hj2
      obtain ⟨o', ho', e, he, hb, hon⟩ := Region.waitsFor_spec hj2.2
      have : o' = ot := Option.some.inj (ho'.symm.trans hot)
      subst this
      have h2 := hall e he hb
      have hjl := List.mem_range.1 hj
      rw [hon, getD_both (inv.tail j hj2.1 (by omega))] at h2
      cases h2
def Region.midB (md : Region.Mode) (ops : Array Oper) (q : Nat) : Bool :=
  Region.noSelect ops && decide (q < ops.size) && Region.sinkB md ops q && Region.partB md ops q &&
    lexF md ops (fun ls => decide (Region.ready md ops ls = [q]) && lexF md ops (fun ls' => (Region.ready md ops ls').isEmpty) (ops.size - (q + 1)) (q + 1) (ls.setIfInBounds q true)) q 0 (Array.replicate ops.size false)
theorem end_waits (ls : Array Bool) (_ : HeadInv md ops ops.size ls) : ∀ (i : Nat), i < ops.size → ls.getD i true = false → ∀ t, ops.size ≤ t → t ∉ Region.ready md ops ls := by
  intro i _ _ t ht hr
  obtain ⟨_, ot, hot, _⟩ := mem_ready.1 hr
  have := (Array.getElem?_eq_some_iff.1 hot).1
  omega
theorem wp_cls_mid (R : World → Prop) {id : Nat} {Q : Exit → Act → World → Prop} {a : Act} {w : World} {l : List Oper} (q : Nat) (oq : Oper) (f : FuncId) (xs : Array Operand) (ts : Array TypeId)
    (hoq : l[q]? = some oq) (hgd : oq.guard = none) (ho : oq.op = .call { callee := .value (.func f), args := xs, argTypes := ts }) (hC : R w.drew) (hm : P.follows .mixedOrders = true) (hB : Region.midB .any l.toArray q = true)
    (h : Nonempty (Cls R) → wpQuiet P l.toArray (fun w' => ∃ x : Cls R, w' = x.w) (fun a' => ∃ vals : Array Value, xs.map a'.eval = vals ∧ (∀ W, (callFunc f (#[] ++ vals ++ #[])).run P W = .ok (.enter f vals) W) ∧
      ∀ w', R w' → Calls P f vals w' fun e w'' => ∃ v, e = .returned v ∧ wpQuiet P l.toArray (fun W => W = w'') (fun a3 => Q .normal a3 w'') (l.drop (q + 1)) (a'.put oq.dst v)) (l.take q) a) : (Code.region id l.toArray true).wp P Q a w := by
  have h := h ⟨⟨_, hC⟩⟩
  simp only [Region.midB, Bool.and_eq_true, decide_eq_true_eq] at hB
  obtain ⟨⟨⟨⟨hsel, hn⟩, hs⟩, hp⟩, hlex⟩ := hB
  have hn' : q < l.length := by simpa using hn
  have htl : (l.take q).length = q := by simp; omega
  have inv0 : HeadInv .any l.toArray q (Array.replicate l.toArray.size false) :=
    ⟨by simp, fun j oj _ hl => (by rw [getD_replicate_false] at hl; cases hl), fun t _ ht => getD_in (by simpa using ht) (getD_replicate_false _ _)⟩
  have H := headAny_lex' (md := .any) (C := fun w' => ∃ x : Cls R, w' = x.w) (n := q)
    (fin := fun ls => decide (Region.ready .any l.toArray ls = [q]) && lexF .any l.toArray (fun ls' => (Region.ready .any l.toArray ls').isEmpty) (l.toArray.size - (q + 1)) (q + 1) (ls.setIfInBounds q true))
    hsel (part_waits hs hp) (fun ls hf j hj => by
      simp only [Bool.and_eq_true, decide_eq_true_eq] at hf
      rw [hf.1] at hj
      have : j = q := by simpa using hj
      omega) (l.take q) 0 _ a (fun j hj => by
      have hj' : j < q := by rw [htl] at hj; exact hj
      simp [hj']) (by simpa using htl) inv0 (by rw [htl]; exact hlex) h
  refine wp_region_any hm ?_
  have := headAny_sound (Q' := Q) (g := (l.toArray.size - (q + 1)) + 1) (fun ls a' w' hw' hL => by
    obtain ⟨⟨hf, vals, hv, hent, hcl⟩, inv⟩ := hL
    simp only [Bool.and_eq_true, decide_eq_true_eq] at hf
    obtain ⟨x, rfl⟩ := hw'
    have hrq : q ∈ Region.ready .any l.toArray ls := by rw [hf.1]; simp
    refine ⟨fun h0 => (by rw [hf.1] at h0; cases h0), fun i hi => ?_⟩
    rw [hf.1] at hi
    obtain rfl : i = q := by simpa using hi
    have h0 : l.toArray[i]? = some oq := by simpa using hoq
    have hw : Region.wanted oq (yielded l.toArray a'.tmps) = true := by simp [Region.wanted, hgd]
    unfold wpOp
    simp only [h0]
    rw [if_pos hw]
    refine .inl ?_
    have key : (execOp a'.eval oq).run P x.w = .ok (.enter f (xs.map a'.eval)) x.w := by
      rw [hv, ← hent]
      cases oq
      simp only at ho
      subst ho
      subst hv
      rfl
    unfold Oper.wp
    rw [key, hv]
    refine (hcl x.w x.ok).mono ?_
    rintro e w'' ⟨v, rfl, hq⟩
    -- behind the call
    have hmem := mem_ready.1 hrq
    have inv2 : HeadInv .any l.toArray l.toArray.size (ls.setIfInBounds i true) := by
      obtain ⟨_, oi, hoi, hall⟩ := hmem
      refine ⟨by simp [inv.size], fun j oj hj hl e he hb => ?_, fun t h1 h2 => by omega⟩
      by_cases hij : i = j
      · subst hij
        have : oj = oi := Option.some.inj (hj.symm.trans hoi)
        subst this
        exact getD_set_true (hall e he hb)
      · rw [getD_set_ne false hij] at hl
        exact getD_set_true (inv.closed j oj hj hl e he hb)
    have hdl : (l.drop (i + 1)).length = l.toArray.size - (i + 1) := by simp
    have H2 := headAny_lex' (md := .any) (C := fun W => W = w'') (n := l.toArray.size) (fin := fun ls' => (Region.ready .any l.toArray ls').isEmpty) hsel end_waits (fun ls hf j hj => by
      simp only [List.isEmpty_iff] at hf
      rw [hf] at hj; cases hj) (l.drop (i + 1)) (i + 1) (ls.setIfInBounds i true) _ (fun j _ => by simp [List.getElem?_drop]) (by rw [hdl]; omega) inv2 (by rw [hdl]; exact hf.2) hq
    have H3 := headAny_sound (P := P) (md := .any) (ops := l.toArray) (C := fun W => W = w'') (n := l.toArray.size) (L := fun ls' a3 => ((Region.ready .any l.toArray ls').isEmpty = true ∧ Q .normal a3 w'') ∧ HeadInv .any l.toArray l.toArray.size ls') (Q' := Q) (g := 0) (fun ls' a3 w3 hw3 hL3 => by
      have hr := hL3.1.1
      simp only [List.isEmpty_iff] at hr
      subst hw3
      exact ⟨hr, hL3.1.2⟩) _ _ _ w'' rfl H2
    rw [hdl, Nat.add_zero] at H3
    exact H3) _ _ _ _ ⟨⟨_, hC⟩, rfl⟩ H
  rw [htl, show q + (l.toArray.size - (q + 1) + 1) = l.toArray.size by omega] at this
  exact this
end
end Go.Proofs.YtndlbkiogagnaaaGreatDoor
