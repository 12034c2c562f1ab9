/- A request's text. -/
import Derived.Test.YtlhkckgfhlflkaaDoorC1
namespace Go.Proofs.YtlhkckgfhlflkaaDoor
set_option linter.unusedSimpArgs false
set_option linter.unusedVariables false
set_option linter.unnecessarySimpa false
open Go.RowKit BigFrame

/-- A request, plainly. -/
structure Rq where
  m : Bs
  t : Bs
  fields : List (Bs × Bs)
  body : Bs
  close : Bool
def Rq.cells (q : Rq) (a : Option Addr) (cap : Nat) : List Value := [S q.m, S q.t, .slice a q.fields.length cap, S q.body, .bool q.close]
def hostB : Bs := [104, 111, 115, 116]
def http2 : Bs := [32, 72, 84, 84, 80, 47, 49, 46, 49]
def hostLine : Bs := [104, 111, 115, 116, 58, 32, 99, 114, 111, 115, 115, 114, 111, 97, 100]
/-- What Text writes. -/
def textA (q : Rq) : Bs := q.m ++ 32 :: q.t ++ (http2 ++ crlf) ++ (if allL q.fields hostB = [] then hostLine ++ crlf else [])
def textB (q : Rq) : Bs := (if q.close = true then connClose ++ crlf else []) ++ (if q.body = [] then [] else contLen ++ 58 :: 32 :: Lib.decDigits q.body.length ++ crlf)
def textL (q : Rq) : Bs := textA q ++ flds q.fields ++ textB q ++ crlf ++ q.body
set_option maxRecDepth 100000 in
set_option maxHeartbeats 4000000 in
theorem text_ok (q : Rq) (a : Option Addr) (cap : Nat) (w : World) (hf : Rf w a q.fields) (hm : q.m.length ≤ 2000000) (ht : q.t.length ≤ 2000000) (hl : (flds q.fields).length ≤ 2000000) (hb : q.body.length ≤ 2000000) (hn : q.fields.length ≤ 900000) (hT : Tab w) :
    Calls Tryd.prog 13 #[.agg (q.cells a cap).toArray] w fun e w' => e = .returned (S (textL q)) ∧ Upd [] w w' := by
  have HQ := Hd.mk (show textL q = textA q ++ flds q.fields ++ textB q ++ crlf ++ q.body from rfl)
  have HQA := Hd.mk (show textA q = q.m ++ 32 :: q.t ++ (http2 ++ crlf) ++ (if allL q.fields hostB = [] then hostLine ++ crlf else []) from rfl)
  have HQB := Hd.mk (show textB q = (if q.close = true then connClose ++ crlf else []) ++ (if q.body = [] then [] else contLen ++ 58 :: 32 :: Lib.decDigits q.body.length ++ crlf) from rfl)
  have HF := Hd.mk hf
  have HL := Hd.mk hl
  have HT := Hd.mk hT
  have HAL := Hd.mk (fun W (h : Rf W a q.fields) => all_ok q.fields a cap hostB W h hn)
  have HALL := Hd.mk (allL_len q.fields hostB)
  unfold Rq.cells
  generalize textL q = TL at *
  generalize textA q = TA at *
  generalize textB q = TB at *
  obtain ⟨qm, qt, fs, body, cl⟩ := q
  simp only at hf hl hm ht hb hn HQ HQA HQB HF HL HAL HALL ⊢
  obtain ⟨mb, hmb⟩ : ∃ t : ByteArray, (⟨qm.toArray⟩ : ByteArray) = t := ⟨_, rfl⟩
  obtain ⟨tb, htb⟩ : ∃ t : ByteArray, (⟨qt.toArray⟩ : ByteArray) = t := ⟨_, rfl⟩
  obtain ⟨bd, hbd⟩ : ∃ t : ByteArray, (⟨body.toArray⟩ : ByteArray) = t := ⟨_, rfl⟩
  have hms : mb.size = qm.length := by rw [← hmb, S_size]
  have hts : tb.size = qt.length := by rw [← htb, S_size]
  have hbs : bd.size = body.length := by rw [← hbd, S_size]
  simp only [S, hmb, htb, hbd]
  have HBD := Hd.mk (And.intro hmb (And.intro htb hbd))
  clear hmb htb hbd hf hl hT
  have B := Blk.new w [.string mb, .string tb, .slice a fs.length cap, .string bd, .bool cl] 42 _ rfl
  have HB := Hd.mk B
  have c0 := B.cell 0
  have c1 := B.cell 1
  have c2 := B.cell 2
  have c3 := B.cell 3
  have c4 := B.cell 4
  simp only [List.getElem?_cons_zero, List.getElem?_cons_succ] at c0 c1 c2 c3 c4
  clear B
  go_enter Tryd.func13, Tryd.ntmps13
  go_upto_region 2 with (fail)
  refine wp_abs (fun W => Blk W w.heap.size [.string mb, .string tb, .slice a fs.length cap, .string bd, .bool cl] 42 ∧ Upd [] w W) ⟨HB.out, (Upd.refl _ _).alloc _⟩ ?_
  clear c0 c1 c2 c3 c4 HB
  generalize w.heap.size = sb
  rintro w1 ⟨b1, u1⟩
  have HB := Hd.mk (And.intro b1 u1)
  have c0 := b1.cell 0
  have c1 := b1.cell 1
  have c2 := b1.cell 2
  have c3 := b1.cell 3
  have c4 := b1.cell 4
  simp only [List.getElem?_cons_zero, List.getElem?_cons_succ] at c0 c1 c2 c3 c4
  clear b1 u1
  go_wp2_with fail
  refine (HAL.out w1 (HF.out.upd HB.out.2)).mono ?_
  rintro e w2 ⟨hv, rfl, hhb⟩
  obtain ⟨ha, hc, rfl⟩ := hhb.sl.form
  have HB := Hd.mk (And.intro (hhb.upd.blk HB.out.1 (by simp)) (HB.out.2.trans hhb.upd (by simp)))
  clear hhb c0 c1 c2 c3 c4
  have b1 := HB.out.1
  have c0 := b1.cell 0
  have c1 := b1.cell 1
  have c2 := b1.cell 2
  have c3 := b1.cell 3
  have c4 := b1.cell 4
  simp only [List.getElem?_cons_zero, List.getElem?_cons_succ] at c0 c1 c2 c3 c4
  clear b1
  generalize hAL : allL fs hostB = AL at *
  obtain ⟨an, han⟩ : ∃ an, AL.length = an := ⟨_, rfl⟩
  have HAN := Hd.mk han
  rw [han]
  have HALL := Hd.mk (show an ≤ fs.length by rw [← han]; exact HALL.out)
  have hal := HALL.out
  clear han hAL
  go_upto_if 17 with (fail)
  go_cut [3] (fun s3 W => (∃ t : ByteArray, s3 = .string t ∧ t.size ≤ 4000100 ∧ Hd (t.data.toList = TA)) ∧ W = w2)
  case first =>
    by_cases h0 : an = 0
    · have d0 : ((an : Int) == 0) = true := by rw [beq_iff_eq]; omega
      have HE := Hd.mk (show AL = [] from List.eq_nil_of_length_eq_zero (by rw [HAN.out, h0]))
      clear h0
      go_wp2_with fail
      go_meet
      case rel => exact ⟨⟨_, rfl, by
        simp only [ByteArray.size_append]
        have e1 : (⟨#[32]⟩ : ByteArray).size = 1 := rfl
        have e2 : (⟨#[32, 72, 84, 84, 80, 47, 49, 46, 49, 13, 10]⟩ : ByteArray).size = 11 := rfl
        have e3 : (⟨#[104, 111, 115, 116, 58, 32, 99, 114, 111, 115, 115, 114, 111, 97, 100, 13, 10]⟩ : ByteArray).size = 17 := rfl
        omega, Hd.mk (by
        rw [HQA.out, if_pos HE.out, ← HBD.out.1, ← HBD.out.2.1]
        simp [http2, crlf, hostLine])⟩, rfl⟩
    · have d0 : ((an : Int) == 0) = false := by rw [beq_eq_false_iff_ne]; omega
      have HE := Hd.mk (show AL ≠ [] from fun e => h0 (by rw [← HAN.out, e]; rfl))
      clear h0
      go_wp2_with fail
      go_meet
      case rel => exact ⟨⟨_, rfl, by
        simp only [ByteArray.size_append]
        have e1 : (⟨#[32]⟩ : ByteArray).size = 1 := rfl
        have e2 : (⟨#[32, 72, 84, 84, 80, 47, 49, 46, 49, 13, 10]⟩ : ByteArray).size = 11 := rfl
        omega, Hd.mk (by
        rw [HQA.out, if_neg HE.out, ← HBD.out.1, ← HBD.out.2.1]
        simp [http2, crlf])⟩, rfl⟩
  case rest =>
    obtain ⟨⟨t, rfl, hts2, HTL⟩, rfl⟩ := hcut
    have hal : (flds fs).length ≤ 2000000 := HL.out
    go_upto_region 5 with (fail)
    go_loopg [3, 5, 23] fs.length (fun g s3 s5 ii wr => ∃ (i : Nat) (t : ByteArray), g + i = fs.length ∧ ii = .int .i64 i ∧ s3 = .string t ∧ t.size ≤ 4000100 + (flds (fs.take i)).length ∧ Hd (t.data.toList = TA ++ flds (fs.take i)) ∧ Hd (Blk wr sb [.string mb, .string tb, .slice a fs.length cap, .string bd, .bool cl] 42 ∧ Upd [] w wr))
    case atStart => exact ⟨0, t, by omega, rfl, rfl, by simp [flds]; omega, Hd.mk (by rw [HTL.out]; simp [flds]), HB⟩
    case round =>
      clear HB c0 c1 c2 c3 c4 HTL hts2
      obtain ⟨i, t, hg, rfl, rfl, hts2, HTL, HB⟩ := hrel
      have HG := Hd.mk hg
      clear hg
      by_cases hi : i < fs.length
      · obtain ⟨b, off, rfl, hbw, hc⟩ := HF.out.upd HB.out.2 (by omega)
        obtain ⟨k0, k1⟩ := hc i hi
        have HST := Hd.mk (flds_take hi)
        have hl1 := flds_take_len fs (i + 1)
        have hl0 := flds_take_len fs i
        have hl2 := congrArg List.length HST.out
        rw [List.length_append] at hl2
        simp only [crlf, fieldL, List.length_append, List.length_cons, List.length_nil] at hl2
        obtain ⟨nm, hnm⟩ : ∃ t : ByteArray, (⟨fs[i].1.toArray⟩ : ByteArray) = t := ⟨_, rfl⟩
        obtain ⟨vl, hvl⟩ : ∃ t : ByteArray, (⟨fs[i].2.toArray⟩ : ByteArray) = t := ⟨_, rfl⟩
        have hns : nm.size = fs[i].1.length := by rw [← hnm, S_size]
        have hvs : vl.size = fs[i].2.length := by rw [← hvl, S_size]
        simp only [S, hnm, hvl] at k0 k1
        have HNV := Hd.mk (And.intro hnm hvl)
        generalize fs[i].1.length = l1 at hl2 hns
        generalize fs[i].2.length = l2 at hl2 hvs
        have HLN := Hd.mk (show nm.size + vl.size + t.size + 4 ≤ 4000100 + (flds (fs.take (i + 1))).length ∧ (flds (fs.take (i + 1))).length ≤ 2000000 by omega)
        have hbd1 : nm.size + vl.size + t.size + 4 ≤ 6000200 := by omega
        clear hc hnm hvl hl1 hl0 hl2 hns hvs hts2
        go_upto_region 7 with (fail)
        refine wp_abs (fun W => (Blk W sb [.string mb, .string tb, .slice (some ⟨b, off, none⟩) fs.length cap, .string bd, .bool cl] 42 ∧ Upd [] w W) ∧ Blk W wr.heap.size [.string nm, .string vl] 44) ⟨⟨?_, ?_⟩, Blk.new wr [.string nm, .string vl] 44 _ rfl⟩ ?_
        · exact HB.out.1.alloc _
        · exact HB.out.2.alloc _
        clear k0 k1 HB hbw
        generalize wr.heap.size = fb at *
        rintro w5 ⟨hu, tb5⟩
        have HB := Hd.mk hu
        have c0 := tb5.cell 0
        have c1 := tb5.cell 1
        simp only [List.getElem?_cons_zero, List.getElem?_cons_succ] at c0 c1
        clear hu tb5
        go_wp2_with fail
        go_roundg (gk - 1)
        case measure => have := HG.out; omega
        case rel => exact ⟨i + 1, _, by have := HG.out; omega, by go_num, rfl, by
          have e1 : (⟨#[58, 32]⟩ : ByteArray).size = 2 := rfl
          have e2 : (⟨#[13, 10]⟩ : ByteArray).size = 2 := rfl
          have := HLN.out.1
          simp only [ByteArray.size_append]
          omega, Hd.mk (by
          rw [HST.out]
          simp only [ByteArray.data_append, Array.toList_append, HTL.out]
          rw [← HNV.out.1, ← HNV.out.2]
          simp [fieldL, crlf]), HB⟩
      · obtain rfl : i = fs.length := by have := HG.out; omega
        rw [List.take_length] at HTL hts2
        have b1 := HB.out.1
        have c0 := b1.cell 0
        have c1 := b1.cell 1
        have c2 := b1.cell 2
        have c3 := b1.cell 3
        have c4 := b1.cell 4
        simp only [List.getElem?_cons_zero, List.getElem?_cons_succ] at c0 c1 c2 c3 c4
        clear b1 hi HG
        have hts3 : t.size ≤ 6000100 := by omega
        clear hts2
        have t1 := itoaB_size (body.length : Int) (by omega) (by omega)
        obtain ⟨it2, hit2⟩ : ∃ t : ByteArray, itoaB (body.length : Int) = t := ⟨_, rfl⟩
        rw [hit2] at t1
        have HIT := Hd.mk hit2
        clear hit2
        have HIL : Hd (it2.data.toList = Lib.decDigits body.length) := Hd.mk (by rw [← HIT.out]; unfold itoaB; rw [Lib.itoa_nonneg])
        go_upto_if 38 with (fail)
        go_cut [3] (fun s3 W => W = wr ∧ ∃ t : ByteArray, s3 = .string t ∧ t.size ≤ 6000200 ∧ Hd (t.data.toList = TA ++ flds fs ++ (if cl = true then connClose ++ crlf else [])))
        case first =>
          cases cl with
          | false =>
            go_wp2_with fail
            go_meet
            case rel => exact ⟨rfl, _, rfl, by omega, Hd.mk (by rw [HTL.out]; simp)⟩
          | true =>
            go_wp2_with fail
            go_meet
            case rel => exact ⟨rfl, _, rfl, by
              have e1 : (⟨#[99, 111, 110, 110, 101, 99, 116, 105, 111, 110, 58, 32, 99, 108, 111, 115, 101, 13, 10]⟩ : ByteArray).size = 19 := rfl
              simp only [ByteArray.size_append]
              omega, Hd.mk (by simp only [ByteArray.data_append, Array.toList_append, HTL.out]; simp [connClose, crlf])⟩
        case rest =>
          obtain ⟨rfl, t2, rfl, hts4, HTL2⟩ := hcut
          clear HTL hts3
          by_cases he : bd = ⟨#[]⟩
          · have y := str_eq0 he
            have HE := Hd.mk (show body = [] by have := HBD.out.2.2; rw [he] at this; simpa using congrArg (fun x => x.data.toList) this)
            clear he
            go_wp2_with fail
            go_ret
            refine ⟨congrArg Ending.returned (S_of ?_), HB.out.2⟩
            simp only [ByteArray.data_append, Array.toList_append, HTL2.out]
            rw [HQ.out, HQB.out, if_pos HE.out, ← HBD.out.2.2]
            simp [crlf]
          · have y := str_ne0 he
            have HE := Hd.mk (show body ≠ [] by intro e; apply he; rw [← HBD.out.2.2, e])
            clear he
            go_upto_region 12 with (fail)
            go_wp2_with fail
            refine (itoa_ok (body.length : Int) wc (by omega) (by omega) (HT.out.upd HB.out.2)).mono ?_
            rintro e w9 ⟨rfl, u9⟩
            rw [HIT.out]
            have HB := Hd.mk (And.intro (u9.blk HB.out.1 (by simp)) (HB.out.2.trans u9 (by simp)))
            clear u9 c0 c1 c2 c3 c4
            have b1 := HB.out.1
            have c0 := b1.cell 0
            have c1 := b1.cell 1
            have c2 := b1.cell 2
            have c3 := b1.cell 3
            have c4 := b1.cell 4
            simp only [List.getElem?_cons_zero, List.getElem?_cons_succ] at c0 c1 c2 c3 c4
            clear b1
            go_wp2_with fail
            go_ret
            refine ⟨congrArg Ending.returned (S_of ?_), HB.out.2⟩
            simp only [ByteArray.data_append, Array.toList_append, HTL2.out, HIL.out]
            rw [HQ.out, HQB.out, if_neg HE.out, ← HBD.out.2.2]
            simp [crlf, contLen]
end Go.Proofs.YtlhkckgfhlflkaaDoor
