/- answer.Encode. -/
import Derived.Test.YtlhkckgfhlflkaaDoorA5
import Derived.Test.YtlhkckgfhlflkaaDoorIt
import Derived.Test.YtlhkckgfhlflkaaDoorCq
namespace Go.Proofs.YtlhkckgfhlflkaaDoor
set_option linter.unusedSimpArgs false
set_option linter.unusedVariables false
set_option linter.unnecessarySimpa false
open Go.RowKit BigFrame

/-- Fields that can be read at a. -/
def Rf (w : World) (a : Option Addr) (fs : List (Bs × Bs)) : Prop := 0 < fs.length → ∃ b off, a = some ⟨b, off, none⟩ ∧ b < w.heap.size ∧ ∀ i (h : i < fs.length), w.cell? ⟨b, off + i * 2, none⟩ = some (S fs[i].1) ∧ w.cell? ⟨b, off + i * 2 + 1, none⟩ = some (S fs[i].2)
theorem Rf.upd {w w' : World} {a : Option Addr} {fs : List (Bs × Bs)} (h : Rf w a fs) (hu : Upd [] w w') : Rf w' a fs := by
  intro h0
  obtain ⟨b, off, ha, hb, hc⟩ := h h0
  have hsz := hu.size
  exact ⟨b, off, ha, by omega, fun i hi => ⟨(hu.cell (p := ⟨b, _, none⟩) hb (by simp)).trans (hc i hi).1, (hu.cell (p := ⟨b, _, none⟩) hb (by simp)).trans (hc i hi).2⟩⟩
theorem Rf.nil (w : World) (a : Option Addr) : Rf w a [] := fun h => by simp at h

def flds (fs : List (Bs × Bs)) : Bs := fs.flatMap fun f => fieldL f ++ crlf
theorem flds_take {fs : List (Bs × Bs)} {i : Nat} (h : i < fs.length) : flds (fs.take (i + 1)) = flds (fs.take i) ++ (fieldL fs[i] ++ crlf) := by
  unfold flds
  rw [List.take_succ_eq_append_getElem h, List.flatMap_append]
  simp
theorem flds_take_len (fs : List (Bs × Bs)) (i : Nat) : (flds (fs.take i)).length ≤ (flds fs).length := by
  have : flds fs = flds (fs.take i) ++ flds (fs.drop i) := by
    unfold flds
    rw [← List.flatMap_append, List.take_append_drop]
  rw [this, List.length_append]
  omega
theorem firstL_len (n : Nat) (h : n ≤ 9223372036854775807) : (firstL n).length ≤ 62 := by
  unfold firstL
  have h1 := wordL_len n
  have h2 := itoaB_size (n : Int) (by omega) (by omega)
  have h3 : (itoaB (n : Int)).size = (Lib.decDigits n).length := by
    unfold itoaB
    rw [Lib.itoa_nonneg, S_size]
  simp [http]
  omega

/-- Worlds that differ from w by new blocks alone, the box of the response being one. -/
def EncW (w : World) (b : Nat) (cs : List Value) (W : World) : Prop := Blk W b cs 26 ∧ Upd [] w W
theorem EncW.up {w W W' : World} {b : Nat} {cs : List Value} (h : EncW w b cs W) (hu : Upd [] W W') : EncW w b cs W' := ⟨hu.blk h.1 (by simp), h.2.trans hu (by simp)⟩

set_option maxHeartbeats 4000000 in
theorem encode_ok (r : Rs) (a : Option Addr) (cap : Nat) (w : World) (hf : Rf w a r.fields) (hst : r.status ≤ 2000000000) (hl : (flds r.fields).length ≤ 2000000) (hb : r.body.length ≤ 2000000) (hn : r.fields.length ≤ 2000000) (hT : Tab w) :
    Calls Tryd.prog 7 #[.agg (r.cells a cap).toArray] w fun e w' => e = .returned (S (encL r)) ∧ Upd [] w w' := by
  obtain ⟨n, fs, body, cl⟩ := r
  simp only at hf hst hl hb hn
  have HT := Hd.mk hT
  have HF := Hd.mk hf
  have HL := Hd.mk hl
  have h1l := firstL_len n (by omega)
  clear hT hf hl
  simp only [Rs.cells]
  obtain ⟨bd, hbd⟩ : ∃ t : ByteArray, (⟨body.toArray⟩ : ByteArray) = t := ⟨_, rfl⟩
  have hbs : bd.size = body.length := by rw [← hbd, S_size]
  simp only [S, hbd]
  have HBD := Hd.mk hbd
  clear hbd
  have B := Blk.new w [.int .i64 n, .slice a fs.length cap, .string bd, .bool cl] 26 _ rfl
  have HB := Hd.mk B
  have c0 := B.cell 0
  have c1 := B.cell 1
  have c2 := B.cell 2
  have c3 := B.cell 3
  simp only [List.getElem?_cons_zero, List.getElem?_cons_succ] at c0 c1 c2 c3
  clear B
  have t1 := itoaB_size (n : Int) (by omega) (by omega)
  have t2 := wordL_len n
  go_enter Tryd.func7, Tryd.ntmps7
  go_upto_region 1 with (fail)
  refine wp_abs (fun W => Blk W w.heap.size [.int .i64 n, .slice a fs.length cap, .string bd, .bool cl] 26 ∧ Upd [] w W) ⟨HB.out, (Upd.refl _ _).alloc _⟩ ?_
  clear c0 c1 c2 c3 HB
  generalize w.heap.size = sb at *
  rintro w1 ⟨b1, u1⟩
  have HB := Hd.mk (And.intro b1 u1)
  have c0 := b1.cell 0
  have c1 := b1.cell 1
  have c2 := b1.cell 2
  have c3 := b1.cell 3
  simp only [List.getElem?_cons_zero, List.getElem?_cons_succ] at c0 c1 c2 c3
  clear b1 u1
  obtain ⟨wd, hwd⟩ : ∃ t : ByteArray, (⟨(wordL n).toArray⟩ : ByteArray) = t := ⟨_, rfl⟩
  have hws : wd.size = (wordL n).length := by rw [← hwd, S_size]
  have HWD := Hd.mk hwd
  clear hwd
  obtain ⟨it, hit⟩ : ∃ t : ByteArray, itoaB (n : Int) = t := ⟨_, rfl⟩
  rw [hit] at t1
  have HIT := Hd.mk hit
  clear hit
  have HPRE := Hd.mk (show (⟨#[72, 84, 84, 80, 47, 49, 46, 49, 32]⟩ ++ it ++ ⟨#[32]⟩ ++ wd ++ ⟨#[13, 10]⟩ : ByteArray).data.toList = firstL n ++ crlf by
    rw [← HIT.out, ← HWD.out]
    unfold itoaB firstL
    rw [Lib.itoa_nonneg]
    simp [http, crlf])
  go_cut [1, 3] (fun s1 s3 W => s1 = .pointer (some ⟨sb, 0, none⟩) ∧ (∃ t : ByteArray, s3 = .string t ∧ Hd (t.data.toList = firstL n ++ crlf)) ∧ Hd (Blk W sb [.int .i64 n, .slice a fs.length cap, .string bd, .bool cl] 26 ∧ Upd [] w W))
  case first =>
    clear c0 c1 c2 c3
    have c0 : ∀ x : Cls (EncW w sb [.int .i64 n, .slice a fs.length cap, .string bd, .bool cl]), x.w.cell? ⟨sb, 0, none⟩ = some (.int .i64 n) := fun x => x.ok.1.cell 0
    refine wp_region_cls (EncW w sb [.int .i64 n, .slice a fs.length cap, .string bd, .bool cl]) ⟨HB.out.1.drew, HB.out.2.drew⟩ (by kernel_rfl) (by kernel_rfl) (fun _ => ?_)
    repeat (go_big_quiet_step (first | (go_at_call 19; rename_i x; exact Calls.cls (itoa_ok (n : Int) _ (by omega) (by omega) (HT.out.upd x.ok.2)) (fun e w' h => ⟨h.1.trans (by rw [HIT.out]), x.ok.up h.2⟩)) | (go_at_call 15; rename_i x; exact Calls.cls (word_ok (n : Int) _) (fun e w' h => ⟨h.1.trans (by rw [S, Int.toNat_natCast, HWD.out]), x.ok.up h.2⟩))))
    refine wpQuiet_nil ?_
    intro _ hw'
    obtain ⟨nq, hw''⟩ := hw'
    subst hw''
    go_wp2_with fail
    go_meet
    case rel => exact ⟨rfl, ⟨_, rfl, HPRE.out⟩, Hd.mk nq.ok⟩
  case rest =>
    clear HB c0 c1 c2 c3 HPRE HIT HWD t1 t2 hws
    obtain ⟨rfl, ⟨t, rfl, HTL⟩, HB⟩ := hcut
    have b1 := HB.out.1
    have c0 := b1.cell 0
    have c1 := b1.cell 1
    have c2 := b1.cell 2
    have c3 := b1.cell 3
    simp only [List.getElem?_cons_zero, List.getElem?_cons_succ] at c0 c1 c2 c3
    clear b1
    have hts : t.size ≤ 64 := by
      have : t.data.toList.length = t.size := by simp
      rw [← this, HTL.out, List.length_append]
      simp [crlf]
      omega
    go_wp2_with fail
    go_loopg [3, 5, 19] fs.length (fun g s3 s5 ii wr => ∃ (i : Nat) (t : ByteArray), g + i = fs.length ∧ ii = .int .i64 i ∧ s3 = .string t ∧ t.size ≤ 2000100 ∧ Hd (t.data.toList = firstL n ++ (crlf ++ flds (fs.take i))) ∧ Hd (Blk wr sb [.int .i64 n, .slice a fs.length cap, .string bd, .bool cl] 26 ∧ Upd [] w wr))
    case atStart => exact ⟨0, t, by omega, rfl, rfl, by omega, Hd.mk (by rw [HTL.out]; simp [flds]), HB⟩
    case round =>
      clear HB c0 c1 c2 c3 HTL hts
      obtain ⟨i, t, hg, rfl, rfl, hts, HTL, HB⟩ := hrel
      by_cases hi : i < fs.length
      · obtain ⟨b, off, rfl, hbw, hc⟩ := HF.out.upd HB.out.2 (by omega)
        obtain ⟨k0, k1⟩ := hc i hi
        have HST := Hd.mk (flds_take hi)
        have hl1 := flds_take_len fs (i + 1)
        have hl0 := flds_take_len fs i
        rw [HST.out, List.length_append] at hl1
        have hfl := HL.out
        have htl : t.data.toList.length = t.size := by simp
        rw [HTL.out] at htl
        simp only [List.length_append] at htl
        simp only [crlf, fieldL, List.length_append, List.length_cons, List.length_nil] at hl1 htl
        obtain ⟨nm, hnm⟩ : ∃ t : ByteArray, (⟨fs[i].1.toArray⟩ : ByteArray) = t := ⟨_, rfl⟩
        obtain ⟨vl, hvl⟩ : ∃ t : ByteArray, (⟨fs[i].2.toArray⟩ : ByteArray) = t := ⟨_, rfl⟩
        have hns : nm.size = fs[i].1.length := by rw [← hnm, S_size]
        have hvs : vl.size = fs[i].2.length := by rw [← hvl, S_size]
        simp only [S, hnm, hvl] at k0 k1
        have HNV := Hd.mk (And.intro hnm hvl)
        generalize fs[i].1.length = l1 at hl1 hns
        generalize fs[i].2.length = l2 at hl1 hvs
        have hbd1 : nm.size + vl.size + t.size + 4 ≤ 2000100 := by omega
        have HG := Hd.mk hg
        clear hc hnm hvl hl1 hl0 hfl htl hns hvs
        go_upto_region 5 with (fail)
        refine wp_abs (fun W => (Blk W sb [.int .i64 n, .slice (some ⟨b, off, none⟩) fs.length cap, .string bd, .bool cl] 26 ∧ Upd [] w W) ∧ Blk W wr.heap.size [.string nm, .string vl] 44) ⟨⟨?_, ?_⟩, Blk.new wr [.string nm, .string vl] 44 _ rfl⟩ ?_
        · exact HB.out.1.alloc _
        · exact HB.out.2.alloc _
        clear k0 k1 HB hbw
        generalize wr.heap.size = fb at *
        rintro w5 ⟨hu, tb⟩
        have HB := Hd.mk hu
        have c0 := tb.cell 0
        have c1 := tb.cell 1
        simp only [List.getElem?_cons_zero, List.getElem?_cons_succ] at c0 c1
        clear hu tb
        go_wp2_with fail
        go_roundg (gk - 1)
        case measure => have := HG.out; omega
        case rel => exact ⟨i + 1, _, by have := HG.out; omega, by go_num, rfl, by
          have e1 : (⟨#[58, 32]⟩ : ByteArray).size = 2 := rfl
          have e2 : (⟨#[13, 10]⟩ : ByteArray).size = 2 := rfl
          simp only [ByteArray.size_append]
          omega, Hd.mk (by
          rw [HST.out]
          simp only [ByteArray.data_append, Array.toList_append, HTL.out]
          rw [← HNV.out.1, ← HNV.out.2]
          simp [fieldL, crlf]), HB⟩
      · obtain rfl : i = fs.length := by omega
        have b1 := HB.out.1
        have c0 := b1.cell 0
        have c1 := b1.cell 1
        have c2 := b1.cell 2
        have c3 := b1.cell 3
        simp only [List.getElem?_cons_zero, List.getElem?_cons_succ] at c0 c1 c2 c3
        clear b1 hi hg
        have t1 := itoaB_size (body.length : Int) (by omega) (by omega)
        obtain ⟨it2, hit2⟩ : ∃ t : ByteArray, itoaB (body.length : Int) = t := ⟨_, rfl⟩
        rw [hit2] at t1
        have HIT := Hd.mk hit2
        clear hit2
        have HIL : Hd (it2.data.toList = Lib.decDigits body.length) := Hd.mk (by rw [← HIT.out]; unfold itoaB; rw [Lib.itoa_nonneg])
        go_upto_if 34 with (fail)
        go_cut [1, 3] (fun s1 s3 W => s1 = .pointer (some ⟨sb, 0, none⟩) ∧ W = wr ∧ ∃ t : ByteArray, s3 = .string t ∧ t.size ≤ 2000200 ∧ Hd (t.data.toList = firstL n ++ (crlf ++ flds fs) ++ (if cl then connClose ++ crlf else [])))
        case first =>
          cases cl with
          | false =>
            go_wp2_with fail
            go_meet
            case rel => exact ⟨rfl, rfl, _, rfl, by omega, Hd.mk (by rw [HTL.out]; simp)⟩
          | true =>
            go_wp2_with fail
            go_meet
            case rel => exact ⟨rfl, rfl, _, rfl, by
              have e1 : (⟨#[99, 111, 110, 110, 101, 99, 116, 105, 111, 110, 58, 32, 99, 108, 111, 115, 101, 13, 10]⟩ : ByteArray).size = 19 := rfl
              simp only [ByteArray.size_append]
              omega, Hd.mk (by simp only [ByteArray.data_append, Array.toList_append, HTL.out]; simp [connClose, crlf])⟩
        case rest =>
          obtain ⟨rfl, rfl, t2, rfl, hts2, HTL2⟩ := hcut
          clear HTL hts
          go_upto_region 9 with (fail)
          clear c0 c1 c2 c3
          have c2 : ∀ x : Cls (EncW w sb [.int .i64 n, .slice a fs.length cap, .string bd, .bool cl]), x.w.cell? ⟨sb, 2, none⟩ = some (.string bd) := fun x => x.ok.1.cell 2
          refine wp_region_cls (EncW w sb [.int .i64 n, .slice a fs.length cap, .string bd, .bool cl]) ⟨HB.out.1.drew, HB.out.2.drew⟩ (by kernel_rfl) (by kernel_rfl) (fun _ => ?_)
          repeat (go_big_quiet_step ((go_at_call 19; rename_i x; exact Calls.cls (itoa_ok (body.length : Int) _ (by omega) (by omega) (HT.out.upd x.ok.2)) (fun e w' h => ⟨h.1.trans (by rw [HIT.out]), x.ok.up h.2⟩))))
          refine wpQuiet_nil ?_
          intro _ hw'
          obtain ⟨nq, hw''⟩ := hw'
          subst hw''
          go_wp2_with fail
          go_ret
          refine ⟨?_, nq.ok.2⟩
          refine congrArg Ending.returned (S_of ?_)
          simp only [ByteArray.data_append, Array.toList_append, HTL2.out, HIL.out, List.take_length]
          rw [← HBD.out]
          cases cl <;> simp [encL, flds, contLen, connClose, crlf]
end Go.Proofs.YtlhkckgfhlflkaaDoor
