/- AnswerParts: bytes have the status, each field, the length and the body, in order. -/
import Derived.Test.YtgmpahdagbelfaaDoorA13
import Derived.Test.YtgmpahdagbelfaaDoorBs
import Derived.Deep.RegionHeldLaw
namespace Go.Proofs.YtgmpahdagbelfaaDoor
set_option linter.unusedSimpArgs false
set_option linter.unusedVariables false
set_option linter.unnecessarySimpa false
open Go.RowKit BigFrame

/-- The digits of n, by the loop: so far d, n left. -/
theorem dec_step (n : Nat) : Lib.decDigits n = (if n < 10 then [] else Lib.decDigits (n / 10)) ++ [UInt8.ofNat (48 + n % 10)] := by
  by_cases h : n < 10
  · rw [Lib.decDigits, dif_pos h, if_pos h, Nat.mod_eq_of_lt h]
    rfl
  · rw [Lib.decDigits, dif_neg h, if_neg h]
theorem dec_three (n : Nat) (h0 : 100 ≤ n) (h1 : n ≤ 999) : Lib.decDigits n = [UInt8.ofNat (48 + n / 100), UInt8.ofNat (48 + n / 10 % 10), UInt8.ofNat (48 + n % 10)] := by
  rw [dec_step n, if_neg (by omega), dec_step (n / 10), if_neg (by omega), dec_step (n / 10 / 10), if_pos (by omega)]
  simp only [List.nil_append, List.cons_append]
  rw [show n / 10 / 10 % 10 = n / 100 by omega]

theorem wrap64 (x : Int) (h0 : 0 ≤ x) (h1 : x ≤ 100000) : IntKind.i64.wrap x = x := by rw [IntKind.wrap_i64]; omega
theorem wrap8 (x : Int) (h0 : 0 ≤ x) (h1 : x < 256) : IntKind.u8.wrap x = x := by rw [IntKind.wrap_u8]; omega
theorem wrapD1 (m : Nat) (h : m ≤ 999) : IntKind.u8.wrap (IntKind.i64.wrap (48 + IntKind.i64.wrap ((m : Int) / 100))) = ((48 + m / 100 : Nat) : Int) := by
  rw [wrap64 ((m : Int) / 100) (by omega) (by omega), wrap64 _ (by omega) (by omega), wrap8 _ (by omega) (by omega)]
  omega
theorem wrapD2 (m : Nat) (h : m ≤ 999) : IntKind.u8.wrap (IntKind.i64.wrap (48 + (IntKind.i64.wrap ((m : Int) / 10)).tmod 10)) = ((48 + m / 10 % 10 : Nat) : Int) := by
  rw [wrap64 ((m : Int) / 10) (by omega) (by omega), Int.tmod_eq_emod_of_nonneg (by omega), wrap64 _ (by omega) (by omega), wrap8 _ (by omega) (by omega)]
  omega
theorem wrapD3 (m : Nat) (h : m ≤ 999) : IntKind.u8.wrap (IntKind.i64.wrap (48 + ((m : Int)).tmod 10)) = ((48 + m % 10 : Nat) : Int) := by
  rw [Int.tmod_eq_emod_of_nonneg (by omega), wrap64 _ (by omega) (by omega), wrap8 _ (by omega) (by omega)]
  omega
theorem conv3 (W : World) (b d e f : Nat) (h : Blk W b [B8 d, B8 e, B8 f] 5) : (convert 31 9 (.slice (some ⟨b, 0, none⟩) 3 3)).run Tryd.prog W = .ok (.string ⟨#[UInt8.ofNat d, UInt8.ofNat e, UInt8.ofNat f]⟩) W :=
  run_string_sl (P := Tryd.prog) 31 5 Tryd.underlying31 Tryd.underlying5 (l := [d, e, f]) (h.sl 1 3 rfl (by unfold maxLen; omega)) 9 Tryd.underlying9
theorem conv1' (W : World) (b d : Nat) (h : Blk W b [B8 d] 5) : (convert 31 9 (.slice (some ⟨b, 0, none⟩) 1 1)).run Tryd.prog W = .ok (.string ⟨#[UInt8.ofNat d]⟩) W :=
  run_string_sl (P := Tryd.prog) 31 5 Tryd.underlying31 Tryd.underlying5 (l := [d]) (h.sl 1 1 rfl (by unfold maxLen; omega)) 9 Tryd.underlying9
/-- Worlds behind the law's own walk: its two boxes stand. -/
def PartW (w : World) (b c : Nat) (cs ds : List Value) (W : World) : Prop := Blk W b cs 29 ∧ Blk W c ds 29 ∧ Upd [] w W
theorem PartW.up {w W W' : World} {b c : Nat} {cs ds : List Value} (h : PartW w b c cs ds W) (hu : Upd [] W W') : PartW w b c cs ds W' := ⟨hu.blk h.1 (by simp), hu.blk h.2.1 (by simp), h.2.2.trans hu (by simp)⟩
theorem wrapDn (n : Nat) (h : n ≤ 100000) : IntKind.u8.wrap (IntKind.i64.wrap (48 + ((n : Int)).tmod 10)) = ((48 + n % 10 : Nat) : Int) := by
  rw [Int.tmod_eq_emod_of_nonneg (by omega), wrap64 _ (by omega) (by omega), wrap8 _ (by omega) (by omega)]
  omega
/-- The law's own digits: so far d, n left. -/
structure Dg (L : Nat) (b : Bool) (n : Nat) (d : ByteArray) (g : Nat) : Prop where
  eq : Lib.decDigits L = (if b then Lib.decDigits n else []) ++ d.data.toList
  le : n ≤ L
  g0 : b = true → g = n + 1
  g1 : b = false → g = 0
theorem Dg.size {L n g : Nat} {b : Bool} {d : ByteArray} (h : Dg L b n d g) (hl : (Lib.decDigits L).length ≤ 21) : d.size ≤ 21 := by
  have h1 := congrArg List.length h.eq
  rw [List.length_append] at h1
  have h2 : d.data.toList.length = d.size := by simp
  omega
theorem Dg.step {L n g : Nat} {d : ByteArray} (h : Dg L true n d g) : Dg L (decide (10 ≤ n)) (n / 10) (⟨#[48 + UInt8.ofNat (n % 10)]⟩ ++ d) (if 10 ≤ n then n / 10 + 1 else 0) := by
  refine ⟨?_, by have := h.le; omega, fun e => if_pos (of_decide_eq_true e), fun e => if_neg (of_decide_eq_false e)⟩
  rw [h.eq, if_pos rfl, dec_step n]
  by_cases hn : n < 10
  · rw [if_pos hn, if_neg (by simp; omega)]; simp
  · rw [if_neg hn, if_pos (by simp; omega)]; simp
theorem Dg.less {n : Nat} : (if 10 ≤ n then n / 10 + 1 else 0) < n + 1 := by split <;> omega
def dg3 (d e f : Int) : ByteArray := ⟨#[UInt8.ofNat d.toNat, UInt8.ofNat e.toNat, UInt8.ofNat f.toNat]⟩
set_option maxRecDepth 100000 in
set_option maxHeartbeats 4000000 in
theorem parts_walk (k : Int) (fs : List (Bs × Bs)) (body : Bs) (cl : Bool) (a : Option Addr) (cap : Nat) (w : World) (h : Came w k fs body a) (hT : Tab w) :
    Calls Tryd.prog 4 #[.agg (rcells k fs body cl a cap).toArray] w fun e w' => e = .returned (.bool true) ∧ Upd [] w w' := by
  have HT := Hd.mk hT
  have HC := Hd.mk h
  clear hT h
  obtain ⟨bd, hbd⟩ : ∃ t : ByteArray, (⟨body.toArray⟩ : ByteArray) = t := ⟨_, rfl⟩
  simp only [rcells, S, hbd]
  have B1 := Blk.new w [.int .i64 k, .slice a fs.length cap, .string bd, .bool cl] 29 _ rfl
  have HB := Hd.mk (And.intro B1 ((Upd.refl [] w).alloc (.cells #[.int .i64 k, .slice a fs.length cap, .string bd, .bool cl] 29)))
  have HBD := Hd.mk hbd
  clear B1 hbd
  go_enter Tryd.func4, Tryd.ntmps4
  go_upto_region 1 with (fail)
  refine wp_abs (fun W => Blk W w.heap.size [.int .i64 k, .slice a fs.length cap, .string bd, .bool cl] 29 ∧ Upd [] w W) HB.out ?_
  clear HB
  generalize w.heap.size = sb
  rintro w1 ⟨b1, u1⟩
  have HB := Hd.mk (And.intro b1 u1)
  clear b1 u1
  go_wp2_with fail
  refine (fit_ok w1 (HT.out.upd HB.out.2)).mono ?_
  rintro e w2 ⟨rfl, u2⟩
  have HB := Hd.mk (And.intro (u2.blk HB.out.1 (by simp)) (HB.out.2.trans u2 (by simp)))
  have b2 := HB.out.1
  have c0 := b2.cell 0
  have c1 := b2.cell 1
  have c2 := b2.cell 2
  have c3 := b2.cell 3
  simp only [List.getElem?_cons_zero, List.getElem?_cons_succ] at c0 c1 c2 c3
  clear u2 b2
  have hr := right_any k fs body cl a cap w2 (HC.out.upd HB.out.2)
  simp only [rcells, S, HBD.out] at hr
  have HR := Hd.mk hr
  clear hr
  go_wp2_with fail
  refine HR.out.mono ?_
  rintro e w3 ⟨b, rfl, hb, u3⟩
  have HB := Hd.mk (And.intro (u3.blk HB.out.1 (by simp)) (HB.out.2.trans u3 (by simp)))
  clear u3 c0 c1 c2 c3
  cases b with
  | false =>
    clear hb
    go_wp2_with fail
    go_ret
    exact ⟨rfl, HB.out.2⟩
  | true =>
    obtain ⟨m, rfl, hf⟩ := hb rfl
    have HF := Hd.mk hf
    clear hb hf
    go_upto_region 5 with (fail)
    have b2 := HB.out.1
    have c0 := b2.cell 0
    have c1 := b2.cell 1
    have c2 := b2.cell 2
    have c3 := b2.cell 3
    simp only [List.getElem?_cons_zero, List.getElem?_cons_succ] at c0 c1 c2 c3
    clear b2
    have hm0 := HF.out.right.st0
    have hm1 := HF.out.right.st1
    simp only at hm0 hm1
    obtain ⟨d1, e1⟩ : ∃ d : Nat, d = 48 + m / 100 := ⟨_, rfl⟩
    obtain ⟨d2, e2⟩ : ∃ d : Nat, d = 48 + m / 10 % 10 := ⟨_, rfl⟩
    obtain ⟨d3, e3⟩ : ∃ d : Nat, d = 48 + m % 10 := ⟨_, rfl⟩
    have hD1 : IntKind.u8.wrap (IntKind.i64.wrap (48 + IntKind.i64.wrap ((m : Int) / 100))) = (d1 : Int) := by rw [e1]; exact wrapD1 m hm1
    have hD2 : IntKind.u8.wrap (IntKind.i64.wrap (48 + (IntKind.i64.wrap ((m : Int) / 10)).tmod 10)) = (d2 : Int) := by rw [e2]; exact wrapD2 m hm1
    have hD3 : IntKind.u8.wrap (IntKind.i64.wrap (48 + ((m : Int)).tmod 10)) = (d3 : Int) := by rw [e3]; exact wrapD3 m hm1
    have HDE := Hd.mk (And.intro e1 (And.intro e2 e3))
    clear e1 e2 e3
    have hcv := conv3 (w3.alloc (.cells #[B8 d1, B8 d2, B8 d3] 5)).drew w3.heap.size d1 d2 d3 (Blk.drew (Blk.new w3 [B8 d1, B8 d2, B8 d3] 5 _ rfl))
    simp only [B8] at hcv
    obtain ⟨wd, hwd⟩ : ∃ t : ByteArray, (⟨(wordL m).toArray⟩ : ByteArray) = t := ⟨_, rfl⟩
    have hws : wd.size ≤ 31 := by rw [← hwd, S_size]; exact wordL_len m
    have HWD := Hd.mk hwd
    clear hwd
    have HPRE := Hd.mk (show (⟨#[72, 84, 84, 80, 47, 49, 46, 49, 32]⟩ ++ ⟨#[UInt8.ofNat d1, UInt8.ofNat d2, UInt8.ofNat d3]⟩ ++ ⟨#[32]⟩ ++ wd ++ ⟨#[13, 10]⟩ : ByteArray).data.toList = firstL m ++ crlf by
      rw [← HWD.out, HDE.out.1, HDE.out.2.1, HDE.out.2.2]
      unfold firstL
      rw [dec_three m hm0 hm1]
      simp [http, crlf])
    go_cut [1, 3] (fun s1 s3 W => s1 = .pointer (some ⟨sb, 0, none⟩) ∧ (∃ t : ByteArray, s3 = .string t ∧ Hd (t.data.toList = firstL m ++ crlf)) ∧ Hd (Blk W sb [.int .i64 m, .slice a fs.length cap, .string bd, .bool cl] 29 ∧ Upd [] w W))
    case first =>
      go_region_held_law (fun W => W.cell? ⟨sb, 0, none⟩ = some (.int .i64 m) ∧ Upd [] w W) (first | exact ⟨HB.out.1.drew.cell 0, HB.out.2.drew⟩ | exact ⟨(HB.out.1.drew.alloc _).cell 0, HB.out.2.drew.alloc _⟩ | exact ⟨(HB.out.1.alloc _).drew.cell 0, (HB.out.2.alloc _).drew⟩ | exact ⟨U4.out.1.cell 0, U4.out.2⟩ | exact ⟨(U4.out.1.alloc _).cell 0, U4.out.2.alloc _⟩) (first | (go_at_call 10; refine (word_ok (m : Int) _).mono ?_; rintro e w4 ⟨rfl, u4⟩; have v4 : Upd [] w3.drew w4 := (by with_reducible exact u4); simp only [S, Int.toNat_natCast, HWD.out]; have U4 : Hd (Blk w4 sb [.int .i64 m, .slice a fs.length cap, .string bd, .bool cl] 29 ∧ Upd [] w w4) := Hd.mk ⟨v4.blk HB.out.1.drew (by simp), HB.out.2.drew.trans v4 (by simp)⟩; have hcv2 := conv3 (w4.alloc (.cells #[B8 d1, B8 d2, B8 d3] 5)) w4.heap.size d1 d2 d3 (Blk.new w4 [B8 d1, B8 d2, B8 d3] 5 _ rfl); simp only [B8] at hcv2; clear u4 v4) | (go_at_call 10; refine (word_ok (m : Int) _).mono ?_; rintro e w4 ⟨rfl, u4⟩; have v4 : Upd [] (w3.alloc (.cells #[.int .u8 d1, .int .u8 d2, .int .u8 d3] 5)).drew w4 := (by with_reducible exact u4); simp only [S, Int.toNat_natCast, HWD.out]; have U4 : Hd (Blk w4 sb [.int .i64 m, .slice a fs.length cap, .string bd, .bool cl] 29 ∧ Upd [] w w4) := Hd.mk ⟨v4.blk (HB.out.1.alloc _).drew (by simp), ((HB.out.2.alloc _).drew).trans v4 (by simp)⟩; have hcv2 := conv3 w4 w3.heap.size d1 d2 d3 (v4.blk (Blk.drew (Blk.new w3 [B8 d1, B8 d2, B8 d3] 5 _ rfl)) (by simp)); clear u4 v4))
      all_goals
        go_wp2_with fail
        go_meet
        case rel => first | exact ⟨rfl, ⟨_, rfl, HPRE⟩, U4⟩ | exact ⟨rfl, ⟨_, rfl, HPRE⟩, Hd.mk ⟨U4.out.1.alloc _, U4.out.2.alloc _⟩⟩
    case rest =>
      clear c0 c1 c2 c3 HPRE HDE hD1 hD2 hD3 hcv hws HWD HB
      obtain ⟨rfl, ⟨t, rfl, HTL⟩, HB⟩ := hcut
      have hfl := HF.out.flds
      have hbl := HF.out.body
      have hnl := HF.out.num
      have h1l := firstL_len m (by omega)
      simp only at hfl hbl hnl
      have b1 := HB.out.1
      have c0 := b1.cell 0
      have c1 := b1.cell 1
      have c2 := b1.cell 2
      have c3 := b1.cell 3
      simp only [List.getElem?_cons_zero, List.getElem?_cons_succ] at c0 c1 c2 c3
      clear b1
      have hts : t.size ≤ 64 := by
        have : t.data.toList.length = t.size := by simp
        rw [← this, HTL.out, List.length_append]
        simp [crlf]
        omega
      go_wp2_with fail
      go_loopg [3, 5, 43] fs.length (fun g s3 s5 ii wr => ∃ (i : Nat) (t : ByteArray), g + i = fs.length ∧ ii = .int .i64 i ∧ s3 = .string t ∧ t.size ≤ 10000 ∧ Hd (t.data.toList = firstL m ++ (crlf ++ flds (fs.take i))) ∧ Hd (Blk wr sb [.int .i64 m, .slice a fs.length cap, .string bd, .bool cl] 29 ∧ Upd [] w wr))
      case atStart => exact ⟨0, t, by omega, rfl, rfl, by omega, Hd.mk (by rw [HTL.out]; simp [flds]), HB⟩
      case round =>
        clear HB c0 c1 c2 c3 HTL hts
        obtain ⟨i, t, hg, rfl, rfl, hts, HTL, HB⟩ := hrel
        by_cases hi : i < fs.length
        · obtain ⟨b, off, rfl, hbw, hc⟩ := (HC.out.upd HB.out.2).rf (by omega)
          obtain ⟨k0, k1⟩ := hc i hi
          have HST := Hd.mk (flds_take hi)
          have hl1 := flds_take_len fs (i + 1)
          have hl0 := flds_take_len fs i
          rw [HST.out, List.length_append] at hl1
          have htl : t.data.toList.length = t.size := by simp
          rw [HTL.out] at htl
          simp only [List.length_append] at htl
          simp only [crlf, fieldL, List.length_append, List.length_cons, List.length_nil] at hl1 htl
          obtain ⟨nm, hnm⟩ : ∃ t : ByteArray, (⟨fs[i].1.toArray⟩ : ByteArray) = t := ⟨_, rfl⟩
          obtain ⟨vl, hvl⟩ : ∃ t : ByteArray, (⟨fs[i].2.toArray⟩ : ByteArray) = t := ⟨_, rfl⟩
          have hns : nm.size = fs[i].1.length := by rw [← hnm, S_size]
          have hvs : vl.size = fs[i].2.length := by rw [← hvl, S_size]
          simp only [S, hnm, hvl] at k0 k1
          have HNV := Hd.mk (And.intro hnm hvl)
          generalize fs[i].1.length = l1 at hl1 hns
          generalize fs[i].2.length = l2 at hl1 hvs
          have hbd1 : nm.size + vl.size + t.size + 4 ≤ 10000 := by omega
          have HG := Hd.mk hg
          clear hc hnm hvl hl1 hl0 htl hns hvs
          go_upto_region 9 with (fail)
          refine wp_abs (fun W => (Blk W sb [.int .i64 m, .slice (some ⟨b, off, none⟩) fs.length cap, .string bd, .bool cl] 29 ∧ Upd [] w W) ∧ Blk W wr.heap.size [.string nm, .string vl] 33) ⟨⟨?_, ?_⟩, Blk.new wr [.string nm, .string vl] 33 _ rfl⟩ ?_
          · exact HB.out.1.alloc _
          · exact HB.out.2.alloc _
          clear k0 k1 HB hbw
          generalize wr.heap.size = fb at *
          rintro w5 ⟨hu, tb⟩
          have HB := Hd.mk hu
          have c0 := tb.cell 0
          have c1 := tb.cell 1
          simp only [List.getElem?_cons_zero, List.getElem?_cons_succ] at c0 c1
          clear hu tb
          go_wp2_with fail
          go_roundg (gk - 1)
          case measure => have := HG.out; omega
          case rel => exact ⟨i + 1, _, by have := HG.out; omega, by go_num, rfl, by
            have e1 : (⟨#[58, 32]⟩ : ByteArray).size = 2 := rfl
            have e2 : (⟨#[13, 10]⟩ : ByteArray).size = 2 := rfl
            simp only [ByteArray.size_append]
            omega, Hd.mk (by
            rw [HST.out]
            simp only [ByteArray.data_append, Array.toList_append, HTL.out]
            rw [← HNV.out.1, ← HNV.out.2]
            simp [fieldL, crlf]), HB⟩
        · obtain rfl : i = fs.length := by omega
          have b1 := HB.out.1
          have c0 := b1.cell 0
          have c1 := b1.cell 1
          have c2 := b1.cell 2
          have c3 := b1.cell 3
          simp only [List.getElem?_cons_zero, List.getElem?_cons_succ] at c0 c1 c2 c3
          clear b1 hi hg
          go_upto_if 58 with (fail)
          go_cut [1, 3] (fun s1 s3 W => s1 = .pointer (some ⟨sb, 0, none⟩) ∧ W = wr ∧ ∃ t : ByteArray, s3 = .string t ∧ t.size ≤ 10100 ∧ Hd (t.data.toList = firstL m ++ (crlf ++ flds fs) ++ (if cl then connClose ++ crlf else [])))
          case first =>
            cases cl with
            | false =>
              go_wp2_with fail
              go_meet
              case rel => exact ⟨rfl, rfl, _, rfl, by omega, Hd.mk (by rw [HTL.out]; simp)⟩
            | true =>
              go_wp2_with fail
              go_meet
              case rel => exact ⟨rfl, rfl, _, rfl, by
                have e1 : (⟨#[99, 111, 110, 110, 101, 99, 116, 105, 111, 110, 58, 32, 99, 108, 111, 115, 101, 13, 10]⟩ : ByteArray).size = 19 := rfl
                simp only [ByteArray.size_append]
                omega, Hd.mk (by simp only [ByteArray.data_append, Array.toList_append, HTL.out]; simp [connClose, crlf])⟩
          case rest =>
            obtain ⟨rfl, rfl, t2, rfl, hts2, HTL2⟩ := hcut
            clear HTL hts
            have hbs : bd.size = body.length := by rw [← HBD.out, S_size]
            have HDL := Hd.mk (show (Lib.decDigits body.length).length ≤ 21 by
              have h2 := itoaB_size (body.length : Int) (by omega) (by omega)
              have h3 : (itoaB (body.length : Int)).size = (Lib.decDigits body.length).length := by
                unfold itoaB
                rw [Lib.itoa_nonneg, S_size]
              omega)
            have hbz : bd.size ≤ 2000 := by omega
            rw [← hbs] at HDL
            have HBS := Hd.mk hbs
            clear hbs hbl hfl hnl h1l
            have HCS := Hd.mk (And.intro c0 (And.intro c1 (And.intro c2 c3)))
            clear c0 c1 c3
            go_wp2_with fail
            go_loopg [6, 7, 8] (bd.size + 1) (fun g s6 s7 s8 wr => ∃ (b : Bool) (n : Nat) (d : ByteArray), s6 = .int .i64 n ∧ s7 = .string d ∧ s8 = .bool b ∧ Hd (Dg bd.size b n d g) ∧ Hd (Blk wr sb [.int .i64 m, .slice a fs.length cap, .string bd, .bool cl] 29 ∧ Upd [] w wr))
            case atStart => exact ⟨true, bd.size, _, rfl, rfl, rfl, Hd.mk ⟨by simp, Nat.le_refl _, fun _ => rfl, fun e => absurd e (by simp)⟩, HB⟩
            case round =>
              clear HB c2 HCS
              obtain ⟨b, n, d, rfl, rfl, rfl, HD, HB⟩ := hrel
              have hds := HD.out.size HDL.out
              cases b with
              | true =>
                have hn := HD.out.le
                have HST := Hd.mk HD.out.step
                have hcv : (convert 31 9 (.slice (some ⟨wr.heap.size, 0, none⟩) 1 1)).run Tryd.prog (wr.alloc (.cells #[.int .u8 (48 + (n : Int) % 10)] 5)) = .ok (.string ⟨#[UInt8.ofNat (48 + n % 10)]⟩) (wr.alloc (.cells #[.int .u8 (48 + (n : Int) % 10)] 5)) := by
                  have h := conv1' (wr.alloc (.cells #[B8 (48 + n % 10)] 5)) wr.heap.size (48 + n % 10) (Blk.new wr [B8 (48 + n % 10)] 5 _ rfl)
                  simp only [B8, show ((48 + n % 10 : Nat) : Int) = 48 + (n : Int) % 10 by omega] at h
                  exact h
                have HG := HD.out.g0 rfl
                go_wp2_with fail
                go_roundg (if 10 ≤ n then n / 10 + 1 else 0)
                case measure => rw [HG]; exact Dg.less
                case rel => exact ⟨decide (10 ≤ n), n / 10, _, by simp, rfl, congrArg Value.bool (by rw [decide_eq_decide]; omega), HST, Hd.mk ⟨HB.out.1.alloc _, HB.out.2.alloc _⟩⟩
              | false =>
                have b1 := HB.out.1
                have c0 := b1.cell 0
                have c1 := b1.cell 1
                have c2 := b1.cell 2
                have c3 := b1.cell 3
                simp only [List.getElem?_cons_zero, List.getElem?_cons_succ] at c0 c1 c2 c3
                clear b1
                have HEQ := Hd.mk (show d.data.toList = Lib.decDigits bd.size by rw [HD.out.eq]; simp)
                clear HD
                go_wp2_with fail
                refine (plain_ok m cl wr (by omega)).mono ?_
                rintro e w4 ⟨rfl, u4⟩
                have HB := Hd.mk (And.intro (u4.blk HB.out.1 (by simp)) (HB.out.2.trans u4 (by simp)))
                clear u4 c0 c1 c2 c3
                obtain ⟨pd, hpd⟩ : ∃ t : ByteArray, (⟨(wordL m ++ [10]).toArray⟩ : ByteArray) = t := ⟨_, rfl⟩
                obtain ⟨wd, hwd⟩ : ∃ t : ByteArray, (⟨(wordL m).toArray⟩ : ByteArray) = t := ⟨_, rfl⟩
                have hws : wd.size ≤ 31 := by rw [← hwd, S_size]; exact wordL_len m
                have hpw : pd = wd ++ ⟨#[10]⟩ := by
                  refine toList_inj ?_
                  rw [← hpd, ← hwd]
                  simp
                have HPW := Hd.mk hpw
                clear hpw
                have HWD := Hd.mk hwd
                simp only [Rs.plain, Rs.cells, S, hpd, List.length_nil]
                clear hwd hpd
                go_upto_region 20 with (fail)
                have B5 := Blk.new w4 [.int .i64 m, .slice none 0 0, .string pd, .bool cl] 29 _ rfl
                have hb5 := HB.out.1.alloc (.cells #[.int .i64 m, .slice none 0 0, .string pd, .bool cl] 29)
                have hu5 := HB.out.2.alloc (.cells #[.int .i64 m, .slice none 0 0, .string pd, .bool cl] 29)
                refine wp_abs (fun W => PartW w sb w4.heap.size [.int .i64 m, .slice a fs.length cap, .string bd, .bool cl] [.int .i64 m, .slice none 0 0, .string pd, .bool cl] W) ⟨hb5, B5, hu5⟩ ?_
                clear B5 hb5 hu5 HB
                generalize w4.heap.size = pb
                rintro w5 h5
                have HB := Hd.mk h5
                clear h5
                obtain ⟨R, hR⟩ : ∃ R : World → Prop, R = PartW w sb pb [.int .i64 m, .slice a fs.length cap, .string bd, .bool cl] [.int .i64 m, .slice none 0 0, .string pd, .bool cl] := ⟨_, rfl⟩
                have HR := Hd.mk hR
                have c0 : ∀ x : Cls R, x.w.cell? ⟨sb, 0, none⟩ = some (.int .i64 m) := fun x => (show PartW _ _ _ _ _ _ by rw [← hR]; exact x.ok).1.cell 0
                have c1 : ∀ x : Cls R, x.w.cell? ⟨sb, 1, none⟩ = some (.slice a fs.length cap) := fun x => (show PartW _ _ _ _ _ _ by rw [← hR]; exact x.ok).1.cell 1
                have c2 : ∀ x : Cls R, x.w.cell? ⟨sb, 2, none⟩ = some (.string bd) := fun x => (show PartW _ _ _ _ _ _ by rw [← hR]; exact x.ok).1.cell 2
                have c3 : ∀ x : Cls R, x.w.cell? ⟨sb, 3, none⟩ = some (.bool cl) := fun x => (show PartW _ _ _ _ _ _ by rw [← hR]; exact x.ok).1.cell 3
                have d1 : ∀ x : Cls R, x.w.cell? ⟨pb, 1, none⟩ = some (.slice none 0 0) := fun x => (show PartW _ _ _ _ _ _ by rw [← hR]; exact x.ok).2.1.cell 1
                have d2 : ∀ x : Cls R, x.w.cell? ⟨pb, 2, none⟩ = some (.string pd) := fun x => (show PartW _ _ _ _ _ _ by rw [← hR]; exact x.ok).2.1.cell 2
                have d3 : ∀ x : Cls R, x.w.cell? ⟨pb, 3, none⟩ = some (.bool cl) := fun x => (show PartW _ _ _ _ _ _ by rw [← hR]; exact x.ok).2.1.cell 3
                have hup : ∀ (x : Cls R) w', Upd [] x.w w' → R w' := fun x w' hu => by rw [hR]; exact (show PartW _ _ _ _ _ _ by rw [← hR]; exact x.ok).up hu
                have htab : ∀ x : Cls R, Tab x.w := fun x => HT.out.upd (show PartW _ _ _ _ _ _ by rw [← hR]; exact x.ok).2.2
                have hrf : ∀ x : Cls R, Rf x.w a fs := fun x => (HC.out.upd (show PartW _ _ _ _ _ _ by rw [← hR]; exact x.ok).2.2).rf
                have hR0 : R w5.drew := by rw [hR]; exact ⟨HB.out.1.drew, HB.out.2.1.drew, HB.out.2.2.drew⟩
                obtain ⟨te, hte⟩ : ∃ t : ByteArray, (⟨(encL ⟨m, fs, body, cl⟩).toArray⟩ : ByteArray) = t := ⟨_, rfl⟩
                have htz : te.size ≤ 9000 := by rw [← hte, S_size]; exact HF.out.enc
                have hEq : te = t2 ++ ⟨#[99, 111, 110, 116, 101, 110, 116, 45, 108, 101, 110, 103, 116, 104, 58, 32]⟩ ++ d ++ ⟨#[13, 10, 13, 10]⟩ ++ bd := by
                  refine toList_inj ?_
                  rw [← hte]
                  simp only [ByteArray.data_append, Array.toList_append, HTL2.out, HEQ.out]
                  rw [HBS.out, ← HBD.out]
                  cases cl <;> simp [encL, flds, contLen, connClose, crlf]
                have HENC := Hd.mk (show ∀ x : Cls R, Calls Tryd.prog 13 #[.agg #[.int .i64 m, .slice a fs.length cap, .string bd, .bool cl]] x.w fun e w'' => e = .returned (.string te) ∧ ∃ y : Cls R, w'' = y.w from fun x => by
                  have h := encode_ok ⟨m, fs, body, cl⟩ a cap x.w (hrf x) (by show m ≤ _; omega) (by have := HF.out.flds; show (flds fs).length ≤ _; exact Nat.le_trans this (by omega)) (by have := HF.out.body; show body.length ≤ _; exact Nat.le_trans this (by omega)) (by have := HF.out.num; show fs.length ≤ _; exact Nat.le_trans this (by omega)) (htab x)
                  simp only [Rs.cells, S, HBD.out, hte] at h
                  exact Calls.cls h (fun e w' h => ⟨h.1, hup x w' h.2⟩))
                have HWRD := Hd.mk (show ∀ x : Cls R, Calls Tryd.prog 10 #[.int .i64 m] x.w fun e w'' => e = .returned (.string wd) ∧ ∃ y : Cls R, w'' = y.w from fun x => Calls.cls (word_ok (m : Int) x.w) (fun e w' h => ⟨h.1.trans (by rw [S, Int.toNat_natCast, HWD.out]), hup x w' h.2⟩))
                have y1 := str_yes hEq
                have y2 := str_yes HPW.out
                have y3 : (cl == cl) = true := by simp
                clear hR hup htab hrf hte hEq HB
                refine wp_region_cls R hR0 (by kernel_rfl) (by kernel_rfl) (fun _ => ?_)
                repeat (go_big_quiet_step (first | (go_at_call 13; rename_i x; with_reducible exact HENC.out x) | (go_at_call 10; rename_i x; with_reducible exact HWRD.out x)))
                refine wpQuiet_nil ?_
                intro _ hw'
                obtain ⟨nq, hw''⟩ := hw'
                subst hw''
                go_wp2_with fail
                go_ret
                exact ⟨rb (by simp), (show PartW _ _ _ _ _ _ by rw [← HR.out]; exact nq.ok).2.2⟩
theorem parts_row (cs : Array Value) (w : World) (hT : Tab w) (hz : Leaf.oks w [.int .i64, .sl [.str, .str], .str, .bool] cs.toList) :
    Calls Tryd.prog 4 #[.agg cs] w fun e w' => e = .returned (.bool true) ∧ Below w.heap.size w w' := by
  obtain ⟨k, fs, body, cl, a, cap, hcs, hC⟩ := leaf_rs hz
  have h := parts_walk k fs body cl a cap w hC hT
  rw [← hcs] at h
  exact h.mono fun _ _ h => ⟨h.1, h.2.nil_below⟩
end Go.Proofs.YtgmpahdagbelfaaDoor
