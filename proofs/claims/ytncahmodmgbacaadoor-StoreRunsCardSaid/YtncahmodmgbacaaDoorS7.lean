/- StoreTags: tags are those of the document; of unlike lengths they are unlike. -/
import Derived.Test.YtncahmodmgbacaaDoorS6

namespace Go.Proofs.YtncahmodmgbacaaDoor
set_option linter.unusedSimpArgs false
set_option linter.unusedVariables false
set_option linter.unnecessarySimpa false
open Go.RowKit BigFrame

/-- The law's own digits: so far d, n left: of whatever base. -/
structure Dg (E : List UInt8) (F : Nat → List UInt8) (q : Nat) (L : Nat) (b : Bool) (n : Nat) (d : ByteArray) (g : Nat) : Prop where
  eq : E = (if b then F n else []) ++ d.data.toList
  le : n ≤ L
  g0 : b = true → g = n + 1
  g1 : b = false → g = 0
theorem Dg.size {E : List UInt8} {F : Nat → List UInt8} {q L n g : Nat} {b : Bool} {d : ByteArray} (h : Dg E F q L b n d g) : d.size ≤ E.length := by
  have h1 := congrArg List.length h.eq
  rw [List.length_append] at h1
  have h2 : d.data.toList.length = d.size := by simp
  omega
theorem Dg.step {E : List UInt8} {F : Nat → List UInt8} {q L n g : Nat} {d : ByteArray} (h : Dg E F q L true n d g) (hq : 1 < q) (c : ByteArray) (hF : F n = (if n < q then [] else F (n / q)) ++ c.data.toList) :
    Dg E F q L (decide (q ≤ n)) (n / q) (c ++ d) (if q ≤ n then n / q + 1 else 0) := by
  refine ⟨?_, Nat.le_trans (Nat.div_le_self _ _) h.le, fun e => if_pos (of_decide_eq_true e), fun e => if_neg (of_decide_eq_false e)⟩
  rw [h.eq, if_pos rfl, hF]
  by_cases hn : n < q
  · rw [if_pos hn, if_neg (by simp; omega)]; simp
  · rw [if_neg hn, if_pos (by simp; omega)]; simp
theorem Dg.less {n q : Nat} (hq : 1 < q) : (if q ≤ n then n / q + 1 else 0) < n + 1 := by
  split
  · have := Nat.div_lt_self (show 0 < n by omega) hq
    omega
  · omega
theorem u32_mask15 (n : Nat) (hn : n < 4294967296) : bits .and .u32 (n : Int) 15 = ((n % 16 : Nat) : Int) := by
  have hm : (BitVec.ofInt 32 15).toNat = 2 ^ 4 - 1 := by decide
  have key : (BitVec.ofInt 32 (n : Int) &&& BitVec.ofInt 32 15).toNat = n % 2 ^ 4 := by
    rw [BitVec.toNat_and, BitVec.toNat_ofInt, hm, Nat.and_two_pow_sub_one_eq_mod]
    omega
  show IntKind.u32.wrap ((BitVec.ofInt 32 (n : Int) &&& BitVec.ofInt 32 15).toNat : Nat) = _
  rw [key, IntKind.wrap_u32]
  omega
theorem hexs (d : Nat) (h : d < 16) : ((⟨#[48, 49, 50, 51, 52, 53, 54, 55, 56, 57, 97, 98, 99, 100, 101, 102]⟩ : ByteArray).extract d (d + 1)).data.toList = [hexC d] := by
  rcases (by omega : d = 0 ∨ d = 1 ∨ d = 2 ∨ d = 3 ∨ d = 4 ∨ d = 5 ∨ d = 6 ∨ d = 7 ∨ d = 8 ∨ d = 9 ∨ d = 10 ∨ d = 11 ∨ d = 12 ∨ d = 13 ∨ d = 14 ∨ d = 15) with e | e | e | e | e | e | e | e | e | e | e | e | e | e | e | e <;> subst e <;> decide
theorem decs (d : Nat) (h : d < 10) : ((⟨#[48, 49, 50, 51, 52, 53, 54, 55, 56, 57]⟩ : ByteArray).extract d (d + 1)).data.toList = [UInt8.ofNat (48 + d)] := by
  rcases (by omega : d = 0 ∨ d = 1 ∨ d = 2 ∨ d = 3 ∨ d = 4 ∨ d = 5 ∨ d = 6 ∨ d = 7 ∨ d = 8 ∨ d = 9) with e | e | e | e | e | e | e | e | e | e <;> subst e <;> decide
set_option maxRecDepth 100000 in
set_option maxHeartbeats 2000000 in
theorem tags_walk (a b : ByteArray) (w : World) (ha : a.size ≤ 140737488351232) (hb : b.size ≤ 140737488351232) (hT : Tb w) :
    Calls Tryd.prog 3 #[.string a, .string b] w fun e w' => e = .returned (.bool true) ∧ Upd [] w w' := by
  have HT := Hd.mk hT
  clear hT
  have HN := Hd.mk (toList_len a)
  go_enter Tryd.func3, Tryd.ntmps3
  go_wp2_with fail
  refine (fit_ok w HT.out).mono ?_
  rintro e w1 ⟨rfl, u1⟩
  have HU := Hd.mk u1
  clear u1
  by_cases hl : 1000 < a.size + b.size
  · have hl2 : (1000 : Int) < a.size + b.size := by omega
    go_wp2_with fail
    go_ret
    exact ⟨rfl, HU.out⟩
  · have hl2 : ¬ (1000 : Int) < a.size + b.size := by omega
    go_upto_region 7 with (fail)
    go_loopg [5, 6, 22] a.size (fun g s5 s6 ii wr => ∃ i : Nat, i + g = a.size ∧ wr = w1 ∧ ii = .int .i64 i ∧ s5 = .int .u32 ((fnv (a.data.toList.take i) : Nat) : Int))
    case atStart => exact ⟨0, by omega, rfl, rfl, by simp [fnv]⟩
    case round =>
      obtain ⟨i, hg, rfl, rfl, rfl⟩ := hrel
      by_cases hi : i < a.size
      · have HST := Hd.mk (fnv_take (l := a.data.toList) (i := i) (by rw [HN.out]; exact hi))
        have hgd : a[i]'hi = a.data.toList[i]'(by rw [HN.out]; exact hi) := by simp; rfl
        obtain ⟨c, hcc⟩ : ∃ c : UInt8, a[i]'hi = c := ⟨_, rfl⟩
        have hc2 : c.toNat < 256 := UInt8.toNat_lt _
        obtain ⟨f, hf⟩ : ∃ f : Nat, fnv (a.data.toList.take i) = f := ⟨_, rfl⟩
        have hf2 : f < 4294967296 := by rw [← hf]; exact fnv_lt _
        have HQ := Hd.mk (show fnv (a.data.toList.take (i + 1)) = fnvS f c.toNat by rw [HST.out, hf, ← hgd, hcc])
        have hw := fnv_wrap f c.toNat hf2 (by omega)
        rw [hf]
        clear hgd hf HST
        go_wp2_with fail
        go_roundg (gk - 1)
        case measure => omega
        case rel => exact ⟨i + 1, by omega, rfl, by go_num, by rw [HQ.out]⟩
      · obtain rfl : i = a.size := by omega
        rw [List.take_of_length_le (by rw [HN.out]; omega)]
        obtain ⟨f, hf⟩ : ∃ f : Nat, fnv a.data.toList = f := ⟨_, rfl⟩
        have hf2 : f < 4294967296 := by rw [← hf]; exact fnv_lt _
        rw [hf]
        have HF := Hd.mk hf
        have HHL := Hd.mk (hexD_len f 8 (by omega) (by omega))
        clear hf hi hg
        go_wp2_with fail
        go_loopg [5, 7, 8] (f + 1) (fun g s5 s7 s8 wq => ∃ (b : Bool) (n : Nat) (d : ByteArray), s5 = .int .u32 n ∧ s7 = .string d ∧ s8 = .bool b ∧ Hd (Dg (hexD f) hexD 16 f b n d g) ∧ wq = wr)
        case atStart => exact ⟨true, f, _, rfl, rfl, rfl, Hd.mk ⟨by simp, Nat.le_refl _, fun _ => rfl, fun e => absurd e (by simp)⟩, rfl⟩
        case round =>
          obtain ⟨bb, n, d, rfl, rfl, rfl, HD, rfl⟩ := hrel
          have hds := HD.out.size
          have hhl := HHL.out
          cases bb with
          | true =>
            have hn := HD.out.le
            have HG := HD.out.g0 rfl
            have hmask : bits .and .u32 (n : Int) 15 = (n : Int) % 16 := by rw [u32_mask15 n (by omega)]; omega
            have HST := Hd.mk (HD.out.step (by omega) ((⟨#[48, 49, 50, 51, 52, 53, 54, 55, 56, 57, 97, 98, 99, 100, 101, 102]⟩ : ByteArray).extract (n % 16) (n % 16 + 1)) (by rw [hexs _ (Nat.mod_lt _ (by omega))]; exact hexD_step n))
            go_wp2_with fail
            go_roundg (if 16 ≤ n then n / 16 + 1 else 0)
            case measure => rw [HG]; exact Dg.less (by omega)
            case rel => exact ⟨decide (16 ≤ n), n / 16, _, by simp, rfl, congrArg Value.bool (by rw [decide_eq_decide]; omega), HST, rfl⟩
          | false =>
            have HX := Hd.mk (show d.data.toList = hexD f by rw [HD.out.eq]; simp)
            have hdx : d.size ≤ 8 := by omega
            clear HD hds hhl
            have HDL := Hd.mk (show (Lib.decDigits a.size).length ≤ 21 by
              have h2 := itoaB_size (a.size : Int) (by omega) (by omega)
              have h3 : (itoaB (a.size : Int)).size = (Lib.decDigits a.size).length := by
                unfold itoaB
                rw [Lib.itoa_nonneg]
                show (Lib.decDigits a.size).toArray.size = _
                simp
              omega)
            go_wp2_with fail
            go_loopg [9, 10, 11] (a.size + 1) (fun g s9 s10 s11 wq => ∃ (b : Bool) (n : Nat) (y : ByteArray), s10 = .int .i64 n ∧ s9 = .string y ∧ s11 = .bool b ∧ Hd (Dg (Lib.decDigits a.size) Lib.decDigits 10 a.size b n y g) ∧ wq = wr)
            case atStart => exact ⟨true, a.size, _, rfl, rfl, rfl, Hd.mk ⟨by simp, Nat.le_refl _, fun _ => rfl, fun e => absurd e (by simp)⟩, rfl⟩
            case round =>
              obtain ⟨bb, n, y, rfl, rfl, rfl, HD, rfl⟩ := hrel
              have hds := HD.out.size
              have hhl := HDL.out
              cases bb with
              | true =>
                have hn := HD.out.le
                have HG := HD.out.g0 rfl
                have HST := Hd.mk (HD.out.step (by omega) ((⟨#[48, 49, 50, 51, 52, 53, 54, 55, 56, 57]⟩ : ByteArray).extract (n % 10) (n % 10 + 1)) (by rw [decs _ (Nat.mod_lt _ (by omega))]; exact decD_step n))
                go_wp2_with fail
                go_roundg (if 10 ≤ n then n / 10 + 1 else 0)
                case measure => rw [HG]; exact Dg.less (by omega)
                case rel => exact ⟨decide (10 ≤ n), n / 10, _, by simp, rfl, congrArg Value.bool (by rw [decide_eq_decide]; omega), HST, rfl⟩
              | false =>
                have HY := Hd.mk (show y.data.toList = Lib.decDigits a.size by rw [HD.out.eq]; simp)
                have hyx : y.size ≤ 21 := by omega
                clear HD hds hhl
                have HTG := Hd.mk (show (⟨(tagL a.data.toList).toArray⟩ : ByteArray) = d ++ ⟨#[45]⟩ ++ y by
                  apply ByteArray.ext
                  apply Array.toList_inj.1
                  simp only [ByteArray.data_append, Array.toList_append, HX.out, HY.out]
                  unfold tagL
                  rw [HF.out, HN.out]
                  simp)
                go_wp2_with fail
                refine (tag_ok a wr (by omega) (HT.out.upd HU.out)).mono ?_
                rintro e w2 ⟨rfl, u2⟩
                have HU := Hd.mk (HU.out.trans u2 (by simp))
                clear u2
                obtain ⟨ta, hta⟩ : ∃ t : ByteArray, (⟨(tagL a.data.toList).toArray⟩ : ByteArray) = t := ⟨_, rfl⟩
                rw [hta]
                have HTG := Hd.mk (show ta = d ++ ⟨#[45]⟩ ++ y by rw [← hta]; exact HTG.out)
                have HTA := Hd.mk hta
                clear hta
                have y1 := str_yes HTG.out
                by_cases hab : a.size = b.size
                · have e1 : ((a.size : Int) == (b.size : Int)) = true := by rw [hab]; simp
                  go_wp2_with fail
                  go_ret
                  exact ⟨rfl, HU.out⟩
                · have e1 : ((a.size : Int) == (b.size : Int)) = false := by simp; omega
                  go_wp2_with fail
                  refine (tag_ok a w2 (by omega) (HT.out.upd HU.out)).mono ?_
                  rintro e w3 ⟨rfl, u3⟩
                  have HU := Hd.mk (HU.out.trans u3 (by simp))
                  clear u3
                  rw [HTA.out]
                  go_wp2_with fail
                  refine (tag_ok b w3 (by omega) (HT.out.upd HU.out)).mono ?_
                  rintro e w4 ⟨rfl, u4⟩
                  have HU := Hd.mk (HU.out.trans u4 (by simp))
                  clear u4
                  have HNE := Hd.mk (show ta ≠ ⟨(tagL b.data.toList).toArray⟩ by
                    rw [← HTA.out]
                    intro e
                    have e2 := congrArg (fun t : ByteArray => t.data.toList) e
                    simp only at e2
                    exact tagL_ne (by rw [toList_len, toList_len]; exact hab) e2)
                  obtain ⟨tb, htb⟩ : ∃ t : ByteArray, (⟨(tagL b.data.toList).toArray⟩ : ByteArray) = t := ⟨_, rfl⟩
                  rw [htb] at HNE ⊢
                  clear htb
                  have y2 := str_no HNE.out
                  go_wp2_with fail
                  go_ret
                  exact ⟨rfl, HU.out⟩
theorem tags_row (a b : ByteArray) (w : World) (hT : Tb w) (ha : a.size ≤ 140737488351232) (hb : b.size ≤ 140737488351232) :
    Calls Tryd.prog 3 #[.string a, .string b] w fun e w' => e = .returned (.bool true) ∧ Below w.heap.size w w' :=
  (tags_walk a b w ha hb hT).mono fun _ _ h => ⟨h.1, h.2.nil_below⟩
end Go.Proofs.YtncahmodmgbacaaDoor
