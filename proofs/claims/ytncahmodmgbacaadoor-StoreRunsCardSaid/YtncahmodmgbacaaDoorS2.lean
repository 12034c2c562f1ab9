/- Store: Tag, Shard, Right. -/
import Derived.Test.YtncahmodmgbacaaDoorS1
import Derived.Lib.ConvBytes
namespace Go.Proofs.YtncahmodmgbacaaDoor
set_option linter.unusedSimpArgs false
set_option linter.unusedVariables false
set_option linter.unnecessarySimpa false
open Go.RowKit BigFrame

theorem bytes_upd (w : World) (e : TypeId) (s : ByteArray) : Upd [] w (Lib.bytesWorld w e s) :=
  ⟨rfl, rfl, rfl, by rw [Lib.bytesWorld_size]; omega, fun k hk _ => Lib.bytesWorld_at_old w e s k hk⟩
theorem toList_len (s : ByteArray) : s.data.toList.length = s.size := by simp
theorem u32_xor (a b : Nat) (ha : a < 4294967296) (hb : b < 4294967296) : bits .xor .u32 (a : Int) (b : Int) = ((a ^^^ b : Nat) : Int) := by
  have h1 : (BitVec.ofInt 32 (a : Int)).toNat = a := by rw [BitVec.toNat_ofInt]; omega
  have h2 : (BitVec.ofInt 32 (b : Int)).toNat = b := by rw [BitVec.toNat_ofInt]; omega
  have h3 : a ^^^ b < 2 ^ 32 := Nat.xor_lt_two_pow (by omega) (by omega)
  show IntKind.u32.wrap ((BitVec.ofInt 32 (a : Int) ^^^ BitVec.ofInt 32 (b : Int)).toNat : Nat) = _
  rw [BitVec.toNat_xor, h1, h2, IntKind.wrap_u32]
  omega
theorem fnv_wrap (a b : Nat) (ha : a < 4294967296) (hb : b < 4294967296) : IntKind.u32.wrap (bits .xor .u32 (a : Int) (b : Int) * 16777619) = ((fnvS a b : Nat) : Int) := by
  rw [u32_xor a b ha hb, IntKind.wrap_u32]
  unfold fnvS
  omega
set_option maxHeartbeats 1000000 in
theorem tag_ok (s : ByteArray) (w : World) (hs : s.size ≤ 1000000) (h : Tb w) : Calls Tryd.prog 11 #[.string s] w fun e w' => e = .returned (.string ⟨(tagL s.data.toList).toArray⟩) ∧ Upd [] w w' := by
  have HT := Hd.mk h
  have hcv := Lib.run_convert_string_bytes (P := Tryd.prog) w 9 46 5 s Tryd.underlying9 Tryd.underlying46 Tryd.underlying5
  have HC := Hd.mk (Lib.bytesWorld_cell w 5 s)
  have HU := Hd.mk (bytes_upd w 5 s)
  have HN := Hd.mk (toList_len s)
  clear h
  go_enter Tryd.func11, Tryd.ntmps11
  go_upto_region 3 with (fail)
  generalize grownCap w s.size 0 5 = cap at *
  refine wp_abs (fun W => (∀ j, j < s.size → W.cell? ⟨w.heap.size, j, none⟩ = some (.int .u8 (s.data.toList.getD j 0).toNat)) ∧ Upd [] w W) ⟨HC.out, HU.out⟩ ?_
  clear HC HU hcv
  generalize w.heap.size = sb
  rintro w1 ⟨hc, u1⟩
  have HC := Hd.mk hc
  have HU := Hd.mk u1
  clear hc u1
  go_loopg [3, 5, 9] s.size (fun g s3 s5 ii wr => ∃ i : Nat, i + g = s.size ∧ wr = w1 ∧ ii = .int .i64 i ∧ s3 = .int .u32 ((fnv (s.data.toList.take i) : Nat) : Int))
  case atStart => exact ⟨0, by omega, rfl, rfl, by simp [fnv]⟩
  case round =>
    obtain ⟨i, hg, rfl, rfl, rfl⟩ := hrel
    by_cases hi : i < s.size
    · have hc := HC.out i hi
      have HST := Hd.mk (fnv_take (l := s.data.toList) (i := i) (by rw [HN.out]; exact hi))
      have hgd : s.data.toList.getD i 0 = s.data.toList[i]'(by rw [HN.out]; exact hi) := by simp [List.getD, hi]
      rw [hgd] at hc
      obtain ⟨c, hcc⟩ : ∃ c : Nat, (s.data.toList[i]'(by rw [HN.out]; exact hi)).toNat = c := ⟨_, rfl⟩
      have hc2 : c < 256 := by rw [← hcc]; exact UInt8.toNat_lt _
      obtain ⟨f, hf⟩ : ∃ f : Nat, fnv (s.data.toList.take i) = f := ⟨_, rfl⟩
      have hf2 : f < 4294967296 := by rw [← hf]; exact fnv_lt _
      rw [hcc] at hc
      have HQ := Hd.mk (show fnv (s.data.toList.take (i + 1)) = fnvS f c by rw [HST.out, hf, hcc])
      have hw := fnv_wrap f c hf2 (by omega)
      rw [hf]
      clear hgd hcc hf HST
      go_wp2_with fail
      go_roundg (gk - 1)
      case measure => omega
      case rel => exact ⟨i + 1, by omega, rfl, by go_num, by rw [HQ.out]⟩
    · obtain rfl : i = s.size := by omega
      rw [List.take_of_length_le (by rw [HN.out]; omega)]
      obtain ⟨f, hf⟩ : ∃ f : Nat, fnv s.data.toList = f := ⟨_, rfl⟩
      have hf2 : f < 4294967296 := by rw [← hf]; exact fnv_lt _
      rw [hf]
      have hhl : (⟨(hexD f).toArray⟩ : ByteArray).size ≤ 8 := by
        have := hexD_len f 8 (by omega) (by omega)
        show (hexD f).toArray.size ≤ 8
        simpa using this
      have HF := Hd.mk hf
      have hit := itoaB_size (s.size : Int) (by omega) (by omega)
      clear hf hi hg
      go_wp2_with fail
      refine (format_ok f wr hf2 (HT.out.upd HU.out)).mono ?_
      rintro e w2 ⟨rfl, u2⟩
      have HU := Hd.mk (HU.out.trans u2 (by simp))
      clear u2
      obtain ⟨hx, hhx⟩ : ∃ t : ByteArray, (⟨(hexD f).toArray⟩ : ByteArray) = t := ⟨_, rfl⟩
      rw [hhx] at hhl ⊢
      have HHX := Hd.mk hhx
      clear hhx
      obtain ⟨it, hit2⟩ : ∃ t : ByteArray, itoaB (s.size : Int) = t := ⟨_, rfl⟩
      rw [hit2] at hit
      have HIT := Hd.mk hit2
      clear hit2
      go_wp2_with fail
      refine (itoa_ok (s.size : Int) w2 (by omega) (by omega) (HT.out.upd HU.out).1).mono ?_
      rintro e w3 ⟨rfl, u3⟩
      have HU := Hd.mk (HU.out.trans u3 (by simp))
      rw [HIT.out]
      clear u3
      go_wp2_with fail
      go_ret
      refine ⟨rs_ ?_, HU.out⟩
      apply ByteArray.ext
      apply Array.toList_inj.1
      rw [← HHX.out, ← HIT.out]
      unfold tagL itoaB
      rw [Lib.itoa_nonneg, HF.out, HN.out]
      simp

/-- A key's shard. -/
def shdL (l : List UInt8) : Nat := shl l % 4
theorem shdL_lt (l : List UInt8) : shdL l < 4 := Nat.mod_lt _ (by omega)
set_option maxHeartbeats 1000000 in
theorem shard_ok (s : ByteArray) (w : World) (hs : s.size ≤ 140737488351232) : Calls Tryd.prog 12 #[.string s] w fun e w' => e = .returned (.int .i64 (shdL s.data.toList)) ∧ Upd [] w w' := by
  have hcv := Lib.run_convert_string_bytes (P := Tryd.prog) w 9 46 5 s Tryd.underlying9 Tryd.underlying46 Tryd.underlying5
  have HC := Hd.mk (Lib.bytesWorld_cell w 5 s)
  have HU := Hd.mk (bytes_upd w 5 s)
  have HN := Hd.mk (toList_len s)
  go_enter Tryd.func12, Tryd.ntmps12
  go_upto_region 3 with (fail)
  generalize grownCap w s.size 0 5 = cap at *
  refine wp_abs (fun W => (∀ j, j < s.size → W.cell? ⟨w.heap.size, j, none⟩ = some (.int .u8 (s.data.toList.getD j 0).toNat)) ∧ Upd [] w W) ⟨HC.out, HU.out⟩ ?_
  clear HC HU hcv
  generalize w.heap.size = sb
  rintro w1 ⟨hc, u1⟩
  have HC := Hd.mk hc
  have HU := Hd.mk u1
  clear hc u1
  go_loopg [3, 5, 9] s.size (fun g s3 s5 ii wr => ∃ i : Nat, i + g = s.size ∧ wr = w1 ∧ ii = .int .i64 i ∧ s3 = .int .i64 ((shl (s.data.toList.take i) : Nat) : Int))
  case atStart => exact ⟨0, by omega, rfl, rfl, by simp [shl]⟩
  case round =>
    obtain ⟨i, hg, rfl, rfl, rfl⟩ := hrel
    by_cases hi : i < s.size
    · have hc := HC.out i hi
      have HST := Hd.mk (shl_take (l := s.data.toList) (i := i) (by rw [HN.out]; exact hi))
      have hgd : s.data.toList.getD i 0 = s.data.toList[i]'(by rw [HN.out]; exact hi) := by simp [List.getD, hi]
      rw [hgd] at hc
      obtain ⟨c, hcc⟩ : ∃ c : Nat, (s.data.toList[i]'(by rw [HN.out]; exact hi)).toNat = c := ⟨_, rfl⟩
      have hc2 : c < 256 := by rw [← hcc]; exact UInt8.toNat_lt _
      obtain ⟨f, hf⟩ : ∃ f : Nat, shl (s.data.toList.take i) = f := ⟨_, rfl⟩
      have hf2 : f < 997 := by rw [← hf]; exact shl_lt _
      rw [hcc] at hc
      have HQ := Hd.mk (show shl (s.data.toList.take (i + 1)) = (f * 31 + c) % 997 by rw [HST.out, hf, hcc])
      rw [hf]
      clear hgd hcc hf HST
      go_wp2_with fail
      go_roundg (gk - 1)
      case measure => omega
      case rel => exact ⟨i + 1, by omega, rfl, by go_num, by rw [HQ.out]; go_num⟩
    · obtain rfl : i = s.size := by omega
      rw [List.take_of_length_le (by rw [HN.out]; omega)]
      obtain ⟨f, hf⟩ : ∃ f : Nat, shl s.data.toList = f := ⟨_, rfl⟩
      have hf2 : f < 997 := by rw [← hf]; exact shl_lt _
      rw [hf]
      have HF := Hd.mk hf
      clear hf hi hg
      go_wp2_with fail
      go_ret
      refine ⟨?_, HU.out⟩
      unfold shdL
      rw [HF.out]
      simp
set_option maxHeartbeats 1000000 in
theorem lshard_ok (s : ByteArray) (w : World) (hs : s.size ≤ 140737488351232) : Calls Tryd.prog 13 #[.string s] w fun e w' => e = .returned (.int .i64 (shdL s.data.toList)) ∧ w' = w := by
  have HN := Hd.mk (toList_len s)
  go_enter Tryd.func13, Tryd.ntmps13
  go_upto_region 3 with (fail)
  go_loopg [3, 4, 7] s.size (fun g s3 s4 ii wr => ∃ i : Nat, i + g = s.size ∧ wr = w ∧ ii = .int .i64 i ∧ s3 = .int .i64 ((shl (s.data.toList.take i) : Nat) : Int))
  case atStart => exact ⟨0, by omega, rfl, rfl, by simp [shl]⟩
  case round =>
    obtain ⟨i, hg, rfl, rfl, rfl⟩ := hrel
    by_cases hi : i < s.size
    · have HST := Hd.mk (shl_take (l := s.data.toList) (i := i) (by rw [HN.out]; exact hi))
      have hgd : s[i]'hi = s.data.toList[i]'(by rw [HN.out]; exact hi) := by simp; rfl
      obtain ⟨c, hcc⟩ : ∃ c : UInt8, s[i]'hi = c := ⟨_, rfl⟩
      have hc2 : c.toNat < 256 := UInt8.toNat_lt _
      obtain ⟨f, hf⟩ : ∃ f : Nat, shl (s.data.toList.take i) = f := ⟨_, rfl⟩
      have hf2 : f < 997 := by rw [← hf]; exact shl_lt _
      have HQ := Hd.mk (show shl (s.data.toList.take (i + 1)) = (f * 31 + c.toNat) % 997 by rw [HST.out, hf, ← hgd, hcc])
      rw [hf]
      clear hgd hf HST
      go_wp2_with fail
      go_roundg (gk - 1)
      case measure => omega
      case rel => exact ⟨i + 1, by omega, rfl, by go_num, by rw [HQ.out]; have := hcc; go_num⟩
    · obtain rfl : i = s.size := by omega
      rw [List.take_of_length_le (by rw [HN.out]; omega)]
      obtain ⟨f, hf⟩ : ∃ f : Nat, shl s.data.toList = f := ⟨_, rfl⟩
      have hf2 : f < 997 := by rw [← hf]; exact shl_lt _
      rw [hf]
      have HF := Hd.mk hf
      clear hf hi hg
      go_wp2_with fail
      go_ret
      refine ⟨?_, rfl⟩
      unfold shdL
      rw [HF.out]
      simp
/-- May it be a key? -/
def rightK (s : ByteArray) : Bool := decide (0 < s.size ∧ s.size ≤ 40)
theorem size0 {s : ByteArray} (h : s.size = 0) : s = ⟨#[]⟩ := by
  apply ByteArray.ext
  exact Array.eq_empty_of_size_eq_zero h
theorem right_ok (s : ByteArray) (w : World) : Calls Tryd.prog 14 #[.string s] w fun e w' => e = .returned (.bool (rightK s)) ∧ w' = w := by
  unfold rightK
  by_cases h0 : s.size = 0
  · rw [decide_eq_false (by omega)]
    obtain rfl := size0 h0
    go_enter Tryd.func14, Tryd.ntmps14
    go_wp2_with fail
    go_ret
    exact ⟨rfl, rfl⟩
  · have hne := str_ne0 (a := s) (fun e => h0 (by rw [e]; rfl))
    by_cases h1 : s.size ≤ 40
    · rw [decide_eq_true (by omega)]
      have h2 : decide ((s.size : Int) ≤ 40) = true := decide_eq_true (by omega)
      go_enter Tryd.func14, Tryd.ntmps14
      go_wp2_with fail
      go_ret
      exact ⟨rfl, rfl⟩
    · rw [decide_eq_false (by omega)]
      have h2 : decide ((s.size : Int) ≤ 40) = false := decide_eq_false (by omega)
      go_enter Tryd.func14, Tryd.ntmps14
      go_wp2_with fail
      go_ret
      exact ⟨rfl, rfl⟩
end Go.Proofs.YtncahmodmgbacaaDoor
