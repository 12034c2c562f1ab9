/- Store: numbers as texts of sixteens: strconv.FormatUint. -/
import Derived.Test.YtncahmodmgbacaaDoorS0
import Derived.Test.YtncahmodmgbacaaDoorBs
import Derived.Test.YtncahmodmgbacaaDoorCq
import Derived.Lib.LaidTab

namespace Go.Proofs.YtncahmodmgbacaaDoor
set_option linter.unusedSimpArgs false
set_option linter.unusedVariables false
set_option linter.unnecessarySimpa false
open Go.RowKit BigFrame

def dbTab : List Int := [0, 1, 56, 2, 57, 49, 28, 3, 61, 58, 42, 50, 38, 29, 17, 4, 62, 47, 59, 36, 45, 43, 51, 22, 53, 39, 33, 30, 24, 18, 12, 5, 63, 55, 48, 27, 60, 41, 37, 16, 46, 35, 44, 21, 52, 32, 23, 11, 54, 26, 40, 15, 34, 20, 31, 10, 25, 14, 19, 9, 13, 8, 7, 6]
def TabD (w : World) : Prop := Lib.TabIs Tryd.prog w "math/bits.deBruijn64tab" .u8 dbTab
/-- Both of the library's tables stand. -/
def Tb (w : World) : Prop := Tab w ∧ TabD w
theorem TabD.upd {w w' : World} (h : TabD w) (hu : Upd [] w w') : TabD w' := by
  unfold TabD Lib.TabIs at *
  unfold World.var? at *
  cases hg : Tryd.prog.globalNamed "math/bits.deBruijn64tab" with
  | none => rw [hg] at h; cases h
  | some g =>
    rw [hg] at h
    simp only [Option.bind_some] at h ⊢
    have hlt : g < w.heap.size := by
      apply Classical.byContradiction
      intro hn
      rw [Array.getElem?_eq_none (by omega)] at h
      cases h
    rw [hu.block g hlt (by simp)]
    exact h
theorem Tb.upd {w w' : World} (h : Tb w) (hu : Upd [] w w') : Tb w' := ⟨h.1.upd hu, h.2.upd hu⟩
theorem tz64 (w : World) (h : TabD w) : Calls Tryd.prog 62 #[.int .u64 16] w fun e w' => e = .returned (.int .i64 4) ∧ w' = w := by
  have hc : w.cell? ⟨2, 15, none⟩ = some (.int .u8 4) := Lib.TabIs.cell h (by kernel_rfl : Tryd.prog.globalNamed "math/bits.deBruijn64tab" = some 2) 15 (by decide)
  have h1 : IntKind.u64.wrap (-16) = 18446744073709551600 := by kernel_rfl
  have h2 : bits BinOp.and IntKind.u64 16 18446744073709551600 = 16 := by kernel_rfl
  have h3 : IntKind.u64.wrap (16 * 285870213051353865) = 4573923408821661840 := by kernel_rfl
  have HT := Hd.mk h
  clear h
  go_enter Tryd.func62, Tryd.ntmps62
  go_wp2_with fail
  go_ret
  exact ⟨rfl, rfl⟩
theorem tz (w : World) (h : TabD w) : Calls Tryd.prog 54 #[.int .u64 16] w fun e w' => e = .returned (.int .i64 4) ∧ w' = w := by
  go_enter Tryd.func54, Tryd.ntmps54
  go_wp2_with fail
  refine (tz64 w h).mono ?_
  rintro e w1 ⟨rfl, rfl⟩
  go_wp2_with fail
  go_ret
  exact ⟨rfl, rfl⟩
theorem pow2 (w : World) : Calls Tryd.prog 53 #[.int .i64 16] w fun e w' => e = .returned (.bool true) ∧ w' = w := by
  go_enter Tryd.func53, Tryd.ntmps53
  go_wp2_with fail
  go_ret
  exact ⟨rfl, rfl⟩
theorem u64_mask15 (n : Nat) (hn : n < 18446744073709551616) : bits .and .u64 (n : Int) 15 = ((n % 16 : Nat) : Int) := by
  have hm : (BitVec.ofInt 64 15).toNat = 2 ^ 4 - 1 := by decide
  have key : (BitVec.ofInt 64 (n : Int) &&& BitVec.ofInt 64 15).toNat = n % 2 ^ 4 := by
    rw [BitVec.toNat_and, BitVec.toNat_ofInt, hm, Nat.and_two_pow_sub_one_eq_mod]
    omega
  show IntKind.u64.wrap ((BitVec.ofInt 64 (n : Int) &&& BitVec.ofInt 64 15).toNat : Nat) = _
  rw [key, IntKind.wrap_u64]
  omega
/-- So far the digits bs are laid at the end of the array vs; n is left. -/
structure Fb (n0 n : Nat) (bs : List UInt8) (vs : List Value) : Prop where
  eq : hexD n0 = hexD n ++ bs
  le : n ≤ n0
  len : vs.length = 65
  tail : vs.drop (65 - bs.length) = bs.map fun c => Value.int .u8 c.toNat
theorem set_drop {α : Type} (l : List α) (j : Nat) (v : α) (h : j < l.length) : (l.set j v).drop j = v :: l.drop (j + 1) := by
  rw [List.drop_eq_getElem_cons (by simpa using h), List.getElem_set_self, List.drop_set_of_lt (by omega)]
theorem Fb.step {n0 n : Nat} {bs : List UInt8} {vs : List Value} (h : Fb n0 n bs vs) (hn : 16 ≤ n) (hb : bs.length ≤ 64) {j : Nat} (hj : j + bs.length = 64) : Fb n0 (n / 16) (hexC (n % 16) :: bs) (vs.set j (.int .u8 ((hexC (n % 16)).toNat : Nat))) := by
  obtain ⟨h1, h2, h3, h4⟩ := h
  refine ⟨?_, by omega, by simpa using h3, ?_⟩
  · rw [h1, hexD_step n, if_neg (by omega)]
    simp
  · have e1 : 65 - (hexC (n % 16) :: bs).length = j := by simp; omega
    rw [e1, set_drop _ _ _ (by omega)]
    have e2 : 65 - bs.length = j + 1 := by omega
    rw [e2] at h4
    rw [h4]
    rfl
theorem Fb.last {n0 n : Nat} {bs : List UInt8} {vs : List Value} (h : Fb n0 n bs vs) (hn : n < 16) (hb : bs.length ≤ 64) {j : Nat} (hj : j + bs.length = 64) : hexD n0 = hexC n :: bs ∧ (vs.set j (.int .u8 ((hexC n).toNat : Nat))).drop j = (hexD n0).map fun c => Value.int .u8 c.toNat := by
  obtain ⟨h1, h2, h3, h4⟩ := h
  have e0 : hexD n0 = hexC n :: bs := by
    rw [h1, hexD, dif_pos hn]
    rfl
  refine ⟨e0, ?_⟩
  rw [e0, set_drop _ _ _ (by omega)]
  have e2 : 65 - bs.length = j + 1 := by omega
  rw [e2] at h4
  rw [h4]
  rfl
theorem conv_at (W : World) (b j : Nat) (vs : List Value) (t : TypeId) (bs : List UInt8) (k : Nat) (hk : bs.length = k) (h : Blk W b vs t) (ht : vs.drop j = bs.map fun c => Value.int .u8 c.toNat) :
    (convert 46 9 (.slice (some ⟨b, j, none⟩) k k)).run Tryd.prog W = .ok (.string ⟨bs.toArray⟩) W := by
  have := run_convert_bytes_arg (P := Tryd.prog) W 46 5 Tryd.underlying46 Tryd.underlying5 b j k k (bs.map fun c => (c.toNat : Int)) (by simpa using hk) (fun i hi => by
    rw [h.cell, ← List.getElem?_drop, ht]
    have hi' : i < bs.length := by omega
    simp [List.getD, hi']) 9 Tryd.underlying9
  rw [this]
  unfold strOfNums
  have e : ((fun n : Int => UInt8.ofNat n.toNat) ∘ fun c : UInt8 => (c.toNat : Int)) = id := by funext c; simp
  rw [List.map_map, e, List.map_id]
/-- The byte that stands for a sixteenth. -/
theorem dgs_val (d : Nat) (h : d < 16) : ∀ (h' : d < (⟨#[48, 49, 50, 51, 52, 53, 54, 55, 56, 57, 97, 98, 99, 100, 101, 102, 103, 104, 105, 106, 107, 108, 109, 110, 111, 112, 113, 114, 115, 116, 117, 118, 119, 120, 121, 122]⟩ : ByteArray).size), (⟨#[48, 49, 50, 51, 52, 53, 54, 55, 56, 57, 97, 98, 99, 100, 101, 102, 103, 104, 105, 106, 107, 108, 109, 110, 111, 112, 113, 114, 115, 116, 117, 118, 119, 120, 121, 122]⟩ : ByteArray)[d] = hexC d := by
  rcases (by omega : d = 0 ∨ d = 1 ∨ d = 2 ∨ d = 3 ∨ d = 4 ∨ d = 5 ∨ d = 6 ∨ d = 7 ∨ d = 8 ∨ d = 9 ∨ d = 10 ∨ d = 11 ∨ d = 12 ∨ d = 13 ∨ d = 14 ∨ d = 15) with e | e | e | e | e | e | e | e | e | e | e | e | e | e | e | e <;> subst e <;> intro _ <;> rfl
theorem slice_at (W : World) (ab j k : Nat) (h : j + k = 64) : (Instr.sliceAt 87 (.pointer (some ⟨ab, 0, none⟩)) (some (.int .i64 (j : Int))) none none).run Tryd.prog W = .ok (.slice (some ⟨ab, j, none⟩) (k + 1) (k + 1)) W := by
  have hal : Tryd.prog.arrayLen 87 = 65 := by kernel_rfl
  have hel : Tryd.prog.elem 87 = 5 := by kernel_rfl
  have hu : Tryd.prog.underlying 87 = some (.array (Tryd.prog.arrayLen 87) (Tryd.prog.elem 87)) := by kernel_rfl
  rw [run_sliceAt_array_l (P := Tryd.prog) W 87 ⟨ab, 0, none⟩ hu .i64 (j : Int) (by omega) (by rw [hal]; omega), hal, hel]
  have hi : (Tryd.prog.info? 5).map (·.size) = some 1 := by kernel_rfl
  cases hq : Tryd.prog.info? 5 with
  | none => simp [hq] at hi
  | some i =>
    have hz : i.size = 1 := by simpa [hq] using hi
    have e1 : 65 - (j : Int).toNat = k + 1 := by omega
    have e2 : (⟨ab, 0, none⟩ : Addr).add ((j : Int).toNat * 1) = ⟨ab, j, none⟩ := by rw [Addr.add_lit]; simp
    have hs : (sizeOf 5).run Tryd.prog W = .ok 1 W := by simp [Sem.run_bind, sizeOf, typeInfo, hq, hz]
    rw [hs, Result.andThen_ok]
    unfold slicedAt
    rw [if_neg (by simp; omega), e1, e2]
set_option maxRecDepth 100000 in
set_option maxHeartbeats 1000000 in
theorem fbits (n : Nat) (w : World) (hn : n < 4294967296) (h : Tb w) :
    Calls Tryd.prog 38 #[.slice none 0 0, .int .u64 n, .int .i64 16, .bool false, .bool false] w fun e w' => e = .returned (.tuple #[.slice none 0 0, .string ⟨(hexD n).toArray⟩]) ∧ Upd [] w w' := by
  have HT := Hd.mk h
  clear h
  go_enter Tryd.func38, Tryd.ntmps38
  go_wp2_with fail
  refine (pow2 _).mono ?_
  rintro e w1 ⟨rfl, rfl⟩
  have B1 := Blk.new w Tryd.zeroCells87.toList 87 _ rfl
  refine wp_abs (fun W => Blk W w.heap.size Tryd.zeroCells87.toList 87 ∧ Upd [] w W) ⟨B1, (Upd.refl _ _).alloc _⟩ ?_
  clear B1
  generalize hab : w.heap.size = ab
  rintro w2 ⟨b2, u2⟩
  have HB := Hd.mk (And.intro b2 u2)
  clear b2 u2
  have HAB := Hd.mk hab
  clear hab
  go_wp2_with fail
  refine (tz w2 (HT.out.upd HB.out.2).2).mono ?_
  rintro e w3 ⟨rfl, rfl⟩
  go_wp2_with fail
  go_loopg [1, 13] n (fun g s1 s13 wr => ∃ (m : Nat) (bs : List UInt8) (vs : List Value), s1 = .int .u64 m ∧ s13 = .int .i64 ((65 - bs.length : Nat) : Int) ∧ g = m ∧ Hd (Fb n m bs vs) ∧ Hd (Blk wr ab vs 87 ∧ Upd [] w wr))
  case atStart => exact ⟨n, [], _, rfl, rfl, rfl, Hd.mk ⟨by simp, Nat.le_refl _, by kernel_rfl, by
    rw [List.drop_eq_nil_of_le]
    · rfl
    · show Tryd.zeroCells87.toList.length ≤ 65
      have : Tryd.zeroCells87.toList.length = 65 := by kernel_rfl
      omega⟩, HB⟩
  case round =>
    clear HB
    obtain ⟨m, bs, vs, rfl, rfl, hg, HF, HB⟩ := hrel
    have hlen : (hexD n).length ≤ 8 := hexD_len n 8 (by omega) (by omega)
    have hbl : bs.length ≤ 7 := by
      have h1 := congrArg List.length HF.out.eq
      rw [List.length_append] at h1
      have h2 := hexD_pos m
      omega
    have hmn := HF.out.le
    have hmask : bits .and .u64 (m : Int) 15 = (m : Int) % 16 := by rw [u64_mask15 m (by omega)]; omega
    by_cases h16 : m < 16
    · generalize hk : bs.length = k at *
      obtain ⟨j, hj⟩ : ∃ j : Nat, 65 - k = j + 1 := ⟨64 - k, by omega⟩
      have hj2 : j + k = 64 := by omega
      rw [hj]
      have HL := Hd.mk (HF.out.last h16 (by omega) (j := j) (by omega))
      have hfz := HB.out.1.free j
      have hcl := HB.out.1.at j (by have := HF.out.len; omega)
      have hdv := dgs_val m h16
      obtain ⟨hc, hhc⟩ : ∃ c : UInt8, hexC m = c := ⟨_, rfl⟩
      rw [hhc] at hdv
      have HJ := Hd.mk (And.intro hj (And.intro hk hhc))
      clear hj hk hhc hmask
      have hcv := conv_at (wr.setCell ⟨ab, j, none⟩ (.int .u8 hc.toNat)) ab j (vs.set j (.int .u8 hc.toNat)) 87 (hexD n) (k + 1) (by rw [HL.out.1, List.length_cons, HJ.out.2.1]) (HB.out.1.set j _) (by rw [← HL.out.2, HJ.out.2.2])
      have hsl := slice_at (wr.setCell ⟨ab, j, none⟩ (.int .u8 hc.toNat)) ab j k hj2
      go_wp2_with fail
      go_ret2
      exact ⟨rfl, HB.out.2.set _ _ (by have := HAB.out; simp; omega)⟩
    · generalize hk : bs.length = k at *
      obtain ⟨j, hj⟩ : ∃ j : Nat, 65 - k = j + 1 := ⟨64 - k, by omega⟩
      have hj2 : j + k = 64 := by omega
      rw [hj]
      have HST := Hd.mk (HF.out.step (by omega) (by omega) (j := j) (by omega))
      have hfz := HB.out.1.free j
      have hcl := HB.out.1.at j (by have := HF.out.len; omega)
      have hdv := dgs_val (m % 16) (by omega)
      obtain ⟨hc, hhc⟩ : ∃ c : UInt8, hexC (m % 16) = c := ⟨_, rfl⟩
      rw [hhc] at hdv
      have HJ := Hd.mk (And.intro hj (And.intro hk hhc))
      clear hj hk hhc
      go_wp2_with fail
      go_roundg (m / 16)
      case measure => rw [hg]; omega
      case rel => exact ⟨m / 16, hexC (m % 16) :: bs, _, by simp, by simp; have := HJ.out.2.1; omega, rfl, HST, Hd.mk ⟨by rw [HJ.out.2.2]; exact HB.out.1.set j _, HB.out.2.set _ _ (by have := HAB.out; simp; omega)⟩⟩
theorem iformat (n : Nat) (w : World) (hn : n < 4294967296) (h : Tb w) :
    Calls Tryd.prog 30 #[.int .u64 n, .int .i64 16] w fun e w' => e = .returned (.string ⟨(hexD n).toArray⟩) ∧ Upd [] w w' := by
  have HT := Hd.mk h
  clear h
  go_enter Tryd.func30, Tryd.ntmps30
  go_wp2_with fail
  refine (fbits n w hn HT.out).mono ?_
  rintro e w1 ⟨rfl, u1⟩
  go_wp2_with fail
  go_ret
  exact ⟨rfl, u1⟩
theorem format_ok (n : Nat) (w : World) (hn : n < 4294967296) (h : Tb w) :
    Calls Tryd.prog 25 #[.int .u64 n, .int .i64 16] w fun e w' => e = .returned (.string ⟨(hexD n).toArray⟩) ∧ Upd [] w w' := by
  have HT := Hd.mk h
  clear h
  go_enter Tryd.func25, Tryd.ntmps25
  go_wp2_with fail
  refine (iformat n w hn HT.out).mono ?_
  rintro e w1 ⟨rfl, u1⟩
  go_wp2_with fail
  go_ret
  exact ⟨rfl, u1⟩
end Go.Proofs.YtncahmodmgbacaaDoor
