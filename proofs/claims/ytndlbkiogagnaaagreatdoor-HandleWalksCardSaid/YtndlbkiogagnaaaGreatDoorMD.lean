/- Store: List. (With what it rests on, merged: S0, Bs, S1, S2, S3, S4, S5, S9, S10.) -/
import Derived.Test.YtndlbkiogagnaaaGreatDoorStr
import Derived.Test.YtndlbkiogagnaaaGreatDoorBits
import Derived.Test.YtndlbkiogagnaaaGreatDoorIt
import Derived.Test.YtndlbkiogagnaaaGreatDoorAp
import Derived.Laws.BytesArg
import Derived.Test.YtndlbkiogagnaaaGreatDoorCq
import Derived.Lib.LaidTab
import Derived.Lib.ConvBytes
import Derived.Test.YtndlbkiogagnaaaGreatDoorMk
import Derived.Test.YtndlbkiogagnaaaGreatDoorRg
import Derived.LoopN
import Derived.Deep.DeepCutAuto
import Derived.Deep.LoopGhost
import Derived.Test.YtndlbkiogagnaaaGreatDoorAp2
namespace Go.Proofs.YtndlbkiogagnaaaGreatDoor
set_option linter.unusedSimpArgs false
set_option linter.unusedVariables false
set_option linter.unnecessarySimpa false
open Go.RowKit

def fnvS (n c : Nat) : Nat := (n ^^^ c) * 16777619 % 4294967296
def fnv (l : List UInt8) : Nat := l.foldl (fun n c => fnvS n c.toNat) 2166136261
theorem fnvS_lt (n c : Nat) : fnvS n c < 4294967296 := by unfold fnvS; omega
theorem fnv_snoc (l : List UInt8) (c : UInt8) : fnv (l ++ [c]) = fnvS (fnv l) c.toNat := by unfold fnv; rw [List.foldl_append, List.foldl_cons, List.foldl_nil]
theorem foldr_lt (f : UInt8 → Nat → Nat) (B a : Nat) (ha : a < B) (hf : ∀ x n, f x n < B) : ∀ l : List UInt8, List.foldr f a l < B
  | [] => ha
  | x :: t => hf x _
theorem fnv_foldr (l : List UInt8) : List.foldr (fun (c : UInt8) n => fnvS n c.toNat) 2166136261 l < 4294967296 := foldr_lt _ _ _ (by omega) (fun _ _ => fnvS_lt _ _) l
theorem fnv_lt (l : List UInt8) : fnv l < 4294967296 := by
  unfold fnv
  rw [← List.foldr_reverse]
  exact fnv_foldr _
theorem fnv_take {l : List UInt8} {i : Nat} (h : i < l.length) : fnv (l.take (i + 1)) = fnvS (fnv (l.take i)) l[i].toNat := by
  rw [List.take_succ_eq_append_getElem h, fnv_snoc]

def hexC (d : Nat) : UInt8 := UInt8.ofNat (if d < 10 then 48 + d else 87 + d)
def hexD (n : Nat) : List UInt8 := if h : n < 16 then [hexC n] else hexD (n / 16) ++ [hexC (n % 16)]
termination_by n
decreasing_by omega
theorem hexD_step (n : Nat) : hexD n = (if n < 16 then [] else hexD (n / 16)) ++ [hexC (n % 16)] := by
  by_cases h : n < 16
  · rw [hexD, dif_pos h, if_pos h, Nat.mod_eq_of_lt h]; rfl
  · rw [hexD, dif_neg h, if_neg h]
theorem hexC_toNat (d : Nat) (h : d < 16) : (hexC d).toNat = if d < 10 then 48 + d else 87 + d := by
  unfold hexC
  show (if d < 10 then 48 + d else 87 + d) % 256 = _
  split <;> omega
theorem hexC_dash (d : Nat) (h : d < 16) : hexC d ≠ 45 := by
  intro e
  have h1 := congrArg UInt8.toNat e
  rw [hexC_toNat d h] at h1
  have h2 : (45 : UInt8).toNat = 45 := rfl
  rw [h2] at h1
  split at h1 <;> omega
theorem hexD_dash (n : Nat) : (45 : UInt8) ∉ hexD n := by
  induction n using Nat.strongRecOn with
  | ind n ih =>
    rw [hexD_step]
    intro h
    rcases List.mem_append.1 h with h | h
    · split at h
      · simp at h
      · exact ih (n / 16) (by omega) h
    · simp at h
      exact hexC_dash _ (by omega) h.symm
theorem hexD_len (n k : Nat) (hk : 0 < k) (h : n < 16 ^ k) : (hexD n).length ≤ k := by
  induction k generalizing n with
  | zero => omega
  | succ k ih =>
    rw [hexD_step]
    by_cases h2 : n < 16
    · simp [h2]
    · rw [if_neg h2, List.length_append]
      have hk0 : 0 < k := by
        rcases Nat.eq_zero_or_pos k with e | e
        · subst e; simp at h; omega
        · exact e
      have := ih (n / 16) hk0 (Nat.div_lt_of_lt_mul (by rw [Nat.mul_comm, ← Nat.pow_succ]; exact h))
      simp
      omega
theorem hexD_pos (n : Nat) : 0 < (hexD n).length := by rw [hexD_step]; simp

theorem dash_split : ∀ {l l' x y : List UInt8}, 45 ∉ l → 45 ∉ l' → l ++ 45 :: x = l' ++ 45 :: y → l = l' ∧ x = y
  | [], [], _, _, _, _, h => by simpa using h
  | [], b :: l', _, _, _, h2, h => by
    simp at h h2
    exact absurd h.1 h2.1
  | a :: l, [], _, _, h1, _, h => by
    simp at h h1
    exact absurd h.1.symm h1.1
  | a :: l, b :: l', x, y, h1, h2, h => by
    simp at h1 h2 h
    obtain ⟨e1, e2⟩ := dash_split h1.2 h2.2 h.2
    exact ⟨by rw [h.1, e1], e2⟩

theorem decD_step (n : Nat) : Lib.decDigits n = (if n < 10 then [] else Lib.decDigits (n / 10)) ++ [UInt8.ofNat (48 + n % 10)] := by
  by_cases h : n < 10
  · rw [Lib.decDigits, dif_pos h, if_pos h, Nat.mod_eq_of_lt h]
    rfl
  · rw [Lib.decDigits, dif_neg h, if_neg h]
def unD (l : List UInt8) : Nat := l.foldl (fun n c => n * 10 + (c.toNat - 48)) 0
theorem unD_dec (n : Nat) : unD (Lib.decDigits n) = n := by
  induction n using Nat.strongRecOn with
  | ind n ih =>
    rw [decD_step]
    have hc : (UInt8.ofNat (48 + n % 10)).toNat = 48 + n % 10 := by
      show (48 + n % 10) % 256 = _
      omega
    unfold unD at ih ⊢
    rw [List.foldl_append]
    by_cases h : n < 10
    · rw [if_pos h]
      simp only [List.foldl_cons, List.foldl_nil, hc]
      omega
    · rw [if_neg h, ih (n / 10) (by omega)]
      simp only [List.foldl_cons, List.foldl_nil, hc]
      omega
def tagL (l : List UInt8) : List UInt8 := hexD (fnv l) ++ 45 :: Lib.decDigits l.length
theorem tagL_ne {a b : List UInt8} (h : a.length ≠ b.length) : tagL a ≠ tagL b := by
  intro e
  have := (dash_split (hexD_dash _) (hexD_dash _) e).2
  have h2 := congrArg unD this
  rw [unD_dec, unD_dec] at h2
  exact h h2
theorem tagL_nil : tagL [] = [56, 49, 49, 99, 57, 100, 99, 53, 45, 48] := by
  unfold tagL fnv
  simp only [List.foldl_nil, List.length_nil]
  simp [hexD_step, hexC, decD_step]
/-- The remainder that tells a key's shard. -/
def shl (l : List UInt8) : Nat := l.foldl (fun n c => (n * 31 + c.toNat) % 997) 0
theorem shl_lt (l : List UInt8) : shl l < 997 := by
  unfold shl
  rw [← List.foldr_reverse]
  cases l.reverse with
  | nil => simp
  | cons x t => exact Nat.mod_lt _ (by omega)
theorem shl_take {l : List UInt8} {i : Nat} (h : i < l.length) : shl (l.take (i + 1)) = (shl (l.take i) * 31 + l[i].toNat) % 997 := by
  unfold shl
  rw [List.take_succ_eq_append_getElem h, List.foldl_append]
  rfl
end Go.Proofs.YtndlbkiogagnaaaGreatDoor

namespace Go.Proofs.YtndlbkiogagnaaaGreatDoor
set_option linter.unusedSimpArgs false
set_option linter.unusedVariables false
set_option linter.unnecessarySimpa false
open Go.RowKit
section
variable {P : Program}
def B8 (x : Nat) : Value := .int .u8 x
/-- string(v) of bytes. -/
theorem run_string_sl (src e : TypeId) (hs : P.underlying src = some (.slice e)) (he : P.underlying e = some (.int .u8)) {w : World} {v : Value} {n : Nat} {l : List Nat} (h : Sl w e 1 v n (l.map B8)) :
    ∀ dst, P.underlying dst = some .string → (convert src dst v).run P w = .ok (.string ⟨(l.map UInt8.ofNat).toArray⟩) w := by
  intro dst hd
  have hlen : l.length = n := by have := h.1; simpa using this
  rcases Nat.eq_zero_or_pos n with h0 | h0
  · have hl : l = [] := List.eq_nil_of_length_eq_zero (by omega)
    subst hl
    obtain ⟨a, c, rfl⟩ := h.form
    subst h0
    cases a with
    | none => rw [run_convert_bytes_nil w src e hs he 0 c dst hd]; rfl
    | some b =>
      obtain ⟨b, off, sp⟩ := b
      rw [run_convert_bytes_string w src dst e _ 0 c hs he hd]
      simp [Conv.bytesToString, loadCells, loadCellsFrom]
      rfl
  · obtain ⟨g, o, c, rfl, -, -, h3⟩ := h.some h0
    have := run_convert_bytes_arg w src e hs he g o n c (l.map fun x : Nat => (x : Int)) (by simpa using hlen) (fun i hi => by
      rw [h3 i (by omega)]
      have hi' : i < l.length := by omega
      simp [List.getD, hi', B8]) dst hd
    rw [this]
    unfold strOfNums
    simp
end
end Go.Proofs.YtndlbkiogagnaaaGreatDoor

namespace Go.Proofs.YtndlbkiogagnaaaGreatDoor
set_option linter.unusedSimpArgs false
set_option linter.unusedVariables false
set_option linter.unnecessarySimpa false
open Go.RowKit BigFrame

def dbTab : List Int := [0, 1, 56, 2, 57, 49, 28, 3, 61, 58, 42, 50, 38, 29, 17, 4, 62, 47, 59, 36, 45, 43, 51, 22, 53, 39, 33, 30, 24, 18, 12, 5, 63, 55, 48, 27, 60, 41, 37, 16, 46, 35, 44, 21, 52, 32, 23, 11, 54, 26, 40, 15, 34, 20, 31, 10, 25, 14, 19, 9, 13, 8, 7, 6]
def TabD (w : World) : Prop := Lib.TabIs Tryz.prog w "math/bits.deBruijn64tab" .u8 dbTab
/-- Both of the library's tables stand. -/
def Tb (w : World) : Prop := Tab w ∧ TabD w
theorem TabD.upd {w w' : World} (h : TabD w) (hu : Upd [] w w') : TabD w' := by
  unfold TabD Lib.TabIs at *
  unfold World.var? at *
  cases hg : Tryz.prog.globalNamed "math/bits.deBruijn64tab" with
  | none => rw [hg] at h; cases h
  | some g =>
    rw [hg] at h
    simp only [Option.bind_some] at h ⊢
    have hlt : g < w.heap.size := by
      apply Classical.byContradiction
      intro hn
      rw [Array.getElem?_eq_none (by omega)] at h
      cases h
    rw [hu.block g hlt (by simp)]
    exact h
theorem Tb.upd {w w' : World} (h : Tb w) (hu : Upd [] w w') : Tb w' := ⟨h.1.upd hu, h.2.upd hu⟩
theorem tz64 (w : World) (h : TabD w) : Calls Tryz.prog 165 #[.int .u64 16] w fun e w' => e = .returned (.int .i64 4) ∧ w' = w := by
  have hc : w.cell? ⟨7, 15, none⟩ = some (.int .u8 4) := Lib.TabIs.cell h (by kernel_rfl : Tryz.prog.globalNamed "math/bits.deBruijn64tab" = some 7) 15 (by decide)
  have h1 : IntKind.u64.wrap (-16) = 18446744073709551600 := by kernel_rfl
  have h2 : bits BinOp.and IntKind.u64 16 18446744073709551600 = 16 := by kernel_rfl
  have h3 : IntKind.u64.wrap (16 * 285870213051353865) = 4573923408821661840 := by kernel_rfl
  have HT := Hd.mk h
  clear h
  go_enter Tryz.func165, Tryz.ntmps165
  go_wp2_with fail
  go_ret
  exact ⟨rfl, rfl⟩
theorem tz (w : World) (h : TabD w) : Calls Tryz.prog 143 #[.int .u64 16] w fun e w' => e = .returned (.int .i64 4) ∧ w' = w := by
  go_enter Tryz.func143, Tryz.ntmps143
  go_wp2_with fail
  refine (tz64 w h).mono ?_
  rintro e w1 ⟨rfl, rfl⟩
  go_wp2_with fail
  go_ret
  exact ⟨rfl, rfl⟩
theorem pow2 (w : World) : Calls Tryz.prog 142 #[.int .i64 16] w fun e w' => e = .returned (.bool true) ∧ w' = w := by
  go_enter Tryz.func142, Tryz.ntmps142
  go_wp2_with fail
  go_ret
  exact ⟨rfl, rfl⟩
theorem u64_mask15 (n : Nat) (hn : n < 18446744073709551616) : bits .and .u64 (n : Int) 15 = ((n % 16 : Nat) : Int) := by
  have hm : (BitVec.ofInt 64 15).toNat = 2 ^ 4 - 1 := by decide
  have key : (BitVec.ofInt 64 (n : Int) &&& BitVec.ofInt 64 15).toNat = n % 2 ^ 4 := by
    rw [BitVec.toNat_and, BitVec.toNat_ofInt, hm, Nat.and_two_pow_sub_one_eq_mod]
    omega
  show IntKind.u64.wrap ((BitVec.ofInt 64 (n : Int) &&& BitVec.ofInt 64 15).toNat : Nat) = _
  rw [key, IntKind.wrap_u64]
  omega
/-- So far the digits bs are laid at the end of the array vs; n is left. -/
structure Fb (n0 n : Nat) (bs : List UInt8) (vs : List Value) : Prop where
  eq : hexD n0 = hexD n ++ bs
  le : n ≤ n0
  len : vs.length = 65
  tail : vs.drop (65 - bs.length) = bs.map fun c => Value.int .u8 c.toNat
theorem set_drop {α : Type} (l : List α) (j : Nat) (v : α) (h : j < l.length) : (l.set j v).drop j = v :: l.drop (j + 1) := by
  rw [List.drop_eq_getElem_cons (by simpa using h), List.getElem_set_self, List.drop_set_of_lt (by omega)]
theorem Fb.step {n0 n : Nat} {bs : List UInt8} {vs : List Value} (h : Fb n0 n bs vs) (hn : 16 ≤ n) (hb : bs.length ≤ 64) {j : Nat} (hj : j + bs.length = 64) : Fb n0 (n / 16) (hexC (n % 16) :: bs) (vs.set j (.int .u8 ((hexC (n % 16)).toNat : Nat))) := by
  obtain ⟨h1, h2, h3, h4⟩ := h
  refine ⟨?_, by omega, by simpa using h3, ?_⟩
  · rw [h1, hexD_step n, if_neg (by omega)]
    simp
  · have e1 : 65 - (hexC (n % 16) :: bs).length = j := by simp; omega
    rw [e1, set_drop _ _ _ (by omega)]
    have e2 : 65 - bs.length = j + 1 := by omega
    rw [e2] at h4
    rw [h4]
    rfl
theorem Fb.last {n0 n : Nat} {bs : List UInt8} {vs : List Value} (h : Fb n0 n bs vs) (hn : n < 16) (hb : bs.length ≤ 64) {j : Nat} (hj : j + bs.length = 64) : hexD n0 = hexC n :: bs ∧ (vs.set j (.int .u8 ((hexC n).toNat : Nat))).drop j = (hexD n0).map fun c => Value.int .u8 c.toNat := by
  obtain ⟨h1, h2, h3, h4⟩ := h
  have e0 : hexD n0 = hexC n :: bs := by
    rw [h1, hexD, dif_pos hn]
    rfl
  refine ⟨e0, ?_⟩
  rw [e0, set_drop _ _ _ (by omega)]
  have e2 : 65 - bs.length = j + 1 := by omega
  rw [e2] at h4
  rw [h4]
  rfl
theorem conv_at (W : World) (b j : Nat) (vs : List Value) (t : TypeId) (bs : List UInt8) (k : Nat) (hk : bs.length = k) (h : Blk W b vs t) (ht : vs.drop j = bs.map fun c => Value.int .u8 c.toNat) :
    (convert 116 9 (.slice (some ⟨b, j, none⟩) k k)).run Tryz.prog W = .ok (.string ⟨bs.toArray⟩) W := by
  have := run_convert_bytes_arg (P := Tryz.prog) W 116 5 Tryz.underlying116 Tryz.underlying5 b j k k (bs.map fun c => (c.toNat : Int)) (by simpa using hk) (fun i hi => by
    rw [h.cell, ← List.getElem?_drop, ht]
    have hi' : i < bs.length := by omega
    simp [List.getD, hi']) 9 Tryz.underlying9
  rw [this]
  unfold strOfNums
  have e : ((fun n : Int => UInt8.ofNat n.toNat) ∘ fun c : UInt8 => (c.toNat : Int)) = id := by funext c; simp
  rw [List.map_map, e, List.map_id]
/-- The byte that stands for a sixteenth. -/
theorem dgs_val (d : Nat) (h : d < 16) : ∀ (h' : d < (⟨#[48, 49, 50, 51, 52, 53, 54, 55, 56, 57, 97, 98, 99, 100, 101, 102, 103, 104, 105, 106, 107, 108, 109, 110, 111, 112, 113, 114, 115, 116, 117, 118, 119, 120, 121, 122]⟩ : ByteArray).size), (⟨#[48, 49, 50, 51, 52, 53, 54, 55, 56, 57, 97, 98, 99, 100, 101, 102, 103, 104, 105, 106, 107, 108, 109, 110, 111, 112, 113, 114, 115, 116, 117, 118, 119, 120, 121, 122]⟩ : ByteArray)[d] = hexC d := by
  rcases (by omega : d = 0 ∨ d = 1 ∨ d = 2 ∨ d = 3 ∨ d = 4 ∨ d = 5 ∨ d = 6 ∨ d = 7 ∨ d = 8 ∨ d = 9 ∨ d = 10 ∨ d = 11 ∨ d = 12 ∨ d = 13 ∨ d = 14 ∨ d = 15) with e | e | e | e | e | e | e | e | e | e | e | e | e | e | e | e <;> subst e <;> intro _ <;> rfl
theorem slice_at (W : World) (ab j k : Nat) (h : j + k = 64) : (Instr.sliceAt 215 (.pointer (some ⟨ab, 0, none⟩)) (some (.int .i64 (j : Int))) none none).run Tryz.prog W = .ok (.slice (some ⟨ab, j, none⟩) (k + 1) (k + 1)) W := by
  have hal : Tryz.prog.arrayLen 215 = 65 := by kernel_rfl
  have hel : Tryz.prog.elem 215 = 5 := by kernel_rfl
  have hu : Tryz.prog.underlying 215 = some (.array (Tryz.prog.arrayLen 215) (Tryz.prog.elem 215)) := by kernel_rfl
  rw [run_sliceAt_array_l (P := Tryz.prog) W 215 ⟨ab, 0, none⟩ hu .i64 (j : Int) (by omega) (by rw [hal]; omega), hal, hel]
  have hi : (Tryz.prog.info? 5).map (·.size) = some 1 := by kernel_rfl
  cases hq : Tryz.prog.info? 5 with
  | none => simp [hq] at hi
  | some i =>
    have hz : i.size = 1 := by simpa [hq] using hi
    have e1 : 65 - (j : Int).toNat = k + 1 := by omega
    have e2 : (⟨ab, 0, none⟩ : Addr).add ((j : Int).toNat * 1) = ⟨ab, j, none⟩ := by rw [Addr.add_lit]; simp
    have hs : (sizeOf 5).run Tryz.prog W = .ok 1 W := by simp [Sem.run_bind, sizeOf, typeInfo, hq, hz]
    rw [hs, Result.andThen_ok]
    unfold slicedAt
    rw [if_neg (by simp; omega), e1, e2]
set_option maxRecDepth 100000 in
set_option maxHeartbeats 1000000 in
theorem fbits (n : Nat) (w : World) (hn : n < 4294967296) (h : Tb w) :
    Calls Tryz.prog 115 #[.slice none 0 0, .int .u64 n, .int .i64 16, .bool false, .bool false] w fun e w' => e = .returned (.tuple #[.slice none 0 0, .string ⟨(hexD n).toArray⟩]) ∧ Upd [] w w' := by
  have HT := Hd.mk h
  clear h
  go_enter Tryz.func115, Tryz.ntmps115
  go_wp2_with fail
  refine (pow2 _).mono ?_
  rintro e w1 ⟨rfl, rfl⟩
  have B1 := Blk.new w Tryz.zeroCells215.toList 215 _ rfl
  refine wp_abs (fun W => Blk W w.heap.size Tryz.zeroCells215.toList 215 ∧ Upd [] w W) ⟨B1, (Upd.refl _ _).alloc _⟩ ?_
  clear B1
  generalize hab : w.heap.size = ab
  rintro w2 ⟨b2, u2⟩
  have HB := Hd.mk (And.intro b2 u2)
  clear b2 u2
  have HAB := Hd.mk hab
  clear hab
  go_wp2_with fail
  refine (tz w2 (HT.out.upd HB.out.2).2).mono ?_
  rintro e w3 ⟨rfl, rfl⟩
  go_wp2_with fail
  go_loopg [1, 13] n (fun g s1 s13 wr => ∃ (m : Nat) (bs : List UInt8) (vs : List Value), s1 = .int .u64 m ∧ s13 = .int .i64 ((65 - bs.length : Nat) : Int) ∧ g = m ∧ Hd (Fb n m bs vs) ∧ Hd (Blk wr ab vs 215 ∧ Upd [] w wr))
  case atStart => exact ⟨n, [], _, rfl, rfl, rfl, Hd.mk ⟨by simp, Nat.le_refl _, by kernel_rfl, by
    rw [List.drop_eq_nil_of_le]
    · rfl
    · show Tryz.zeroCells215.toList.length ≤ 65
      have : Tryz.zeroCells215.toList.length = 65 := by kernel_rfl
      omega⟩, HB⟩
  case round =>
    clear HB
    obtain ⟨m, bs, vs, rfl, rfl, hg, HF, HB⟩ := hrel
    have hlen : (hexD n).length ≤ 8 := hexD_len n 8 (by omega) (by omega)
    have hbl : bs.length ≤ 7 := by
      have h1 := congrArg List.length HF.out.eq
      rw [List.length_append] at h1
      have h2 := hexD_pos m
      omega
    have hmn := HF.out.le
    have hmask : bits .and .u64 (m : Int) 15 = (m : Int) % 16 := by rw [u64_mask15 m (by omega)]; omega
    by_cases h16 : m < 16
    · generalize hk : bs.length = k at *
      obtain ⟨j, hj⟩ : ∃ j : Nat, 65 - k = j + 1 := ⟨64 - k, by omega⟩
      have hj2 : j + k = 64 := by omega
      rw [hj]
      have HL := Hd.mk (HF.out.last h16 (by omega) (j := j) (by omega))
      have hfz := HB.out.1.free j
      have hcl := HB.out.1.at j (by have := HF.out.len; omega)
      have hdv := dgs_val m h16
      obtain ⟨hc, hhc⟩ : ∃ c : UInt8, hexC m = c := ⟨_, rfl⟩
      rw [hhc] at hdv
      have HJ := Hd.mk (And.intro hj (And.intro hk hhc))
      clear hj hk hhc hmask
      have hcv := conv_at (wr.setCell ⟨ab, j, none⟩ (.int .u8 hc.toNat)) ab j (vs.set j (.int .u8 hc.toNat)) 215 (hexD n) (k + 1) (by rw [HL.out.1, List.length_cons, HJ.out.2.1]) (HB.out.1.set j _) (by rw [← HL.out.2, HJ.out.2.2])
      have hsl := slice_at (wr.setCell ⟨ab, j, none⟩ (.int .u8 hc.toNat)) ab j k hj2
      go_wp2_with fail
      go_ret2
      exact ⟨rfl, HB.out.2.set _ _ (by have := HAB.out; simp; omega)⟩
    · generalize hk : bs.length = k at *
      obtain ⟨j, hj⟩ : ∃ j : Nat, 65 - k = j + 1 := ⟨64 - k, by omega⟩
      have hj2 : j + k = 64 := by omega
      rw [hj]
      have HST := Hd.mk (HF.out.step (by omega) (by omega) (j := j) (by omega))
      have hfz := HB.out.1.free j
      have hcl := HB.out.1.at j (by have := HF.out.len; omega)
      have hdv := dgs_val (m % 16) (by omega)
      obtain ⟨hc, hhc⟩ : ∃ c : UInt8, hexC (m % 16) = c := ⟨_, rfl⟩
      rw [hhc] at hdv
      have HJ := Hd.mk (And.intro hj (And.intro hk hhc))
      clear hj hk hhc
      go_wp2_with fail
      go_roundg (m / 16)
      case measure => rw [hg]; omega
      case rel => exact ⟨m / 16, hexC (m % 16) :: bs, _, by simp, by simp; have := HJ.out.2.1; omega, rfl, HST, Hd.mk ⟨by rw [HJ.out.2.2]; exact HB.out.1.set j _, HB.out.2.set _ _ (by have := HAB.out; simp; omega)⟩⟩
theorem iformat (n : Nat) (w : World) (hn : n < 4294967296) (h : Tb w) :
    Calls Tryz.prog 78 #[.int .u64 n, .int .i64 16] w fun e w' => e = .returned (.string ⟨(hexD n).toArray⟩) ∧ Upd [] w w' := by
  have HT := Hd.mk h
  clear h
  go_enter Tryz.func78, Tryz.ntmps78
  go_wp2_with fail
  refine (fbits n w hn HT.out).mono ?_
  rintro e w1 ⟨rfl, u1⟩
  go_wp2_with fail
  go_ret
  exact ⟨rfl, u1⟩
theorem format_ok (n : Nat) (w : World) (hn : n < 4294967296) (h : Tb w) :
    Calls Tryz.prog 48 #[.int .u64 n, .int .i64 16] w fun e w' => e = .returned (.string ⟨(hexD n).toArray⟩) ∧ Upd [] w w' := by
  have HT := Hd.mk h
  clear h
  go_enter Tryz.func48, Tryz.ntmps48
  go_wp2_with fail
  refine (iformat n w hn HT.out).mono ?_
  rintro e w1 ⟨rfl, u1⟩
  go_wp2_with fail
  go_ret
  exact ⟨rfl, u1⟩
end Go.Proofs.YtndlbkiogagnaaaGreatDoor

namespace Go.Proofs.YtndlbkiogagnaaaGreatDoor
set_option linter.unusedSimpArgs false
set_option linter.unusedVariables false
set_option linter.unnecessarySimpa false
open Go.RowKit BigFrame

theorem bytes_upd (w : World) (e : TypeId) (s : ByteArray) : Upd [] w (Lib.bytesWorld w e s) :=
  ⟨rfl, rfl, rfl, by rw [Lib.bytesWorld_size]; omega, fun k hk _ => Lib.bytesWorld_at_old w e s k hk⟩
theorem toList_len (s : ByteArray) : s.data.toList.length = s.size := by simp
theorem u32_xor (a b : Nat) (ha : a < 4294967296) (hb : b < 4294967296) : bits .xor .u32 (a : Int) (b : Int) = ((a ^^^ b : Nat) : Int) := by
  have h1 : (BitVec.ofInt 32 (a : Int)).toNat = a := by rw [BitVec.toNat_ofInt]; omega
  have h2 : (BitVec.ofInt 32 (b : Int)).toNat = b := by rw [BitVec.toNat_ofInt]; omega
  have h3 : a ^^^ b < 2 ^ 32 := Nat.xor_lt_two_pow (by omega) (by omega)
  show IntKind.u32.wrap ((BitVec.ofInt 32 (a : Int) ^^^ BitVec.ofInt 32 (b : Int)).toNat : Nat) = _
  rw [BitVec.toNat_xor, h1, h2, IntKind.wrap_u32]
  omega
theorem fnv_wrap (a b : Nat) (ha : a < 4294967296) (hb : b < 4294967296) : IntKind.u32.wrap (bits .xor .u32 (a : Int) (b : Int) * 16777619) = ((fnvS a b : Nat) : Int) := by
  rw [u32_xor a b ha hb, IntKind.wrap_u32]
  unfold fnvS
  omega
set_option maxHeartbeats 1000000 in
theorem tag_ok (s : ByteArray) (w : World) (hs : s.size ≤ 1000000) (h : Tb w) : Calls Tryz.prog 22 #[.string s] w fun e w' => e = .returned (.string ⟨(tagL s.data.toList).toArray⟩) ∧ Upd [] w w' := by
  have HT := Hd.mk h
  have hcv := Lib.run_convert_string_bytes (P := Tryz.prog) w 9 116 5 s Tryz.underlying9 Tryz.underlying116 Tryz.underlying5
  have HC := Hd.mk (Lib.bytesWorld_cell w 5 s)
  have HU := Hd.mk (bytes_upd w 5 s)
  have HN := Hd.mk (toList_len s)
  clear h
  go_enter Tryz.func22, Tryz.ntmps22
  go_upto_region 3 with (fail)
  generalize grownCap w s.size 0 5 = cap at *
  refine wp_abs (fun W => (∀ j, j < s.size → W.cell? ⟨w.heap.size, j, none⟩ = some (.int .u8 (s.data.toList.getD j 0).toNat)) ∧ Upd [] w W) ⟨HC.out, HU.out⟩ ?_
  clear HC HU hcv
  generalize w.heap.size = sb
  rintro w1 ⟨hc, u1⟩
  have HC := Hd.mk hc
  have HU := Hd.mk u1
  clear hc u1
  go_loopg [3, 5, 9] s.size (fun g s3 s5 ii wr => ∃ i : Nat, i + g = s.size ∧ wr = w1 ∧ ii = .int .i64 i ∧ s3 = .int .u32 ((fnv (s.data.toList.take i) : Nat) : Int))
  case atStart => exact ⟨0, by omega, rfl, rfl, by simp [fnv]⟩
  case round =>
    obtain ⟨i, hg, rfl, rfl, rfl⟩ := hrel
    by_cases hi : i < s.size
    · have hc := HC.out i hi
      have HST := Hd.mk (fnv_take (l := s.data.toList) (i := i) (by rw [HN.out]; exact hi))
      have hgd : s.data.toList.getD i 0 = s.data.toList[i]'(by rw [HN.out]; exact hi) := by simp [List.getD, hi]
      rw [hgd] at hc
      obtain ⟨c, hcc⟩ : ∃ c : Nat, (s.data.toList[i]'(by rw [HN.out]; exact hi)).toNat = c := ⟨_, rfl⟩
      have hc2 : c < 256 := by rw [← hcc]; exact UInt8.toNat_lt _
      obtain ⟨f, hf⟩ : ∃ f : Nat, fnv (s.data.toList.take i) = f := ⟨_, rfl⟩
      have hf2 : f < 4294967296 := by rw [← hf]; exact fnv_lt _
      rw [hcc] at hc
      have HQ := Hd.mk (show fnv (s.data.toList.take (i + 1)) = fnvS f c by rw [HST.out, hf, hcc])
      have hw := fnv_wrap f c hf2 (by omega)
      rw [hf]
      clear hgd hcc hf HST
      go_wp2_with fail
      go_roundg (gk - 1)
      case measure => omega
      case rel => exact ⟨i + 1, by omega, rfl, by go_num, by rw [HQ.out]⟩
    · obtain rfl : i = s.size := by omega
      rw [List.take_of_length_le (by rw [HN.out]; omega)]
      obtain ⟨f, hf⟩ : ∃ f : Nat, fnv s.data.toList = f := ⟨_, rfl⟩
      have hf2 : f < 4294967296 := by rw [← hf]; exact fnv_lt _
      rw [hf]
      have hhl : (⟨(hexD f).toArray⟩ : ByteArray).size ≤ 8 := by
        have := hexD_len f 8 (by omega) (by omega)
        show (hexD f).toArray.size ≤ 8
        simpa using this
      have HF := Hd.mk hf
      have hit := itoaB_size (s.size : Int) (by omega) (by omega)
      clear hf hi hg
      go_wp2_with fail
      refine (format_ok f wr hf2 (HT.out.upd HU.out)).mono ?_
      rintro e w2 ⟨rfl, u2⟩
      have HU := Hd.mk (HU.out.trans u2 (by simp))
      clear u2
      obtain ⟨hx, hhx⟩ : ∃ t : ByteArray, (⟨(hexD f).toArray⟩ : ByteArray) = t := ⟨_, rfl⟩
      rw [hhx] at hhl ⊢
      have HHX := Hd.mk hhx
      clear hhx
      obtain ⟨it, hit2⟩ : ∃ t : ByteArray, itoaB (s.size : Int) = t := ⟨_, rfl⟩
      rw [hit2] at hit
      have HIT := Hd.mk hit2
      clear hit2
      go_wp2_with fail
      refine (itoa_ok (s.size : Int) w2 (by omega) (by omega) (HT.out.upd HU.out).1).mono ?_
      rintro e w3 ⟨rfl, u3⟩
      have HU := Hd.mk (HU.out.trans u3 (by simp))
      rw [HIT.out]
      clear u3
      go_wp2_with fail
      go_ret
      refine ⟨rs_ ?_, HU.out⟩
      apply ByteArray.ext
      apply Array.toList_inj.1
      rw [← HHX.out, ← HIT.out]
      unfold tagL itoaB
      rw [Lib.itoa_nonneg, HF.out, HN.out]
      simp

/-- A key's shard. -/
def shdL (l : List UInt8) : Nat := shl l % 4
theorem shdL_lt (l : List UInt8) : shdL l < 4 := Nat.mod_lt _ (by omega)
set_option maxHeartbeats 1000000 in
theorem shard_ok (s : ByteArray) (w : World) (hs : s.size ≤ 140737488351232) : Calls Tryz.prog 45 #[.string s] w fun e w' => e = .returned (.int .i64 (shdL s.data.toList)) ∧ Upd [] w w' := by
  have hcv := Lib.run_convert_string_bytes (P := Tryz.prog) w 9 116 5 s Tryz.underlying9 Tryz.underlying116 Tryz.underlying5
  have HC := Hd.mk (Lib.bytesWorld_cell w 5 s)
  have HU := Hd.mk (bytes_upd w 5 s)
  have HN := Hd.mk (toList_len s)
  go_enter Tryz.func45, Tryz.ntmps45
  go_upto_region 3 with (fail)
  generalize grownCap w s.size 0 5 = cap at *
  refine wp_abs (fun W => (∀ j, j < s.size → W.cell? ⟨w.heap.size, j, none⟩ = some (.int .u8 (s.data.toList.getD j 0).toNat)) ∧ Upd [] w W) ⟨HC.out, HU.out⟩ ?_
  clear HC HU hcv
  generalize w.heap.size = sb
  rintro w1 ⟨hc, u1⟩
  have HC := Hd.mk hc
  have HU := Hd.mk u1
  clear hc u1
  go_loopg [3, 5, 9] s.size (fun g s3 s5 ii wr => ∃ i : Nat, i + g = s.size ∧ wr = w1 ∧ ii = .int .i64 i ∧ s3 = .int .i64 ((shl (s.data.toList.take i) : Nat) : Int))
  case atStart => exact ⟨0, by omega, rfl, rfl, by simp [shl]⟩
  case round =>
    obtain ⟨i, hg, rfl, rfl, rfl⟩ := hrel
    by_cases hi : i < s.size
    · have hc := HC.out i hi
      have HST := Hd.mk (shl_take (l := s.data.toList) (i := i) (by rw [HN.out]; exact hi))
      have hgd : s.data.toList.getD i 0 = s.data.toList[i]'(by rw [HN.out]; exact hi) := by simp [List.getD, hi]
      rw [hgd] at hc
      obtain ⟨c, hcc⟩ : ∃ c : Nat, (s.data.toList[i]'(by rw [HN.out]; exact hi)).toNat = c := ⟨_, rfl⟩
      have hc2 : c < 256 := by rw [← hcc]; exact UInt8.toNat_lt _
      obtain ⟨f, hf⟩ : ∃ f : Nat, shl (s.data.toList.take i) = f := ⟨_, rfl⟩
      have hf2 : f < 997 := by rw [← hf]; exact shl_lt _
      rw [hcc] at hc
      have HQ := Hd.mk (show shl (s.data.toList.take (i + 1)) = (f * 31 + c) % 997 by rw [HST.out, hf, hcc])
      rw [hf]
      clear hgd hcc hf HST
      go_wp2_with fail
      go_roundg (gk - 1)
      case measure => omega
      case rel => exact ⟨i + 1, by omega, rfl, by go_num, by rw [HQ.out]; go_num⟩
    · obtain rfl : i = s.size := by omega
      rw [List.take_of_length_le (by rw [HN.out]; omega)]
      obtain ⟨f, hf⟩ : ∃ f : Nat, shl s.data.toList = f := ⟨_, rfl⟩
      have hf2 : f < 997 := by rw [← hf]; exact shl_lt _
      rw [hf]
      have HF := Hd.mk hf
      clear hf hi hg
      go_wp2_with fail
      go_ret
      refine ⟨?_, HU.out⟩
      unfold shdL
      rw [HF.out]
      simp
/-- May it be a key? -/
def rightK (s : ByteArray) : Bool := decide (0 < s.size ∧ s.size ≤ 40)
theorem size0 {s : ByteArray} (h : s.size = 0) : s = ⟨#[]⟩ := by
  apply ByteArray.ext
  exact Array.eq_empty_of_size_eq_zero h
theorem sright_ok (s : ByteArray) (w : World) : Calls Tryz.prog 135 #[.string s] w fun e w' => e = .returned (.bool (rightK s)) ∧ w' = w := by
  unfold rightK
  by_cases h0 : s.size = 0
  · rw [decide_eq_false (by omega)]
    obtain rfl := size0 h0
    go_enter Tryz.func135, Tryz.ntmps135
    go_wp2_with fail
    go_ret
    exact ⟨rfl, rfl⟩
  · have hne := str_ne0 (a := s) (fun e => h0 (by rw [e]; rfl))
    by_cases h1 : s.size ≤ 40
    · rw [decide_eq_true (by omega)]
      have h2 : decide ((s.size : Int) ≤ 40) = true := decide_eq_true (by omega)
      go_enter Tryz.func135, Tryz.ntmps135
      go_wp2_with fail
      go_ret
      exact ⟨rfl, rfl⟩
    · rw [decide_eq_false (by omega)]
      have h2 : decide ((s.size : Int) ≤ 40) = false := decide_eq_false (by omega)
      go_enter Tryz.func135, Tryz.ntmps135
      go_wp2_with fail
      go_ret
      exact ⟨rfl, rfl⟩
end Go.Proofs.YtndlbkiogagnaaaGreatDoor

namespace Go.Proofs.YtndlbkiogagnaaaGreatDoor
set_option linter.unusedSimpArgs false
set_option linter.unusedVariables false
set_option linter.unnecessarySimpa false
open Go.RowKit BigFrame

abbrev St := ByteArray → Option ByteArray
/-- The map in block r has the keys and values of m, n of them. -/
def MS (w : World) (r : Nat) (m : St) (n : Nat) : Prop := ∃ L, Mp w r (fun k => .string k) L ∧ (∀ k, get L k = (m k).map .string) ∧ L.length = n
theorem MS.upd {w w' : World} {S : List Nat} {r n : Nat} {m : St} (h : MS w r m n) (hu : Upd S w w') (hr : r ∉ S) : MS w' r m n := by
  obtain ⟨L, h1, h2⟩ := h
  exact ⟨L, h1.upd hu hr, h2⟩
theorem MS.lt {w : World} {r n : Nat} {m : St} (h : MS w r m n) : r < w.heap.size := by
  obtain ⟨L, h1, h2⟩ := h
  exact h1.lt
def shd (k : ByteArray) : Nat := shdL k.data.toList
def part (m : St) (i : Nat) : St := fun k => if shd k = i then m k else none
def scells (o : Nat → Int) (r : Nat → Nat) : List Value := [.int .i64 (o 0), .map (some (r 0)), .int .i64 (o 1), .map (some (r 1)), .int .i64 (o 2), .map (some (r 2)), .int .i64 (o 3), .map (some (r 3))]
def foot (p : Nat) (r : Nat → Nat) : List Nat := [p, r 0, r 1, r 2, r 3]
/-- A store made behind w0: its owners, its keys and values, how many each shard has. -/
structure Sto (w0 w : World) (p : Nat) (r : Nat → Nat) (o : Nat → Int) (m : St) (n : Nat → Nat) : Prop where
  blk : Blk w p (scells o r) 114
  map : ∀ i, i < 4 → MS w (r i) (part m i) (n i)
  ne : ∀ i j, i < 4 → j < 4 → i ≠ j → r i ≠ r j
  new : ∀ k, k ∈ foot p r → w0.heap.size ≤ k
  upd : Upd [] w0 w
theorem MS.new (w : World) : MS (w.alloc (.map #[] 0)) w.heap.size (fun _ => none) 0 := ⟨[], Mp.new w _, fun _ => rfl, rfl⟩
theorem MS.new' (w : World) (r : Nat) (h : w.heap.size = r) : MS (w.alloc (.map #[] 0)) r (fun _ => none) 0 := by subst h; exact MS.new w
set_option maxRecDepth 100000 in
theorem snew_ok (w : World) : Calls Tryz.prog 30 #[] w fun e w' => ∃ p r, e = .returned (.pointer (some ⟨p, 0, none⟩)) ∧ Sto w w' p r (fun _ => 0) (fun _ => none) (fun _ => 0) := by
  have hmm := @run_makeMap Tryz.prog
  go_enter Tryz.func30, Tryz.ntmps30
  go_upto_region 3 with (fail)
  refine wp_loop_rounds 5 ?_
  rw [rounds_succ]
  go_wp2_with fail
  rw [rounds_succ]
  go_wp2_with fail
  rw [rounds_succ]
  go_wp2_with fail
  rw [rounds_succ]
  go_wp2_with fail
  rw [rounds_succ]
  go_wp2_with fail
  go_ret
  refine ⟨w.heap.size, fun i => w.heap.size + 1 + i, rfl, ?_, ?_, ?_, ?_, ?_⟩
  · exact Blk.as ((((((Blk.new w _ _ _ rfl).alloc _).alloc _).alloc _).alloc _)) (by simp [scells, Nat.add_assoc])
  · intro i hi
    have e : part (fun _ => none) i = fun _ => none := by funext k; simp [part]
    rw [e]
    rcases (by omega : i = 0 ∨ i = 1 ∨ i = 2 ∨ i = 3) with e | e | e | e <;> subst e
    · exact (MS.new' _ _ (by simp)).upd (S := []) (((Upd.refl _ _).alloc _).alloc _ |>.alloc _) (by simp)
    · exact (MS.new' _ _ (by simp)).upd (S := []) (((Upd.refl _ _).alloc _).alloc _) (by simp)
    · exact (MS.new' _ _ (by simp)).upd (S := []) ((Upd.refl _ _).alloc _) (by simp)
    · exact (MS.new' _ _ (by simp))
  · intro i j _ _ h
    simp
    omega
  · intro k hk
    simp [foot] at hk
    omega
  · exact (((((Upd.refl [] w).alloc _).alloc _).alloc _).alloc _).alloc _

/-- May they lock it? -/
def freeB (o : Nat → Int) (ow i : Int) : Bool := decide (0 < ow ∧ 0 ≤ i ∧ i < 4 ∧ (o i.toNat = 0 ∨ o i.toNat = ow))
theorem Sto.ow {w0 w : World} {p : Nat} {r : Nat → Nat} {o : Nat → Int} {m : St} {n : Nat → Nat} (h : Sto w0 w p r o m n) {i : Nat} (hi : i < 4) : w.cell? ⟨p, i * 2, none⟩ = some (.int .i64 (o i)) := by
  rw [h.blk.cell]
  rcases (by omega : i = 0 ∨ i = 1 ∨ i = 2 ∨ i = 3) with e | e | e | e <;> subst e <;> rfl
theorem Sto.mp {w0 w : World} {p : Nat} {r : Nat → Nat} {o : Nat → Int} {m : St} {n : Nat → Nat} (h : Sto w0 w p r o m n) {i : Nat} (hi : i < 4) : w.cell? ⟨p, i * 2 + 1, none⟩ = some (.map (some (r i))) := by
  rw [h.blk.cell]
  rcases (by omega : i = 0 ∨ i = 1 ∨ i = 2 ∨ i = 3) with e | e | e | e <;> subst e <;> rfl
theorem free_ok {w0 w : World} {p : Nat} {r : Nat → Nat} {o : Nat → Int} {m : St} {n : Nat → Nat} (h : Sto w0 w p r o m n) (ow i : Int) :
    Calls Tryz.prog 47 #[.pointer (some ⟨p, 0, none⟩), .int .i64 ow, .int .i64 i] w fun e w' => e = .returned (.bool (freeB o ow i)) ∧ w' = w := by
  have HS := Hd.mk h
  clear h
  by_cases hi : 0 ≤ i ∧ i < 4
  · obtain ⟨k, rfl⟩ : ∃ k : Nat, i = k := ⟨i.toNat, by omega⟩
    have hk : k < 4 := by omega
    have hc := HS.out.ow hk
    have HF := Hd.mk (show freeB o ow k = decide (0 < ow ∧ (o k = 0 ∨ o k = ow)) by unfold freeB; rw [decide_eq_decide]; simp; omega)
    generalize o k = x at hc HF
    by_cases h1 : 0 < ow
    · have d1 : decide (0 < ow) = true := decide_eq_true h1
      by_cases h2 : x = 0
      · subst h2
        go_enter Tryz.func47, Tryz.ntmps47
        go_wp2_with fail
        go_ret
        exact ⟨by rw [HF.out]; exact rb (by simp [h1]), rfl⟩
      · have d2 : (x == 0) = false := by simpa using h2
        by_cases h3 : x = ow
        · subst h3
          go_enter Tryz.func47, Tryz.ntmps47
          go_wp2_with fail
          go_ret
          exact ⟨by rw [HF.out]; exact rb (by simp [h1]), rfl⟩
        · have d3 : (x == ow) = false := by simpa using h3
          go_enter Tryz.func47, Tryz.ntmps47
          go_wp2_with fail
          go_ret
          exact ⟨by rw [HF.out]; exact rb (by simp [h1, h2, h3]), rfl⟩
    · have d1 : decide (0 < ow) = false := decide_eq_false h1
      go_enter Tryz.func47, Tryz.ntmps47
      go_wp2_with fail
      go_ret
      exact ⟨by rw [HF.out, decide_eq_false (by omega)]; rfl, rfl⟩
  · have HF := Hd.mk (show freeB o ow i = false by unfold freeB; exact decide_eq_false (by omega))
    by_cases h1 : 0 < ow
    · have d1 : decide (0 < ow) = true := decide_eq_true h1
      by_cases h2 : 0 ≤ i
      · have d2 : decide (0 ≤ i) = true := decide_eq_true h2
        have d3 : decide (i < 4) = false := decide_eq_false (by omega)
        go_enter Tryz.func47, Tryz.ntmps47
        go_wp2_with fail
        go_ret
        exact ⟨by rw [HF.out]; rfl, rfl⟩
      · have d2 : decide (0 ≤ i) = false := decide_eq_false h2
        go_enter Tryz.func47, Tryz.ntmps47
        go_wp2_with fail
        go_ret
        exact ⟨by rw [HF.out]; rfl, rfl⟩
    · have d1 : decide (0 < ow) = false := decide_eq_false h1
      go_enter Tryz.func47, Tryz.ntmps47
      go_wp2_with fail
      go_ret
      exact ⟨by rw [HF.out]; rfl, rfl⟩

def setO (o : Nat → Int) (i : Nat) (x : Int) : Nat → Int := fun j => if j = i then x else o j
theorem Sto.lock {w0 w : World} {p : Nat} {r : Nat → Nat} {o : Nat → Int} {m : St} {n : Nat → Nat} (h : Sto w0 w p r o m n) {i : Nat} (hi : i < 4) (x : Int) :
    Sto w0 (w.setCell ⟨p, i * 2, none⟩ (.int .i64 x)) p r (setO o i x) m n ∧ Upd [p] w (w.setCell ⟨p, i * 2, none⟩ (.int .i64 x)) := by
  have hu : Upd [p] w (w.setCell ⟨p, i * 2, none⟩ (.int .i64 x)) := (Upd.refl _ _).set _ _ (by simp)
  refine ⟨⟨?_, fun j hj => (h.map j hj).upd hu ?_, h.ne, h.new, h.upd.trans hu ?_⟩, hu⟩
  · refine (h.blk.set (i * 2) _).as ?_
    rcases (by omega : i = 0 ∨ i = 1 ∨ i = 2 ∨ i = 3) with e | e | e | e <;> subst e <;> rfl
  · intro e
    obtain ⟨L, hL, -⟩ := h.map j hj
    rw [List.mem_singleton] at e
    rw [e] at hL
    exact hL.other _ _ h.blk
  · intro k hk e
    rw [List.mem_singleton] at e
    subst e
    have := h.new k (by simp [foot])
    omega
theorem lock_no {w0 w : World} {p : Nat} {r : Nat → Nat} {o : Nat → Int} {m : St} {n : Nat → Nat} (h : Sto w0 w p r o m n) (ow i : Int) (hf : freeB o ow i = false) :
    Calls Tryz.prog 20 #[.pointer (some ⟨p, 0, none⟩), .int .i64 ow, .int .i64 i] w fun e w' => e = .returned (.bool false) ∧ w' = w := by
  have HS := Hd.mk h
  have HF := Hd.mk hf
  clear h hf
  go_enter Tryz.func20, Tryz.ntmps20
  go_wp2_with fail
  refine (free_ok HS.out ow i).mono ?_
  rintro e w1 ⟨rfl, rfl⟩
  rw [HF.out]
  go_wp2_with fail
  go_ret
  exact ⟨rfl, rfl⟩
theorem lock_yes {w0 w : World} {p : Nat} {r : Nat → Nat} {o : Nat → Int} {m : St} {n : Nat → Nat} (h : Sto w0 w p r o m n) (ow : Int) (i : Nat) (hf : freeB o ow i = true) :
    Calls Tryz.prog 20 #[.pointer (some ⟨p, 0, none⟩), .int .i64 ow, .int .i64 i] w fun e w' => e = .returned (.bool true) ∧ Sto w0 w' p r (setO o i ow) m n ∧ Upd [p] w w' := by
  have HS := Hd.mk h
  have HF := Hd.mk hf
  have hi : i < 4 := by
    unfold freeB at hf
    have := of_decide_eq_true hf
    omega
  have hc := h.ow hi
  have hz := h.blk.free (i * 2)
  clear h hf
  go_enter Tryz.func20, Tryz.ntmps20
  go_wp2_with fail
  refine (free_ok HS.out ow i).mono ?_
  rintro e w1 ⟨rfl, rfl⟩
  rw [HF.out]
  go_wp2_with fail
  go_ret
  have := HS.out.lock hi ow
  exact ⟨rfl, this.1, this.2⟩
end Go.Proofs.YtndlbkiogagnaaaGreatDoor

namespace Go.Proofs.YtndlbkiogagnaaaGreatDoor
set_option linter.unusedSimpArgs false
set_option linter.unusedVariables false
set_option linter.unnecessarySimpa false
open Go.RowKit BigFrame

/-- What keeps somebody from a key: 8: it may be none; 7: they have not its shard. -/
def mineE (o : Nat → Int) (ow : Int) (k : ByteArray) : Int := if rightK k = false then 8 else if 0 < ow ∧ o (shd k) = ow then 0 else 7
theorem shd_lt (k : ByteArray) : shd k < 4 := shdL_lt _
/-- Where mine points. -/
def mineP (p : Nat) (o : Nat → Int) (ow : Int) (k : ByteArray) : Value := if mineE o ow k = 0 then .pointer (some ⟨p, shd k * 2, none⟩) else .pointer none
theorem Sto.up {w0 w w' : World} {p : Nat} {r : Nat → Nat} {o : Nat → Int} {m : St} {n : Nat → Nat} (h : Sto w0 w p r o m n) (hu : Upd [] w w') : Sto w0 w' p r o m n :=
  ⟨hu.blk h.blk (by simp), fun i hi => (h.map i hi).upd hu (by simp), h.ne, h.new, h.upd.trans hu (by simp)⟩
set_option maxHeartbeats 1000000 in
theorem mine_ok {w0 w : World} {p : Nat} {r : Nat → Nat} {o : Nat → Int} {m : St} {n : Nat → Nat} (h : Sto w0 w p r o m n) (ow : Int) (k : ByteArray) (hk : k.size ≤ 140737488351232) :
    Calls Tryz.prog 93 #[.pointer (some ⟨p, 0, none⟩), .int .i64 ow, .string k] w fun e w' => e = .returned (.tuple #[mineP p o ow k, .int .i64 (mineE o ow k)]) ∧ Upd [] w w' := by
  have HS := Hd.mk h
  have hi := shd_lt k
  have HSD := Hd.mk (show shdL k.data.toList = shd k from rfl)
  clear h
  obtain ⟨i, hid⟩ : ∃ i, shd k = i := ⟨_, rfl⟩
  rw [hid] at hi HSD
  have HE := Hd.mk (show mineE o ow k = if rightK k = false then 8 else if 0 < ow ∧ o i = ow then 0 else 7 by unfold mineE; rw [hid])
  have HP := Hd.mk (show mineP p o ow k = if mineE o ow k = 0 then .pointer (some ⟨p, i * 2, none⟩) else .pointer none by unfold mineP; rw [hid])
  clear hid
  go_enter Tryz.func93, Tryz.ntmps93
  go_upto_region 1 with (fail)
  refine wp_region_cls (fun W => Upd [] w W) ((Upd.refl [] w).drew) (by kernel_rfl) (by kernel_rfl) (fun _ => ?_)
  repeat (go_big_quiet_step ((go_at_call 45; rename_i x; with_reducible exact Calls.cls (shard_ok k x.w hk) (fun e w' h => ⟨h.1.trans (by rw [HSD.out]), x.ok.trans h.2 (by simp)⟩))))
  refine wpQuiet_nil ?_
  intro _ hw'
  obtain ⟨nq, hw''⟩ := hw'
  subst hw''
  have HU := Hd.mk nq.ok
  generalize nq.w = w1 at HU ⊢
  have hc := (HS.out.up HU.out).ow hi
  generalize o i = x at hc HE
  go_wp2_with fail
  refine (sright_ok k w1).mono ?_
  rintro e w2 ⟨rfl, rfl⟩
  cases hr : rightK k with
  | false =>
    have h8 : mineE o ow k = 8 := by rw [HE.out, if_pos hr]
    have H8 := Hd.mk h8
    clear h8 hr
    go_wp2_with fail
    go_ret2
    refine ⟨?_, HU.out⟩
    rw [HP.out, H8.out, if_neg (by decide)]
    rfl
  | true =>
    by_cases h1 : 0 < ow
    · have d1 : decide (ow ≤ 0) = false := decide_eq_false (by omega)
      by_cases h2 : x = ow
      · subst h2
        have h8 : mineE o x k = 0 := by rw [HE.out, if_neg (by rw [hr]; decide), if_pos ⟨h1, rfl⟩]
        have H8 := Hd.mk h8
        clear h8 hr
        go_wp2_with fail
        go_ret2
        refine ⟨?_, HU.out⟩
        rw [HP.out, H8.out, if_pos rfl]
        rfl
      · have d2 : (x == ow) = false := by simpa using h2
        have h8 : mineE o ow k = 7 := by rw [HE.out, if_neg (by rw [hr]; decide), if_neg (by omega)]
        have H8 := Hd.mk h8
        clear h8 hr
        go_wp2_with fail
        go_ret2
        refine ⟨?_, HU.out⟩
        rw [HP.out, H8.out, if_neg (by decide)]
        rfl
    · have d1 : decide (ow ≤ 0) = true := decide_eq_true (by omega)
      have h8 : mineE o ow k = 7 := by rw [HE.out, if_neg (by rw [hr]; decide), if_neg (by omega)]
      have H8 := Hd.mk h8
      clear h8 hr
      go_wp2_with fail
      go_ret2
      refine ⟨?_, HU.out⟩
      rw [HP.out, H8.out, if_neg (by decide)]
      rfl

theorem look_sv {w : World} {r : Nat} {L : List (ByteArray × Value × Nat)} (h : Mp w r (fun k => .string k) L) (k : ByteArray) {x : Option ByteArray} (hg : get L k = x.map .string) :
    (Instr.lookup 109 (.map (some r)) (.string k) true).run Tryz.prog w = .ok (.tuple #[.string (x.getD ⟨#[]⟩), .bool x.isSome]) w := by
  rw [run_lookup_mp (P := Tryz.prog) (keyLaw_string (kt := 9) Tryz.underlying9) 109 Tryz.underlying109 (.string ⟨#[]⟩) (fun W => by kernel_rfl) h k true, hg]
  cases x <;> rfl
theorem part_at (m : St) (k : ByteArray) : part m (shd k) k = m k := by unfold part; rw [if_pos rfl]
theorem Sto.look {w0 w : World} {p : Nat} {r : Nat → Nat} {o : Nat → Int} {m : St} {n : Nat → Nat} (h : Sto w0 w p r o m n) (k : ByteArray) {x : Option ByteArray} (hx : m k = x) :
    (Instr.lookup 109 (.map (some (r (shd k)))) (.string k) true).run Tryz.prog w = .ok (.tuple #[.string (x.getD ⟨#[]⟩), .bool x.isSome]) w := by
  obtain ⟨L, hL, hg, -⟩ := h.map (shd k) (shd_lt k)
  exact look_sv hL k (by rw [hg, part_at, hx])
theorem get_bad {w0 w : World} {p : Nat} {r : Nat → Nat} {o : Nat → Int} {m : St} {n : Nat → Nat} (h : Sto w0 w p r o m n) (ow : Int) (k : ByteArray) (hk : k.size ≤ 140737488351232) {c : Int} (hE : mineE o ow k = c) (hc : c ≠ 0) :
    Calls Tryz.prog 59 #[.pointer (some ⟨p, 0, none⟩), .int .i64 ow, .string k] w fun e w' => e = .returned (.tuple #[.string ⟨#[]⟩, .int .i64 c]) ∧ Upd [] w w' := by
  have HS := Hd.mk h
  have HE := Hd.mk hE
  have HP := Hd.mk (show mineP p o ow k = .pointer none by unfold mineP; rw [hE, if_neg hc])
  have d1 : (c == 0) = false := by simpa using hc
  clear h hE hc
  go_enter Tryz.func59, Tryz.ntmps59
  go_wp2_with fail
  refine (mine_ok HS.out ow k hk).mono ?_
  rintro e w1 ⟨rfl, u1⟩
  rw [HE.out, HP.out]
  go_wp2_with fail
  go_ret2
  exact ⟨rfl, u1⟩
/-- What Get tells of what is there. -/
def getE (x : Option ByteArray) : Int := if x.isSome then 0 else 5
theorem get_good {w0 w : World} {p : Nat} {r : Nat → Nat} {o : Nat → Int} {m : St} {n : Nat → Nat} (h : Sto w0 w p r o m n) (ow : Int) (k : ByteArray) (hk : k.size ≤ 140737488351232) (hE : mineE o ow k = 0) {x : Option ByteArray} (hx : m k = x) :
    Calls Tryz.prog 59 #[.pointer (some ⟨p, 0, none⟩), .int .i64 ow, .string k] w fun e w' => e = .returned (.tuple #[.string (x.getD ⟨#[]⟩), .int .i64 (getE x)]) ∧ Upd [] w w' := by
  have HS := Hd.mk h
  have HE := Hd.mk hE
  have HX := Hd.mk hx
  have HP := Hd.mk (show mineP p o ow k = .pointer (some ⟨p, shd k * 2, none⟩) by unfold mineP; rw [hE, if_pos rfl])
  clear h hE hx
  go_enter Tryz.func59, Tryz.ntmps59
  go_wp2_with fail
  refine (mine_ok HS.out ow k hk).mono ?_
  rintro e w1 ⟨rfl, u1⟩
  rw [HE.out, HP.out]
  have HU := Hd.mk u1
  have hc := (HS.out.up HU.out).mp (shd_lt k)
  have hl := (HS.out.up HU.out).look k HX.out
  clear u1
  cases x with
  | none =>
    simp only [Option.getD_none, Option.isSome_none] at hl
    go_wp2_with fail
    go_ret2
    exact ⟨rfl, HU.out⟩
  | some v =>
    simp only [Option.getD_some, Option.isSome_some] at hl
    go_wp2_with fail
    go_ret2
    exact ⟨rfl, HU.out⟩
end Go.Proofs.YtndlbkiogagnaaaGreatDoor

namespace Go.Proofs.YtndlbkiogagnaaaGreatDoor
set_option linter.unusedSimpArgs false
set_option linter.unusedVariables false
set_option linter.unnecessarySimpa false
open Go.RowKit BigFrame

def setM (m : St) (k : ByteArray) (x : Option ByteArray) : St := fun k' => if k' = k then x else m k'
def setN (n : Nat → Nat) (i c : Nat) : Nat → Nat := fun j => if j = i then c else n j
theorem part_set (m : St) (k : ByteArray) (x : Option ByteArray) (i : Nat) (k' : ByteArray) : part (setM m k x) i k' = if k' = k then (if shd k = i then x else none) else part m i k' := by
  unfold part setM
  by_cases h : k' = k
  · subst h; simp
  · simp [h]
theorem Sto.put {w0 w w' : World} {p : Nat} {r : Nat → Nat} {o : Nat → Int} {m : St} {n : Nat → Nat} (h : Sto w0 w p r o m n) (k : ByteArray) (x : Option ByteArray) (hu : Upd [r (shd k)] w w') {c : Nat} (hm : MS w' (r (shd k)) (part (setM m k x) (shd k)) c) :
    Sto w0 w' p r o (setM m k x) (setN n (shd k) c) := by
  have hi := shd_lt k
  refine ⟨hu.blk h.blk ?_, ?_, h.ne, h.new, h.upd.trans hu ?_⟩
  · intro e
    rw [List.mem_singleton] at e
    obtain ⟨L, hL, -⟩ := h.map (shd k) hi
    rw [← e] at hL
    exact hL.other _ _ h.blk
  · intro i hi2
    unfold setN
    by_cases e : i = shd k
    · subst e
      rw [if_pos rfl]
      exact hm
    · rw [if_neg e]
      have hp : part (setM m k x) i = part m i := by
        funext k'
        rw [part_set]
        by_cases e2 : k' = k
        · rw [if_pos e2, if_neg (fun q => e q.symm), e2]
          unfold part
          rw [if_neg (fun q => e q.symm)]
        · rw [if_neg e2]
      rw [hp]
      refine (h.map i hi2).upd hu ?_
      intro q
      rw [List.mem_singleton] at q
      exact h.ne i (shd k) hi2 hi e q
  · intro j hj e
    rw [List.mem_singleton] at e
    subst e
    have : r (shd k) ∈ foot p r := by
      unfold foot
      rcases (by omega : shd k = 0 ∨ shd k = 1 ∨ shd k = 2 ∨ shd k = 3) with e | e | e | e <;> rw [e] <;> simp
    have := h.new _ this
    omega
theorem Sto.store {w0 w : World} {p : Nat} {r : Nat → Nat} {o : Nat → Int} {m : St} {n : Nat → Nat} (h : Sto w0 w p r o m n) (k v : ByteArray) :
    ∃ w', (Instr.mapUpdate 109 (.map (some (r (shd k)))) (.string k) (.string v)).run Tryz.prog w = .ok () w' ∧ Upd [r (shd k)] w w' ∧ Sto w0 w' p r o (setM m k (some v)) (setN n (shd k) (if (m k).isSome then n (shd k) else n (shd k) + 1)) := by
  obtain ⟨L, hL, hg, hn⟩ := h.map (shd k) (shd_lt k)
  obtain ⟨c, w', hr, h3, h4⟩ := run_update_mp (P := Tryz.prog) (keyLaw_string (kt := 9) Tryz.underlying9) 109 Tryz.underlying109 hL k (.string v)
  refine ⟨w', hr, h4, h.put k (some v) h4 ⟨_, h3, fun k' => ?_, ?_⟩⟩
  · rw [get_put, part_set, if_pos rfl, hg]
    split <;> rfl
  · rw [put_len, hg, part_at, hn]
    cases m k <;> simp
theorem Sto.drop {w0 w : World} {p : Nat} {r : Nat → Nat} {o : Nat → Int} {m : St} {n : Nat → Nat} (h : Sto w0 w p r o m n) (k : ByteArray) (hk : (m k).isSome = true) :
    ∃ w', (Builtin.delete_ #[109, 9] 0 #[.map (some (r (shd k))), .string k]).run Tryz.prog w = .ok (.tuple #[]) w' ∧ Upd [r (shd k)] w w' ∧ Sto w0 w' p r o (setM m k none) (setN n (shd k) (n (shd k) - 1)) := by
  obtain ⟨L, hL, hg, hn⟩ := h.map (shd k) (shd_lt k)
  obtain ⟨w', hr, h3, h4⟩ := run_delete_mp (P := Tryz.prog) (keyLaw_string (kt := 9) Tryz.underlying9) 109 9 0 Tryz.underlying109 hL k
  refine ⟨w', hr, h4, h.put k none h4 ⟨_, h3, fun k' => ?_, ?_⟩⟩
  · rw [get_del, part_set, if_pos rfl, hg]
    split <;> rfl
  · have hnd : (L.map (·.1)).Nodup := by obtain ⟨_, _, h, _⟩ := hL; exact h
    have := del_len L hnd k
    rw [hg, part_at] at this
    cases hq : m k with
    | none => rw [hq] at hk; simp at hk
    | some v =>
      rw [hq] at this
      simp at this
      omega
theorem Sto.len {w0 w : World} {p : Nat} {r : Nat → Nat} {o : Nat → Int} {m : St} {n : Nat → Nat} (h : Sto w0 w p r o m n) {i : Nat} (hi : i < 4) (ty : TypeId) :
    (Builtin.len_ #[109] ty #[.map (some (r i))]).run Tryz.prog w = .ok (.int .i64 (n i)) w := by
  obtain ⟨L, hL, hg, hn⟩ := h.map i hi
  rw [run_len_mp (P := Tryz.prog) Tryz.underlying109 hL, hn]
def tagS (v : ByteArray) : ByteArray := ⟨(tagL v.data.toList).toArray⟩
/-- May it be put, or deleted, by this tag? -/
def tagOk (x : Option ByteArray) (t : ByteArray) : Bool := decide (t.size = 0) || (match x with | none => false | some v => decide (tagS v = t))
/-- What keeps Put from putting. -/
def putE (x : Option ByteArray) (t : ByteArray) (c : Nat) : Int := if tagOk x t = false then 6 else if x.isSome = false ∧ c = 8 then 4 else 0

theorem put_bad {w0 w : World} {p : Nat} {r : Nat → Nat} {o : Nat → Int} {m : St} {n : Nat → Nat} (h : Sto w0 w p r o m n) (ow : Int) (k v t : ByteArray) (hk : k.size ≤ 140737488351232) {c : Int} (hE : mineE o ow k = c) (hc : c ≠ 0) :
    Calls Tryz.prog 62 #[.pointer (some ⟨p, 0, none⟩), .int .i64 ow, .string k, .string v, .string t] w fun e w' => e = .returned (.tuple #[.bool false, .int .i64 c]) ∧ Upd [] w w' := by
  have HS := Hd.mk h
  have HE := Hd.mk hE
  have HP := Hd.mk (show mineP p o ow k = .pointer none by unfold mineP; rw [hE, if_neg hc])
  have d1 : (c == 0) = false := by simpa using hc
  clear h hE hc
  go_enter Tryz.func62, Tryz.ntmps62
  go_wp2_with fail
  refine (mine_ok HS.out ow k hk).mono ?_
  rintro e w1 ⟨rfl, u1⟩
  rw [HE.out, HP.out]
  go_wp2_with fail
  go_ret2
  exact ⟨rfl, u1⟩
/-- Put where the tag is no matter, or the key is there: what stands ahead of the switch. -/
theorem put_no {w0 w : World} {p : Nat} {r : Nat → Nat} {o : Nat → Int} {m : St} {n : Nat → Nat} (h : Sto w0 w p r o m n) (hT : Tb w0) (ow : Int) (k v t : ByteArray) (hk : k.size ≤ 140737488351232) (hE : mineE o ow k = 0) {x : Option ByteArray} (hx : m k = x) (hv : ∀ y, x = some y → y.size ≤ 1000000) {c : Int} (hE2 : putE x t (n (shd k)) = c) (hc : c ≠ 0) :
    Calls Tryz.prog 62 #[.pointer (some ⟨p, 0, none⟩), .int .i64 ow, .string k, .string v, .string t] w fun e w' => e = .returned (.tuple #[.bool false, .int .i64 c]) ∧ Upd [] w w' := by
  have HS := Hd.mk h
  have HT := Hd.mk hT
  have HE := Hd.mk hE
  have HX := Hd.mk hx
  have HV := Hd.mk hv
  have HC := Hd.mk (And.intro hE2 hc)
  have HP := Hd.mk (show mineP p o ow k = .pointer (some ⟨p, shd k * 2, none⟩) by unfold mineP; rw [hE, if_pos rfl])
  clear h hE hx hT hv hE2 hc
  go_enter Tryz.func62, Tryz.ntmps62
  go_wp2_with fail
  refine (mine_ok HS.out ow k hk).mono ?_
  rintro e w1 ⟨rfl, u1⟩
  rw [HE.out, HP.out]
  have HU := Hd.mk u1
  have hcl := (HS.out.up HU.out).mp (shd_lt k)
  have hl := (HS.out.up HU.out).look k HX.out
  have hlen := fun ty => (HS.out.up HU.out).len (shd_lt k) ty
  clear u1
  by_cases ht : t.size = 0
  · obtain rfl := size0 ht
    cases x with
    | none =>
      simp only [Option.getD_none, Option.isSome_none] at hl
      obtain ⟨h8, rfl⟩ : n (shd k) = 8 ∧ c = 4 := (by
        have := HC.out
        unfold putE tagOk at this
        by_cases e : n (shd k) = 8
        · simp [e] at this
          exact ⟨e, this.1.symm⟩
        · simp [e] at this
          exact absurd this.1.symm this.2)
      rw [h8] at hlen
      go_wp2_with fail
      go_ret2
      exact ⟨rfl, HU.out⟩
    | some y =>
      have := HC.out
      simp [putE, tagOk] at this
      exact absurd this.1.symm this.2
  · have hne := str_ne0 (a := t) (fun e => ht (by rw [e]; rfl))
    cases x with
    | none =>
      simp only [Option.getD_none, Option.isSome_none] at hl
      have h6 : c = 6 := by
        have := HC.out.1
        simp [putE, tagOk, ht] at this
        exact this.symm
      subst h6
      go_wp2_with fail
      go_ret2
      exact ⟨rfl, HU.out⟩
    | some y =>
      simp only [Option.getD_some, Option.isSome_some] at hl
      have h6 : tagS y ≠ t ∧ c = 6 := by
        have := HC.out
        by_cases e : tagS y = t
        · simp [putE, tagOk, e] at this
          exact absurd this.1.symm this.2
        · simp [putE, tagOk, ht, e] at this
          exact ⟨e, this.1.symm⟩
      obtain ⟨h6, rfl⟩ := h6
      have hno := str_no h6
      go_wp2_with fail
      refine (tag_ok y w1 (HV.out y rfl) (HT.out.upd (HS.out.up HU.out).upd)).mono ?_
      rintro e w2 ⟨rfl, u2⟩
      have HU := Hd.mk (HU.out.trans u2 (by simp))
      have HTS := Hd.mk (show tagS y = ⟨(tagL y.data.toList).toArray⟩ from rfl)
      rw [← HTS.out]
      clear u2
      go_wp2_with fail
      go_ret2
      exact ⟨rfl, HU.out⟩
theorem tagOk_cases {x : Option ByteArray} {t : ByteArray} (h : tagOk x t = true) : t.size = 0 ∨ (t.size ≠ 0 ∧ ∃ v, x = some v ∧ tagS v = t) := by
  by_cases ht : t.size = 0
  · exact .inl ht
  · cases x with
    | none => simp [tagOk, ht] at h
    | some v => simp [tagOk, ht] at h; exact .inr ⟨ht, v, rfl, h⟩
theorem putE_zero {x : Option ByteArray} {t : ByteArray} {c : Nat} (h : putE x t c = 0) : tagOk x t = true ∧ (x.isSome = true ∨ c ≠ 8) := by
  unfold putE at h
  cases h1 : tagOk x t with
  | false => rw [h1] at h; simp at h
  | true =>
    rw [h1] at h
    refine ⟨rfl, ?_⟩
    cases h2 : x.isSome with
    | true => exact .inl rfl
    | false =>
      rw [h2] at h
      refine .inr fun e => ?_
      simp [e] at h
set_option maxRecDepth 100000 in
theorem put_yes {w0 w : World} {p : Nat} {r : Nat → Nat} {o : Nat → Int} {m : St} {n : Nat → Nat} (h : Sto w0 w p r o m n) (hT : Tb w0) (ow : Int) (k v t : ByteArray) (hk : k.size ≤ 140737488351232) (hE : mineE o ow k = 0) {x : Option ByteArray} (hx : m k = x) (hv : ∀ y, x = some y → y.size ≤ 1000000) (hE2 : putE x t (n (shd k)) = 0) :
    Calls Tryz.prog 62 #[.pointer (some ⟨p, 0, none⟩), .int .i64 ow, .string k, .string v, .string t] w fun e w' => e = .returned (.tuple #[.bool x.isSome, .int .i64 0]) ∧ Upd [r (shd k)] w w' ∧ Sto w0 w' p r o (setM m k (some v)) (setN n (shd k) (if x.isSome then n (shd k) else n (shd k) + 1)) := by
  have HS := Hd.mk h
  have HT := Hd.mk hT
  have HE := Hd.mk hE
  have HX := Hd.mk hx
  have HV := Hd.mk hv
  have HC := Hd.mk (putE_zero hE2)
  have HP := Hd.mk (show mineP p o ow k = .pointer (some ⟨p, shd k * 2, none⟩) by unfold mineP; rw [hE, if_pos rfl])
  have htc := tagOk_cases (putE_zero hE2).1
  clear h hE hx hT hv hE2
  go_enter Tryz.func62, Tryz.ntmps62
  go_wp2_with fail
  refine (mine_ok HS.out ow k hk).mono ?_
  rintro e w1 ⟨rfl, u1⟩
  rw [HE.out, HP.out]
  have HU := Hd.mk u1
  have hcl := (HS.out.up HU.out).mp (shd_lt k)
  have hl := (HS.out.up HU.out).look k HX.out
  have hlen := fun ty => (HS.out.up HU.out).len (shd_lt k) ty
  clear u1
  rcases htc with ht | ⟨ht, y, rfl, hty⟩
  · obtain rfl := size0 ht
    obtain ⟨w2, hst, u2, S2⟩ := (HS.out.up HU.out).store k v
    have HS2 := Hd.mk (And.intro u2 S2)
    clear u2 S2
    cases x with
    | none =>
      simp only [Option.getD_none, Option.isSome_none] at hl
      have hc8 : n (shd k) ≠ 8 := by
        have := HC.out.2
        simpa using this
      have hn8 : ((n (shd k) : Int) == 8) = false := by simp; omega
      go_wp2_with fail
      go_ret2
      refine ⟨rfl, (HU.out.mono (by simp)).trans HS2.out.1 (by simp), ?_⟩
      have := HS2.out.2
      rw [HX.out] at this
      exact this
    | some y =>
      simp only [Option.getD_some, Option.isSome_some] at hl
      go_wp2_with fail
      go_ret2
      refine ⟨rfl, (HU.out.mono (by simp)).trans HS2.out.1 (by simp), ?_⟩
      have := HS2.out.2
      rw [HX.out] at this
      exact this
  · have hne := str_ne0 (a := t) (fun e => ht (by rw [e]; rfl))
    simp only [Option.getD_some, Option.isSome_some] at hl
    have hys := str_yes hty
    go_wp2_with fail
    refine (tag_ok y w1 (HV.out y rfl) (HT.out.upd (HS.out.up HU.out).upd)).mono ?_
    rintro e w2 ⟨rfl, u2⟩
    have HU := Hd.mk (HU.out.trans u2 (by simp))
    have hcl := (HS.out.up HU.out).mp (shd_lt k)
    have hlen := fun ty => (HS.out.up HU.out).len (shd_lt k) ty
    obtain ⟨w3, hst, u3, S3⟩ := (HS.out.up HU.out).store k v
    have HS2 := Hd.mk (And.intro u3 S3)
    clear u2 u3 S3
    have HTS := Hd.mk (show tagS y = ⟨(tagL y.data.toList).toArray⟩ from rfl)
    rw [← HTS.out]
    clear hty
    go_wp2_with fail
    go_ret2
    refine ⟨rfl, (HU.out.mono (by simp)).trans HS2.out.1 (by simp), ?_⟩
    have := HS2.out.2
    rw [HX.out] at this
    exact this

/-- What keeps Delete from deleting. -/
def delE (x : Option ByteArray) (t : ByteArray) : Int := if x.isSome = false then 5 else if tagOk x t = false then 6 else 0
theorem del_bad {w0 w : World} {p : Nat} {r : Nat → Nat} {o : Nat → Int} {m : St} {n : Nat → Nat} (h : Sto w0 w p r o m n) (ow : Int) (k t : ByteArray) (hk : k.size ≤ 140737488351232) {c : Int} (hE : mineE o ow k = c) (hc : c ≠ 0) :
    Calls Tryz.prog 64 #[.pointer (some ⟨p, 0, none⟩), .int .i64 ow, .string k, .string t] w fun e w' => e = .returned (.int .i64 c) ∧ Upd [] w w' := by
  have HS := Hd.mk h
  have HE := Hd.mk hE
  have HP := Hd.mk (show mineP p o ow k = .pointer none by unfold mineP; rw [hE, if_neg hc])
  have d1 : (c == 0) = false := by simpa using hc
  clear h hE hc
  go_enter Tryz.func64, Tryz.ntmps64
  go_wp2_with fail
  refine (mine_ok HS.out ow k hk).mono ?_
  rintro e w1 ⟨rfl, u1⟩
  rw [HE.out, HP.out]
  go_wp2_with fail
  go_ret
  exact ⟨rfl, u1⟩
set_option maxRecDepth 100000 in
theorem del_no {w0 w : World} {p : Nat} {r : Nat → Nat} {o : Nat → Int} {m : St} {n : Nat → Nat} (h : Sto w0 w p r o m n) (hT : Tb w0) (ow : Int) (k t : ByteArray) (hk : k.size ≤ 140737488351232) (hE : mineE o ow k = 0) {x : Option ByteArray} (hx : m k = x) (hv : ∀ y, x = some y → y.size ≤ 1000000) {c : Int} (hE2 : delE x t = c) (hc : c ≠ 0) :
    Calls Tryz.prog 64 #[.pointer (some ⟨p, 0, none⟩), .int .i64 ow, .string k, .string t] w fun e w' => e = .returned (.int .i64 c) ∧ Upd [] w w' := by
  have HS := Hd.mk h
  have HT := Hd.mk hT
  have HE := Hd.mk hE
  have HX := Hd.mk hx
  have HV := Hd.mk hv
  have HC := Hd.mk (And.intro hE2 hc)
  have HP := Hd.mk (show mineP p o ow k = .pointer (some ⟨p, shd k * 2, none⟩) by unfold mineP; rw [hE, if_pos rfl])
  clear h hE hx hT hv hE2 hc
  go_enter Tryz.func64, Tryz.ntmps64
  go_wp2_with fail
  refine (mine_ok HS.out ow k hk).mono ?_
  rintro e w1 ⟨rfl, u1⟩
  rw [HE.out, HP.out]
  have HU := Hd.mk u1
  have hcl := (HS.out.up HU.out).mp (shd_lt k)
  have hl := (HS.out.up HU.out).look k HX.out
  clear u1
  cases x with
  | none =>
    simp only [Option.getD_none, Option.isSome_none] at hl
    have h5 : c = 5 := by
      have := HC.out.1
      simp [delE] at this
      exact this.symm
    subst h5
    go_wp2_with fail
    go_ret
    exact ⟨rfl, HU.out⟩
  | some y =>
    simp only [Option.getD_some, Option.isSome_some] at hl
    have h6 : t.size ≠ 0 ∧ tagS y ≠ t ∧ c = 6 := by
      have := HC.out
      by_cases ht : t.size = 0
      · simp [delE, tagOk, ht] at this
        exact absurd this.1.symm this.2
      · by_cases e : tagS y = t
        · simp [delE, tagOk, e] at this
          exact absurd this.1.symm this.2
        · simp [delE, tagOk, ht, e] at this
          exact ⟨ht, e, this.1.symm⟩
    obtain ⟨ht, h6, rfl⟩ := h6
    have hne := str_ne0 (a := t) (fun e => ht (by rw [e]; rfl))
    have hno := str_no h6
    go_wp2_with fail
    refine (tag_ok y w1 (HV.out y rfl) (HT.out.upd (HS.out.up HU.out).upd)).mono ?_
    rintro e w2 ⟨rfl, u2⟩
    have HU := Hd.mk (HU.out.trans u2 (by simp))
    have HTS := Hd.mk (show tagS y = ⟨(tagL y.data.toList).toArray⟩ from rfl)
    rw [← HTS.out]
    clear u2
    go_wp2_with fail
    go_ret
    exact ⟨rfl, HU.out⟩
theorem delE_zero {x : Option ByteArray} {t : ByteArray} (h : delE x t = 0) : ∃ y, x = some y ∧ tagOk x t = true := by
  unfold delE at h
  cases x with
  | none => simp at h
  | some y =>
    cases h1 : tagOk (some y) t with
    | true => exact ⟨y, rfl, rfl⟩
    | false => rw [h1] at h; simp at h
set_option maxRecDepth 100000 in
theorem del_yes {w0 w : World} {p : Nat} {r : Nat → Nat} {o : Nat → Int} {m : St} {n : Nat → Nat} (h : Sto w0 w p r o m n) (hT : Tb w0) (ow : Int) (k t : ByteArray) (hk : k.size ≤ 140737488351232) (hE : mineE o ow k = 0) {x : Option ByteArray} (hx : m k = x) (hv : ∀ y, x = some y → y.size ≤ 1000000) (hE2 : delE x t = 0) :
    Calls Tryz.prog 64 #[.pointer (some ⟨p, 0, none⟩), .int .i64 ow, .string k, .string t] w fun e w' => e = .returned (.int .i64 0) ∧ Upd [r (shd k)] w w' ∧ Sto w0 w' p r o (setM m k none) (setN n (shd k) (n (shd k) - 1)) := by
  obtain ⟨y, rfl, hto⟩ := delE_zero hE2
  have HS := Hd.mk h
  have HT := Hd.mk hT
  have HE := Hd.mk hE
  have HX := Hd.mk hx
  have HV := Hd.mk hv
  have HP := Hd.mk (show mineP p o ow k = .pointer (some ⟨p, shd k * 2, none⟩) by unfold mineP; rw [hE, if_pos rfl])
  have htc := tagOk_cases hto
  clear h hE hx hT hv hE2 hto
  go_enter Tryz.func64, Tryz.ntmps64
  go_wp2_with fail
  refine (mine_ok HS.out ow k hk).mono ?_
  rintro e w1 ⟨rfl, u1⟩
  rw [HE.out, HP.out]
  have HU := Hd.mk u1
  have hcl := (HS.out.up HU.out).mp (shd_lt k)
  have hl := (HS.out.up HU.out).look k HX.out
  simp only [Option.getD_some, Option.isSome_some] at hl
  clear u1
  rcases htc with ht | ⟨ht, y', hyy, hty⟩
  · obtain rfl := size0 ht
    obtain ⟨w2, hst, u2, S2⟩ := (HS.out.up HU.out).drop k (by rw [HX.out]; rfl)
    have HS2 := Hd.mk (And.intro u2 S2)
    clear u2 S2
    go_wp2_with fail
    go_ret
    exact ⟨rfl, (HU.out.mono (by simp)).trans HS2.out.1 (by simp), HS2.out.2⟩
  · cases hyy
    have hne := str_ne0 (a := t) (fun e => ht (by rw [e]; rfl))
    have hys := str_yes hty
    go_wp2_with fail
    refine (tag_ok y w1 (HV.out y rfl) (HT.out.upd (HS.out.up HU.out).upd)).mono ?_
    rintro e w2 ⟨rfl, u2⟩
    have HU := Hd.mk (HU.out.trans u2 (by simp))
    have hcl := (HS.out.up HU.out).mp (shd_lt k)
    obtain ⟨w3, hst, u3, S3⟩ := (HS.out.up HU.out).drop k (by rw [HX.out]; rfl)
    have HS2 := Hd.mk (And.intro u3 S3)
    clear u2 u3 S3
    have HTS := Hd.mk (show tagS y = ⟨(tagL y.data.toList).toArray⟩ from rfl)
    rw [← HTS.out]
    clear hty
    go_wp2_with fail
    go_ret
    exact ⟨rfl, (HU.out.mono (by simp)).trans HS2.out.1 (by simp), HS2.out.2⟩
end Go.Proofs.YtndlbkiogagnaaaGreatDoor

namespace Go.Proofs.YtndlbkiogagnaaaGreatDoor
set_option linter.unusedSimpArgs false
set_option linter.unusedVariables false
set_option linter.unnecessarySimpa false
open Go.RowKit BigFrame

/-- How many of the first i shards are somebody's. -/
def heldN (o : Nat → Int) (ow : Int) (i : Nat) : Nat := (List.range i).countP fun j => decide (0 < ow ∧ o j = ow)
theorem heldN_succ (o : Nat → Int) (ow : Int) (i : Nat) : heldN o ow (i + 1) = heldN o ow i + (if 0 < ow ∧ o i = ow then 1 else 0) := by
  unfold heldN
  rw [List.range_succ, List.countP_append]
  by_cases h : 0 < ow ∧ o i = ow
  · simp [h]
  · rw [if_neg h]
    simp
    intro h1 h2
    exact h ⟨h1, h2⟩
theorem heldN_le (o : Nat → Int) (ow : Int) (i : Nat) : heldN o ow i ≤ i := by
  have := List.countP_le_length (p := fun j => decide (0 < ow ∧ o j = ow)) (l := List.range i)
  simpa [heldN] using this
theorem held_ok {w0 w : World} {p : Nat} {r : Nat → Nat} {o : Nat → Int} {m : St} {n : Nat → Nat} (h : Sto w0 w p r o m n) (ow : Int) :
    Calls Tryz.prog 96 #[.pointer (some ⟨p, 0, none⟩), .int .i64 ow] w fun e w' => e = .returned (.int .i64 (heldN o ow 4)) ∧ w' = w := by
  have HS := Hd.mk h
  clear h
  go_enter Tryz.func96, Tryz.ntmps96
  go_wp2_with fail
  go_loopg [5, 6, 7] 4 (fun g s5 s6 ii wr => ∃ i : Nat, g + i = 4 ∧ ii = .int .i64 i ∧ s5 = .int .i64 (heldN o ow i) ∧ wr = w)
  case atStart => exact ⟨0, rfl, rfl, rfl, rfl⟩
  case round =>
    obtain ⟨i, hg, rfl, rfl, rfl⟩ := hrel
    by_cases hi : i < 4
    · have hc := HS.out.ow hi
      have HN := Hd.mk (heldN_succ o ow i)
      have hle := heldN_le o ow i
      generalize heldN o ow i = q at *
      generalize o i = x at hc HN
      by_cases h1 : 0 < ow
      · have d1 : decide (0 < ow) = true := decide_eq_true h1
        by_cases h2 : x = ow
        · subst h2
          go_wp2_with fail
          go_roundg (gk - 1)
          case measure => omega
          case rel => exact ⟨i + 1, by omega, by go_num, by rw [HN.out, if_pos ⟨h1, trivial⟩]; go_num, rfl⟩
        · have d2 : (x == ow) = false := by simpa using h2
          go_wp2_with fail
          go_roundg (gk - 1)
          case measure => omega
          case rel => exact ⟨i + 1, by omega, by go_num, by rw [HN.out, if_neg (fun q => h2 q.2)]; go_num, rfl⟩
      · have d1 : decide (0 < ow) = false := decide_eq_false h1
        go_wp2_with fail
        go_roundg (gk - 1)
        case measure => omega
        case rel => exact ⟨i + 1, by omega, by go_num, by rw [HN.out, if_neg (by omega)]; go_num, rfl⟩
    · obtain rfl : i = 4 := by omega
      obtain ⟨q, hq⟩ : ∃ q, heldN o ow 4 = q := ⟨_, rfl⟩
      rw [hq]
      have HQ := Hd.mk hq
      clear hq
      go_wp2_with fail
      go_ret
      exact ⟨by rw [HQ.out]; rfl, rfl⟩
/-- The owners behind Unlock of the first i shards. -/
def unl (o : Nat → Int) (ow : Int) (i : Nat) : Nat → Int := fun j => if j < i ∧ 0 < ow ∧ o j = ow then 0 else o j
theorem unl_zero (o : Nat → Int) (ow : Int) : unl o ow 0 = o := by funext j; simp [unl]
theorem unl_at (o : Nat → Int) (ow : Int) (i : Nat) : unl o ow i i = o i := by simp [unl]
theorem unl_yes (o : Nat → Int) (ow : Int) (i : Nat) (h1 : 0 < ow) (h2 : o i = ow) : setO (unl o ow i) i 0 = unl o ow (i + 1) := by
  funext j
  unfold setO unl
  by_cases h : j = i
  · subst h; rw [if_pos rfl, if_pos ⟨by omega, h1, h2⟩]
  · rw [if_neg h]
    by_cases h3 : j < i ∧ 0 < ow ∧ o j = ow
    · rw [if_pos h3, if_pos ⟨by omega, h3.2⟩]
    · rw [if_neg h3, if_neg (fun q => h3 ⟨by omega, q.2⟩)]
theorem unl_no (o : Nat → Int) (ow : Int) (i : Nat) (h : ¬ (0 < ow ∧ o i = ow)) : unl o ow i = unl o ow (i + 1) := by
  funext j
  unfold unl
  by_cases h3 : j < i ∧ 0 < ow ∧ o j = ow
  · rw [if_pos h3, if_pos ⟨by omega, h3.2⟩]
  · rw [if_neg h3, if_neg (fun q => by
      by_cases e : j = i
      · subst e; exact h q.2
      · exact h3 ⟨by omega, q.2⟩)]
theorem unlock_ok {w0 w : World} {p : Nat} {r : Nat → Nat} {o : Nat → Int} {m : St} {n : Nat → Nat} (h : Sto w0 w p r o m n) (ow : Int) :
    Calls Tryz.prog 21 #[.pointer (some ⟨p, 0, none⟩), .int .i64 ow] w fun e w' => e = .returned (.tuple #[]) ∧ Sto w0 w' p r (unl o ow 4) m n ∧ Upd [p] w w' := by
  have HS := Hd.mk h
  clear h
  go_enter Tryz.func21, Tryz.ntmps21
  go_wp2_with fail
  go_loopg [4, 5] 4 (fun g s4 ii wr => ∃ i : Nat, g + i = 4 ∧ ii = .int .i64 i ∧ Hd (Sto w0 wr p r (unl o ow i) m n ∧ Upd [p] w wr))
  case atStart => exact ⟨0, rfl, rfl, Hd.mk ⟨by rw [unl_zero]; exact HS.out, Upd.refl _ _⟩⟩
  case round =>
    clear HS
    obtain ⟨i, hg, rfl, HS⟩ := hrel
    by_cases hi : i < 4
    · have hc := HS.out.1.ow hi
      have hz := HS.out.1.blk.free (i * 2)
      rw [unl_at] at hc
      have HL := Hd.mk (HS.out.1.lock hi 0)
      have HY := Hd.mk (unl_yes o ow i)
      have HN := Hd.mk (unl_no o ow i)
      generalize o i = x at hc HY HN
      by_cases h1 : 0 < ow
      · have d1 : decide (0 < ow) = true := decide_eq_true h1
        by_cases h2 : x = ow
        · subst h2
          go_wp2_with fail
          go_roundg (gk - 1)
          case measure => omega
          case rel => exact ⟨i + 1, by omega, by go_num, Hd.mk ⟨by have := HL.out.1; rw [HY.out h1 trivial] at this; exact this, HS.out.2.trans HL.out.2 (by simp)⟩⟩
        · have d2 : (x == ow) = false := by simpa using h2
          go_wp2_with fail
          go_roundg (gk - 1)
          case measure => omega
          case rel => exact ⟨i + 1, by omega, by go_num, by rw [← HN.out (fun q => h2 q.2)]; exact HS⟩
      · have d1 : decide (0 < ow) = false := decide_eq_false h1
        go_wp2_with fail
        go_roundg (gk - 1)
        case measure => omega
        case rel => exact ⟨i + 1, by omega, by go_num, by rw [← HN.out (by omega)]; exact HS⟩
    · obtain rfl : i = 4 := by omega
      go_wp2_with fail
      go_end0
      exact ⟨rfl, HS.out.1, HS.out.2⟩
end Go.Proofs.YtndlbkiogagnaaaGreatDoor

namespace Go.Proofs.YtndlbkiogagnaaaGreatDoor
set_option linter.unusedSimpArgs false
set_option linter.unusedVariables false
set_option linter.unnecessarySimpa false
open Go.RowKit BigFrame

theorem list_bad {w0 w : World} {p : Nat} {r : Nat → Nat} {o : Nat → Int} {m : St} {n : Nat → Nat} (h : Sto w0 w p r o m n) (ow : Int) (q : ByteArray) (hh : heldN o ow 4 ≠ 4) :
    Calls Tryz.prog 65 #[.pointer (some ⟨p, 0, none⟩), .int .i64 ow, .string q] w fun e w' => e = .returned (.tuple #[.slice none 0 0, .int .i64 7]) ∧ w' = w := by
  have HS := Hd.mk h
  clear h
  have d1 : ((heldN o ow 4 : Int) == 4) = false := by simp; omega
  clear hh
  go_enter Tryz.func65, Tryz.ntmps65
  go_wp2_with fail
  refine (held_ok HS.out ow).mono ?_
  rintro e w1 ⟨rfl, rfl⟩
  go_wp2_with fail
  go_ret2
  exact ⟨rfl, rfl⟩
theorem Rng.notOwn {w : World} {it b : Nat} {kv : ByteArray → Value} {L F : List (ByteArray × Value × Nat)} (h : Rng w it b kv L F) {e : TypeId} {sz : Nat} {v : Value} {n : Nat} {xs : List Value} (hs : Sl w e sz v n xs) : it ∉ ownB v := by
  intro hk
  rcases hs.2 with ⟨rfl, rfl⟩ | ⟨g, o, cap, cur, rfl, hb, -⟩
  · simp [ownB] at hk
  · simp [ownB] at hk
    subst hk
    exact h.notBlk _ _ hb
theorem index_sh (o : Nat → Int) (r : Nat → Nat) (i : Nat) (hi : i < 4) (W : World) : (Instr.index 112 (.agg #[.int .i64 (o 0), .map (some (r 0)), .int .i64 (o 1), .map (some (r 1)), .int .i64 (o 2), .map (some (r 2)), .int .i64 (o 3), .map (some (r 3))]) (.int .i64 i)).run Tryz.prog W = .ok (.agg #[.int .i64 (o i), .map (some (r i))]) W := by
  rcases (by omega : i = 0 ∨ i = 1 ∨ i = 2 ∨ i = 3) with e | e | e | e <;> subst e <;> kernel_rfl
def pre (q k : ByteArray) : Bool := Lib.hasPrefix k.data.toList q.data.toList
/-- What List has found in the first i shards. -/
structure Ls0 (m : St) (q : ByteArray) (i : Nat) (ks : List ByteArray) : Prop where
  mem : ∀ k, k ∈ ks ↔ (m k).isSome = true ∧ pre q k = true ∧ shd k < i
  nodup : ks.Nodup
  len : ks.length ≤ 8 * i
/-- .. and in the next one, where F is still to come. -/
structure Ls (m : St) (q : ByteArray) (i : Nat) (F : List (ByteArray × Value × Nat)) (ks : List ByteArray) : Prop where
  mem : ∀ k, k ∈ ks ↔ (m k).isSome = true ∧ pre q k = true ∧ (shd k < i ∨ (shd k = i ∧ k ∉ F.map (·.1)))
  nodup : ks.Nodup
  len : ks.length + F.length ≤ 8 * (i + 1)
theorem Ls0.start (m : St) (q : ByteArray) : Ls0 m q 0 [] := ⟨fun k => by simp, List.nodup_nil, by simp⟩
theorem key_in {m : St} {i : Nat} {L : List (ByteArray × Value × Nat)} (hg : ∀ k, get L k = (part m i k).map .string) (k : ByteArray) : k ∈ L.map (·.1) ↔ (m k).isSome = true ∧ shd k = i := by
  rw [← get_isSome, hg]
  unfold part
  by_cases h : shd k = i
  · simp [h]
  · simp [h]
theorem Ls0.next {m : St} {q : ByteArray} {i : Nat} {ks : List ByteArray} (h : Ls0 m q i ks) {L : List (ByteArray × Value × Nat)} (hg : ∀ k, get L k = (part m i k).map .string) (hl : L.length ≤ 8) : Ls m q i L ks := by
  refine ⟨fun k => ?_, h.nodup, by have := h.len; omega⟩
  rw [h.mem, key_in hg]
  constructor
  · rintro ⟨h1, h2, h3⟩
    exact ⟨h1, h2, .inl h3⟩
  · rintro ⟨h1, h2, h3 | ⟨h3, h4⟩⟩
    · exact ⟨h1, h2, h3⟩
    · exact absurd ⟨h1, h3⟩ h4
theorem Ls.done {m : St} {q : ByteArray} {i : Nat} {ks : List ByteArray} (h : Ls m q i [] ks) : Ls0 m q (i + 1) ks := by
  refine ⟨fun k => ?_, h.nodup, by have := h.len; simp at this; omega⟩
  rw [h.mem]
  constructor
  · rintro ⟨h1, h2, h3⟩
    exact ⟨h1, h2, by omega⟩
  · rintro ⟨h1, h2, h3⟩
    refine ⟨h1, h2, ?_⟩
    by_cases e : shd k = i
    · exact .inr ⟨e, by simp⟩
    · exact .inl (by omega)
theorem Ls.step {m : St} {q : ByteArray} {i : Nat} {L F : List (ByteArray × Value × Nat)} {ks : List ByteArray} (h : Ls m q i F ks) (hn : (L.map (·.1)).Nodup) (hg : ∀ k, get L k = (part m i k).map .string) {x : ByteArray × Value × Nat} (hx : x ∈ F) (hL : x ∈ L) :
    Ls m q i (F.filter fun y => decide (y.1 ≠ x.1)) (if pre q x.1 then ks ++ [x.1] else ks) := by
  have hin := (key_in hg x.1).1 (List.mem_map_of_mem hL)
  have hlt := filter_short hx
  have hni : x.1 ∉ ks := by
    intro hk
    have := ((h.mem x.1).1 hk).2.2
    rcases this with e | ⟨-, e⟩
    · omega
    · exact e (List.mem_map_of_mem hx)
  by_cases hp : pre q x.1 = true
  · rw [if_pos hp]
    refine ⟨fun k => ?_, ?_, ?_⟩
    · rw [List.mem_append, List.mem_singleton, h.mem, mem_short hn F]
      by_cases e : k = x.1
      · subst e
        simp [hp, hin]
      · simp [e]
    · rw [List.nodup_append]
      refine ⟨h.nodup, by simp, fun a ha b hb => ?_⟩
      rw [List.mem_singleton] at hb
      subst hb
      exact fun e => hni (e ▸ ha)
    · have := h.len
      rw [List.length_append, List.length_singleton]
      omega
  · rw [if_neg hp]
    refine ⟨fun k => ?_, h.nodup, by have := h.len; omega⟩
    rw [h.mem, mem_short hn F]
    by_cases e : k = x.1
    · subst e
      simp [hp]
    · simp [e]
theorem Mp.nodup {w : World} {r : Nat} {kv : ByteArray → Value} {L : List (ByteArray × Value × Nat)} (h : Mp w r kv L) : (L.map (·.1)).Nodup := by
  obtain ⟨_, _, h, _⟩ := h; exact h
theorem Bld.besidesK {w0 w w' : World} {S : List Nat} {e : TypeId} {sz : Nat} {v : Value} {n : Nat} {xs : List Value} (h : Bld w0 w e sz v n xs) (u : Upd S w w') (hS : ∀ k, k ∈ S → k ∉ ownB v ∧ w0.heap.size ≤ k) : Bld w0 w' e sz v n xs :=
  ⟨h.sl.upd u (fun k hk hk2 => (hS k hk2).1 hk), h.own, h.upd.trans u (fun k hk hk2 => by have := (hS k hk2).2; omega)⟩
/-- The slice v, made behind w0, reads as the texts ks. -/
def RdK (w0 w : World) (v : Value) (ks : List ByteArray) : Prop :=
  (ks = [] ∧ ∃ a cap, v = .slice a 0 cap) ∨ ∃ b off cap, v = .slice (some ⟨b, off, none⟩) ks.length cap ∧ w0.heap.size ≤ b ∧ b < w.heap.size ∧ ∀ j (h : j < ks.length), w.cell? ⟨b, off + j, none⟩ = some (.string ks[j])
def Asc (ks : List ByteArray) : Prop := ks.Pairwise fun a b => a.data.toList ≤ b.data.toList
/-- What List hands back. -/
def ListQ (w : World) (m : St) (q : ByteArray) (e : Ending) (w' : World) : Prop := ∃ v ks, e = .returned (.tuple #[v, .int .i64 0]) ∧ RdK w w' v ks ∧ Upd [] w w' ∧ Ls0 m q 4 ks ∧ Asc ks
theorem le_tr (a b c : List UInt8) : decide (a ≤ b) = true → decide (b ≤ c) = true → decide (a ≤ c) = true := by
  intro h1 h2
  exact decide_eq_true (List.le_trans (of_decide_eq_true h1) (of_decide_eq_true h2))
theorem le_to (a b : List UInt8) : (decide (a ≤ b) || decide (b ≤ a)) = true := by
  rcases List.le_total a b with h | h
  · simp [h]
  · simp [h]
theorem Ls0.perm {m : St} {q : ByteArray} {i : Nat} {ks ks' : List ByteArray} (h : Ls0 m q i ks) (hp : ks'.Perm ks) : Ls0 m q i ks' :=
  ⟨fun k => (hp.mem_iff).trans (h.mem k), (hp.nodup_iff).2 h.nodup, by rw [hp.length_eq]; exact h.len⟩
theorem sorted_done {w wr w' : World} {m : St} {q : ByteArray} {ks : List ByteArray} {g off cap nn : Nat} {os : Array Obj} (hu : Upd [] w wr) (hl : Ls0 m q 4 ks) (hg : w.heap.size ≤ g) (hgb : g < wr.heap.size)
    (hH : Go.Sort.Holds encStr wr g off (ks.map fun k => k.data.toList).toArray) (hw : w' = Go.Sort.grow (Go.Sort.putRow encStr (Go.Sort.ahead wr nn) g off ((ks.map fun k => k.data.toList).mergeSort fun x y => decide (x ≤ y)).toArray) os) :
    ListQ w m q (.returned (.tuple #[.slice (some ⟨g, off, none⟩) ks.length cap, .int .i64 0])) w' := by
  have hpl := List.mergeSort_perm (ks.map fun k => k.data.toList) (fun x y => decide (x ≤ y))
  have hsl : ((ks.map fun k => k.data.toList).mergeSort fun x y => decide (x ≤ y)).length = ks.length := by rw [hpl.length_eq, List.length_map]
  have hso := List.pairwise_mergeSort le_tr le_to (ks.map fun k => k.data.toList)
  generalize (ks.map fun k => k.data.toList).mergeSort (fun x y => decide (x ≤ y)) = ss at *
  have hks : (ss.map fun l => (⟨l.toArray⟩ : ByteArray)).Perm ks := by
    have := hpl.map (fun l => (⟨l.toArray⟩ : ByteArray))
    rw [List.map_map] at this
    have e : ((fun l => (⟨l.toArray⟩ : ByteArray)) ∘ fun k : ByteArray => k.data.toList) = id := by funext k; rfl
    rw [e, List.map_id] at this
    exact this
  have hH2 : Go.Sort.Holds encStr (Go.Sort.ahead wr nn) g off (ks.map fun k => k.data.toList).toArray := hH
  have hsz : w'.heap.size = wr.heap.size + os.size := by rw [hw]; simp [Go.Sort.ahead]
  have hu2 : Upd [g] wr w' := by
    refine ⟨by rw [hw]; rfl, by rw [hw]; rfl, by rw [hw]; rfl, by omega, fun k hk hkg => ?_⟩
    rw [hw, Go.Sort.heap_grow_old _ _ (by simpa [Go.Sort.ahead] using hk)]
    rw [List.mem_singleton] at hkg
    have hne : ¬ g = k := fun e => hkg e.symm
    show ((Go.Sort.ahead wr nn).heap.modify g _)[k]? = _
    rw [Array.getElem?_modify, if_neg hne]
    rfl
  refine ⟨_, ss.map fun l => (⟨l.toArray⟩ : ByteArray), rfl, .inr ⟨g, off, cap, by rw [List.length_map, hsl], hg, by omega, fun j hj => ?_⟩, hu.trans hu2 (fun k hk h => by rw [List.mem_singleton] at h; omega), hl.perm hks, ?_⟩
  · rw [List.length_map] at hj
    rw [hw, Go.Sort.cell?_grow _ _ _ (by simpa [Go.Sort.ahead] using hgb), Go.Sort.cell?_putRow encStr _ g off _ _ hH2 (by simp [hsl]) j (by simpa using hj)]
    simp [hj, encStr]
  · unfold Asc
    rw [List.pairwise_map]
    exact hso.imp fun h => by simpa using h
set_option maxRecDepth 100000 in
set_option maxHeartbeats 2000000 in
theorem list_ok {w0 w : World} {p : Nat} {r : Nat → Nat} {o : Nat → Int} {m : St} {n : Nat → Nat} (h : Sto w0 w p r o m n) (hn : ∀ i, i < 4 → n i ≤ 8) (ow : Int) (q : ByteArray) (hh : heldN o ow 4 = 4) :
    Calls Tryz.prog 65 #[.pointer (some ⟨p, 0, none⟩), .int .i64 ow, .string q] w (ListQ w m q) := by
  have HS := Hd.mk h
  have b1 := h.blk
  unfold scells at b1
  have c0 := b1.cell 0
  have c1 := b1.cell 1
  have c2 := b1.cell 2
  have c3 := b1.cell 3
  have c4 := b1.cell 4
  have c5 := b1.cell 5
  have c6 := b1.cell 6
  have c7 := b1.cell 7
  simp only [List.getElem?_cons_zero, List.getElem?_cons_succ] at c0 c1 c2 c3 c4 c5 c6 c7
  clear h b1
  go_enter Tryz.func65, Tryz.ntmps65
  go_wp2_with fail
  refine (held_ok HS.out ow).mono ?_
  rintro e w1 ⟨rfl, rfl⟩
  rw [hh]
  clear hh
  go_upto_region 5 with (fail)
  clear c0 c1 c2 c3 c4 c5 c6 c7
  have HN := Hd.mk hn
  clear hn
  go_loopg [8, 10, 11, 20] 4 (fun g s8 s10 s11 ii wr => ∃ (i : Nat) (ks : List ByteArray), g + i = 4 ∧ ii = .int .i64 i ∧ Hd (Bld w1 wr 9 1 s8 ks.length (ks.map .string)) ∧ Hd (Ls0 m q i ks))
  case atStart => exact ⟨0, [], rfl, rfl, Hd.mk (Bld.nil (Upd.refl _ _) _ _), Hd.mk (Ls0.start m q)⟩
  case round =>
    obtain ⟨i, ks, hg, rfl, HB, HL⟩ := hrel
    by_cases hi : i < 4
    · obtain ⟨gq, hgq⟩ : ∃ gq, gq = gk - 1 := ⟨_, rfl⟩
      have HGQ := Hd.mk (And.intro hgq hg)
      clear hgq hg
      have hix := index_sh o r i hi
      go_upto_region 7 with (fail)
      have HB1 := Hd.mk (HB.out.over ((Upd.refl [] wr).alloc (.cells #[.int .i64 (o i), .map (some (r i))] 111)))
      have BX := Blk.new wr [.int .i64 (o i), .map (some (r i))] 111 _ rfl
      refine wp_abs (fun W => Bld w1 W 9 1 u8 ks.length (ks.map .string) ∧ Blk W wr.heap.size [.int .i64 (o i), .map (some (r i))] 111) ⟨HB1.out, BX⟩ ?_
      clear HB HB1 BX
      generalize wr.heap.size = xb
      rintro w2 ⟨b2, x2⟩
      have HB := Hd.mk b2
      have c0 := x2.cell 0
      have c1 := x2.cell 1
      simp only [List.getElem?_cons_zero, List.getElem?_cons_succ] at c0 c1
      clear b2 x2
      have HSto := Hd.mk (HS.out.up HB.out.upd)
      have hmp := HSto.out.map i hi
      obtain ⟨L, hL, hgt, hlen⟩ := hmp
      have HG := Hd.mk hgt
      have HLn := Hd.mk (show L.length ≤ 8 by rw [hlen]; exact HN.out i hi)
      clear hgt hlen
      obtain ⟨w3, hrun, r3, u3⟩ := run_range_mp (P := Tryz.prog) Tryz.underlying109 hL
      have HW := Hd.mk (show w1.heap.size ≤ w2.heap.size from HB.out.upd.size)
      have HB := Hd.mk (HB.out.over u3)
      have HR := Hd.mk r3
      have HLI := Hd.mk (HL.out.next HG.out HLn.out)
      clear r3 u3 hL
      generalize w2.heap.size = it at hrun HR HW
      go_upto_region 8 with (fail)
      simp only [show decide ((i : Int) < 4) = true from decide_eq_true (by omega)]
      go_loopg [8, 11] L.length (fun g s8 s11 wr => ∃ (F : List (ByteArray × Value × Nat)) (ks : List ByteArray), Hd (g = F.length) ∧ Rng wr it (r i) (fun k => .string k) L F ∧ Hd (Bld w1 wr 9 1 s8 ks.length (ks.map .string)) ∧ Hd (Ls m q i F ks))
      case atStart => exact ⟨L, ks, Hd.mk rfl, HR.out, HB, HLI⟩
      case round =>
        clear HB HR hrun HL HLI c0 c1 hix
        obtain ⟨F, ks, HGh, rr, HB, HL⟩ := hrel
        rcases run_next_mp (P := Tryz.prog) rr with ⟨rfl, hrun⟩ | ⟨x, w4, hx, hrun, r4, u4, hen⟩
        · go_wp2_with fail
          go_roundg gq
          case measure => have := HGQ.out; omega
          case rel => exact ⟨i + 1, ks, by have := HGQ.out; omega, by go_num, HB, Hd.mk HL.out.done⟩
        · have hxL := rr.sub x hx
          have HST := Hd.mk (HL.out.step rr.mp.nodup HG.out hx hxL)
          have HSH := Hd.mk (filter_short hx)
          have HB4 := Hd.mk (HB.out.besidesK u4 (fun k hk => by
            rw [List.mem_singleton] at hk
            subst hk
            exact ⟨rr.notOwn HB.out.sl, HW.out⟩))
          have HR4 := Hd.mk r4
          have HRI := Hd.mk (show r i < w1.heap.size from (HS.out.map i hi).lt)
          clear rr hx hxL u4 r4 HB
          obtain ⟨xk, xv, xb2⟩ := x
          simp only at hrun hen HST HR4 HSH
          go_wp2_with fail
          refine (Tryz.strings_HasPrefix xk q w4).mono ?_
          rintro e w5 ⟨rfl, rfl⟩
          obtain ⟨bb, hbb⟩ : ∃ bb, pre q xk = bb := ⟨_, rfl⟩
          rw [show Lib.hasPrefix xk.data.toList q.data.toList = bb from hbb]
          rw [hbb] at HST
          clear hbb
          cases bb with
          | false =>
            go_wp2_with fail
            go_roundg (F.filter fun y => decide (y.1 ≠ xk)).length
            case measure => have := HGh.out; have := HSH.out; omega
            case rel => exact ⟨_, ks, Hd.mk rfl, HR4.out, HB4, HST⟩
          | true =>
            have hk32 : ks.length < 1000000 := by
              have := HL.out.len
              omega
            have hsl := HB4.out.sl
            go_wp2_with (at_builtin; refine wpList_append_row rfl (.tmp 33) (.tmp 35) 22 rfl rfl 9 (.string ⟨#[]⟩) 1 16 Tryz.underlying22 (by kernel_rfl) rfl _ _ _ rfl hsl [.string xk] rfl rfl rfl hk32 (by omega) ?_)
            intro v6 w6 s6 u6 o6
            have HB6 := Hd.mk (HB4.out.app s6 u6 o6)
            have HR6 := Hd.mk (HR4.out.upd u6 (HR4.out.notOwn HB4.out.sl) (fun hk => by have := HB4.out.own _ hk; have := HRI.out; omega))
            clear s6 u6 o6 hsl
            go_wp2_with fail
            go_roundg (F.filter fun y => decide (y.1 ≠ xk)).length
            case measure => have := HGh.out; have := HSH.out; omega
            case rel => exact ⟨_, ks ++ [xk], Hd.mk rfl, HR6.out, by rw [List.length_append, List.map_append]; exact HB6, HST⟩
    · obtain rfl : i = 4 := by omega
      clear hi hg
      rcases HB.out.sl.2 with ⟨rfl, h0⟩ | ⟨g, off, cap, cur, rfl, hb, -⟩
      · have hks : ks = [] := List.eq_nil_of_length_eq_zero h0
        go_wp2_with fail
        refine (Tryz.slices_Sort_string_none none 0 wr).mono ?_
        rintro e w2 ⟨rfl, rfl⟩
        go_wp2_with fail
        go_ret2
        exact ⟨_, ks, rfl, .inl ⟨hks, none, 0, rfl⟩, HB.out.upd, HL.out, by rw [hks]; exact List.Pairwise.nil⟩
      · have hH : Go.Sort.Holds encStr wr g off (ks.map fun k => k.data.toList).toArray := by
          intro j hj
          simp only [List.size_toArray, List.length_map] at hj
          refine ⟨?_, hb.free _⟩
          rw [HB.out.sl.cell j (by omega)]
          simp [hj, encStr]
        have HGL := Hd.mk (show w1.heap.size ≤ g from HB.out.own g (by simp [ownB]))
        have HGB := Hd.mk hb.lt
        have HH := Hd.mk hH
        clear hH hb
        have hso := Tryz.slices_Sort_string g off cap (ks.map fun k => k.data.toList) wr HH.out HGB.out (by have := HL.out.len; simp; omega)
        rw [List.length_map] at hso
        have HSO := Hd.mk hso
        clear hso
        go_wp2_with fail
        refine HSO.out.mono ?_
        rintro e w2 ⟨rfl, nn, os, hw2⟩
        have HW2 := Hd.mk hw2
        clear hw2
        go_wp2_with fail
        go_ret2
        refine sorted_done HB.out.upd HL.out HGL.out HGB.out HH.out HW2.out
end Go.Proofs.YtndlbkiogagnaaaGreatDoor
