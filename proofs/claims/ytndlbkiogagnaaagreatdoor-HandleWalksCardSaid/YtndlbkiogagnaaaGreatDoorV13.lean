/- Tries: what a route's names stand for. -/
import Derived.Test.YtndlbkiogagnaaaGreatDoorRdS
import Derived.Test.YtndlbkiogagnaaaGreatDoorV12
namespace Go.Proofs.YtndlbkiogagnaaaGreatDoor
set_option linter.unusedSimpArgs false
set_option linter.unusedVariables false
set_option linter.unnecessarySimpa false
open Go.RowKit BigFrame

def joinL : List Bs → Bs
  | [] => []
  | x :: r => x ++ r.flatMap fun y => 47 :: y
theorem joinL_snoc (l : List Bs) (x : Bs) : joinL (l ++ [x]) = if l = [] then x else joinL l ++ 47 :: x := by
  cases l with
  | nil => simp [joinL]
  | cons a r => simp [joinL]
def sumL (l : List Bs) : Nat := (l.map List.length).sum + l.length
theorem sumL_take (l : List Bs) (k : Nat) : sumL (l.take k) ≤ sumL l := by
  have h : sumL l = sumL (l.take k) + sumL (l.drop k) := by
    conv => lhs; rw [← List.take_append_drop k l]
    simp only [sumL, List.map_append, List.sum_append, List.length_append]
    omega
  omega
theorem sumL_drop (l : List Bs) (k : Nat) : sumL (l.drop k) ≤ sumL l := by
  have h : sumL l = sumL (l.take k) + sumL (l.drop k) := by
    conv => lhs; rw [← List.take_append_drop k l]
    simp only [sumL, List.map_append, List.sum_append, List.length_append]
    omega
  omega
theorem flat_le : ∀ (r : List Bs), (r.flatMap fun y => (47 : UInt8) :: y).length ≤ sumL r
  | [] => by simp [sumL]
  | y :: r => by
    have := flat_le r
    simp only [sumL, List.flatMap_cons, List.length_append, List.length_cons, List.map_cons, List.sum_cons] at *
    omega
theorem joinL_le (l : List Bs) : (joinL l).length ≤ sumL l := by
  cases l with
  | nil => simp [joinL]
  | cons x r =>
    have := flat_le r
    simp only [joinL, sumL, List.length_append, List.map_cons, List.sum_cons, List.length_cons] at *
    omega
theorem mem_sumL {l : List Bs} {x : Bs} (h : x ∈ l) : x.length ≤ sumL l := by
  induction l with
  | nil => cases h
  | cons a r ih =>
    simp only [sumL, List.map_cons, List.sum_cons, List.length_cons] at *
    rcases List.mem_cons.1 h with h | h
    · subst h; omega
    · have := ih h; omega
theorem len_sumL (l : List Bs) : l.length ≤ sumL l := by unfold sumL; omega
set_option maxHeartbeats 1000000 in
theorem join_ok (l : List Bs) (lv : Value) (i : Nat) (w : World) (hl : RdS w 1 lv l.length (l.map S)) (hi : i < l.length) (hz : sumL l ≤ 4503599627370496) :
    Calls Tryz.prog 89 #[lv, .int .i64 i] w fun e w' => e = .returned (S (joinL (l.drop i))) ∧ w' = w := by
  have hll := len_sumL l
  obtain ⟨lv', hrun, hsl⟩ := run_from_rs (P := Tryz.prog) 22 9 1 Tryz.underlying22 (by kernel_rfl) w lv l.length _ hl i (by omega) (by omega) (by omega)
  rw [Nat.mul_one, ← List.map_drop] at hsl
  obtain ⟨la, lc, rfl⟩ := hl.form
  obtain ⟨ma, mc, rfl⟩ := hsl.form
  have hmin : ∀ W, (Builtin.min_ #[3, 3] 3 #[.int .i64 i, .int .i64 l.length]).run Tryz.prog W = .ok (.int .i64 i) W := by
    intro W
    simp [Builtin.min_, Builtin.min2]
    intro h3; omega
  have hmz : sumL (l.drop i) ≤ 4503599627370496 := Nat.le_trans (sumL_drop l i) hz
  have hlm : (l.drop i).length = l.length - i := by simp
  rw [← hlm] at hsl hrun
  obtain ⟨m, hm⟩ : ∃ m, l.drop i = m := ⟨_, rfl⟩
  rw [hm] at hsl hrun hmz ⊢
  have HSL := Hd.mk hsl
  have HMZ := Hd.mk hmz
  have hml : m.length ≤ 4503599627370496 := by have := len_sumL m; omega
  clear hl hsl hll hz hm hlm hmz
  go_enter Tryz.func89, Tryz.ntmps89
  go_upto_region 3 with (fail)
  go_loopg [5, 6, 7, 15] m.length (fun g s5 s6 s7 ii wr => ∃ (k : Nat) (sb : ByteArray), g + k = m.length ∧ ii = .int .i64 k ∧ s5 = .string sb ∧ Hd (sb.data.toList = joinL (m.take k)) ∧ wr = w)
  case atStart => exact ⟨0, ⟨#[]⟩, by omega, rfl, rfl, Hd.mk rfl, rfl⟩
  case round =>
    obtain ⟨k, sb, hg, rfl, rfl, HS, rfl⟩ := hrel
    have HG := Hd.mk hg
    clear hg
    have hsz : sb.size ≤ 4503599627370496 := by
      have h1 := congrArg List.length HS.out
      have h2 := joinL_le (m.take k)
      have h3 := sumL_take m k
      have h4 := HMZ.out
      simp at h1
      omega
    by_cases hk : k < m.length
    · obtain ⟨b, o, mc', hv, _, _, hcell⟩ := HSL.out.some (by omega)
      simp only [Value.slice.injEq] at hv
      obtain ⟨rfl, _, rfl⟩ := hv
      have x0 := hcell k (by omega)
      obtain ⟨x, hx⟩ : ∃ x, m[k] = x := ⟨_, rfl⟩
      rw [List.getElem?_map, List.getElem?_eq_getElem hk, hx] at x0
      simp only [Option.map_some] at x0
      have htk : m.take (k + 1) = m.take k ++ [x] := by rw [← hx]; exact List.take_succ_eq_append_getElem hk
      have hxz := mem_sumL (show x ∈ m by rw [← hx]; exact List.getElem_mem hk)
      have hmz := HMZ.out
      obtain ⟨xb, hxb⟩ : ∃ xb : ByteArray, (⟨x.toArray⟩ : ByteArray) = xb := ⟨_, rfl⟩
      have HXB := Hd.mk (show xb.data.toList = x by rw [← hxb])
      have hxs : xb.size ≤ 4503599627370496 := by have h1 := congrArg List.length HXB.out; simp at h1; omega
      unfold S at x0
      rw [hxb] at x0
      have HTK := Hd.mk (show joinL (m.take (k + 1)) = if m.take k = [] then x else joinL (m.take k) ++ 47 :: x by rw [htk, joinL_snoc])
      clear hcell hx htk hxz hmz hxb
      have s1 : ¬ 9223372036854775807 < sb.size + 1 := by omega
      have s2 : ¬ 9223372036854775807 < sb.size + 1 + xb.size := by omega
      have s3 : ¬ 9223372036854775807 < sb.size + xb.size := by omega
      by_cases h0 : k = 0
      · subst h0
        rw [Nat.add_zero] at x0
        go_wp2_with fail
        go_roundg (gk - 1)
        case measure => have := HG.out; omega
        case rel => exact ⟨1, _, by have := HG.out; omega, rfl, rfl, Hd.mk (by
          have h1 := HS.out
          rw [HTK.out]
          simp only [List.take_zero, joinL, if_true] at h1 ⊢
          rw [ByteArray.data_append, Array.toList_append, h1, HXB.out]; rfl), rfl⟩
      · have d0 : decide ((0 : Int) < k) = true := decide_eq_true (by omega)
        go_wp2_with fail
        go_roundg (gk - 1)
        case measure => have := HG.out; omega
        case rel => exact ⟨k + 1, _, by have := HG.out; omega, by go_num, rfl, Hd.mk (by
          have hne : m.take k ≠ [] := by
            intro e
            have h9 : (m.take k).length = k := by rw [List.length_take]; omega
            rw [e] at h9
            exact h0 h9.symm
          rw [HTK.out, if_neg hne]
          rw [ByteArray.data_append, Array.toList_append, ByteArray.data_append, Array.toList_append, HS.out, HXB.out]
          simp), rfl⟩
    · obtain rfl : k = m.length := by have := HG.out; omega
      have HE := Hd.mk (show Value.string sb = S (joinL m) from S_of (by rw [HS.out, List.take_length]))
      go_wp2_with fail
      go_ret
      exact ⟨by rw [← HE.out]; rfl, rfl⟩
end Go.Proofs.YtndlbkiogagnaaaGreatDoor
