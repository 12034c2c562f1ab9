/- Tables: a pattern's Shape. -/
import Derived.Test.YtndlbkiogagnaaaGreatDoorV19
namespace Go.Proofs.YtndlbkiogagnaaaGreatDoor
set_option linter.unusedSimpArgs false
set_option linter.unusedVariables false
set_option linter.unnecessarySimpa false
open Go.RowKit BigFrame

def shp1 (x : Bs) : Bs := if kindL x = 0 then 47 :: x else if kindL x = 1 then [47, 58] else [47, 42]
def shapeL (l : List Bs) : Bs := l.flatMap shp1
theorem shp1_le (x : Bs) : (shp1 x).length ≤ x.length + 1 := by
  unfold shp1
  cases x with
  | nil => simp [kindL]
  | cons c r => split <;> (try split) <;> simp <;> omega
theorem shapeL_le (l : List Bs) : (shapeL l).length ≤ sumL l := by
  induction l with
  | nil => simp [shapeL]
  | cons x l ih =>
    have := shp1_le x
    simp only [shapeL, List.flatMap_cons, List.length_append, sumL, List.map_cons, List.sum_cons, List.length_cons] at *
    omega
set_option maxRecDepth 100000 in
set_option maxHeartbeats 2000000 in
theorem shape_ok (l : List Bs) (lv : Value) (w : World) (hl : Sl w 9 1 lv l.length (l.map S)) (hz : sumL l ≤ 1000000) :
    Calls Tryz.prog 76 #[lv] w fun e w' => e = .returned (S (shapeL l)) ∧ Upd [] w w' := by
  have hll := len_sumL l
  obtain ⟨la, lc, rfl⟩ := hl.form
  have HSL := Hd.mk hl
  have HZ := Hd.mk hz
  have hml : l.length ≤ 1000000 := by omega
  clear hl hll hz
  go_enter Tryz.func76, Tryz.ntmps76
  go_upto_region 2 with (fail)
  go_wp2_with fail
  go_loopg [3, 5, 8] l.length (fun g s3 s5 ii wr => ∃ (k : Nat) (sb : ByteArray), g + k = l.length ∧ ii = .int .i64 k ∧ s3 = .string sb ∧ Hd (sb.data.toList = shapeL (l.take k) ∧ Upd [] w wr))
  case atStart => exact ⟨0, ⟨#[]⟩, by omega, rfl, rfl, Hd.mk ⟨rfl, Upd.refl _ _⟩⟩
  case round =>
    obtain ⟨k, sb, hg, rfl, rfl, HS⟩ := hrel
    have HG := Hd.mk hg
    clear hg
    have hsz : sb.size ≤ 1000000 := by
      have h1 := congrArg List.length HS.out.1
      have h2 := shapeL_le (l.take k)
      have h3 := sumL_take l k
      have h4 := HZ.out
      simp at h1
      omega
    by_cases hk : k < l.length
    · obtain ⟨b, o, mc', hv, _, _, hcell⟩ := (HSL.out.upd HS.out.2 (by simp)).some (by omega)
      simp only [Value.slice.injEq] at hv
      obtain ⟨rfl, _, rfl⟩ := hv
      have x0 := hcell k (by omega)
      obtain ⟨x, hx⟩ : ∃ x, l[k] = x := ⟨_, rfl⟩
      rw [List.getElem?_map, List.getElem?_eq_getElem hk, hx] at x0
      simp only [Option.map_some] at x0
      have htk : l.take (k + 1) = l.take k ++ [x] := by rw [← hx]; exact List.take_succ_eq_append_getElem hk
      have hxz := mem_sumL (show x ∈ l by rw [← hx]; exact List.getElem_mem hk)
      have hmz := HZ.out
      have HTK := Hd.mk (show shapeL (l.take (k + 1)) = shapeL (l.take k) ++ shp1 x by rw [htk]; simp [shapeL])
      have HXZ := Hd.mk (show x.length ≤ 1000000 by omega)
      clear hcell hx htk hxz hmz
      obtain ⟨xb, hxb⟩ : ∃ xb : ByteArray, (⟨x.toArray⟩ : ByteArray) = xb := ⟨_, rfl⟩
      have HXB := Hd.mk (show xb.data.toList = x by rw [← hxb])
      have hkn := kind_ok x wr
      unfold S at x0 hkn
      rw [hxb] at x0 hkn
      have hxs : xb.size ≤ 1000000 := by have h1 := congrArg List.length HXB.out; have := HXZ.out; simp at h1; omega
      have HKN := Hd.mk hkn
      clear hkn hxb
      have s1 : ¬ 9223372036854775807 < sb.size + (1 + xb.size) := by omega
      have s2 : ¬ 9223372036854775807 < 1 + xb.size := by omega
      have s3 : ¬ 9223372036854775807 < sb.size + 2 := by omega
      go_wp2_with fail
      refine HKN.out.mono ?_
      rintro e w2 ⟨rfl, u2⟩
      have HU := Hd.mk (HS.out.2.trans u2 (by simp))
      clear u2 x0
      rcases (by have := kindL_le x; omega : kindL x = 0 ∨ kindL x = 1 ∨ kindL x = 2) with e | e | e
      · have HP := Hd.mk (show shp1 x = 47 :: x by unfold shp1; rw [if_pos e])
        rw [e]
        clear e
        go_wp2_with fail
        go_roundg (gk - 1)
        case measure => have := HG.out; omega
        case rel => exact ⟨k + 1, _, by have := HG.out; omega, by go_num, rfl, Hd.mk ⟨by
          rw [HTK.out, HP.out]
          rw [ByteArray.data_append, Array.toList_append, ByteArray.data_append, Array.toList_append, HS.out.1, HXB.out]; rfl, HU.out⟩⟩
      · have HP := Hd.mk (show shp1 x = [47, 58] by unfold shp1; rw [if_neg (by omega), if_pos e])
        rw [e]
        clear e
        go_wp2_with fail
        go_roundg (gk - 1)
        case measure => have := HG.out; omega
        case rel => exact ⟨k + 1, _, by have := HG.out; omega, by go_num, rfl, Hd.mk ⟨by
          rw [HTK.out, HP.out]
          rw [ByteArray.data_append, Array.toList_append, HS.out.1], HU.out⟩⟩
      · have HP := Hd.mk (show shp1 x = [47, 42] by unfold shp1; rw [if_neg (by omega), if_neg (by omega)])
        rw [e]
        clear e
        go_wp2_with fail
        go_roundg (gk - 1)
        case measure => have := HG.out; omega
        case rel => exact ⟨k + 1, _, by have := HG.out; omega, by go_num, rfl, Hd.mk ⟨by
          rw [HTK.out, HP.out]
          rw [ByteArray.data_append, Array.toList_append, HS.out.1], HU.out⟩⟩
    · obtain rfl : k = l.length := by have := HG.out; omega
      have HE := Hd.mk (show Value.string sb = S (shapeL l) from S_of (by rw [HS.out.1, List.take_length]))
      go_wp2_with fail
      go_ret
      exact ⟨by rw [← HE.out]; rfl, HS.out.2⟩
end Go.Proofs.YtndlbkiogagnaaaGreatDoor
