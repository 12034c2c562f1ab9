/- ascii.Lower. -/
import Derived.Test.YtlhkckgfhlflkaaDoorA6
import Derived.Test.YtlhkckgfhlflkaaDoorBs
import Derived.Lib.BufferWrite
namespace Go.Proofs.YtlhkckgfhlflkaaDoor
set_option linter.unusedSimpArgs false
set_option linter.unusedVariables false
set_option linter.unnecessarySimpa false
open Go.RowKit BigFrame

def lowC (c : UInt8) : UInt8 := if 65 ≤ c.toNat ∧ c.toNat ≤ 90 then UInt8.ofNat (c.toNat + 32) else c
def lowL (l : Bs) : Bs := l.map lowC
/-- The bytes of l, the first j of them lowered. -/
def lowTo (l : Bs) (j : Nat) : List Nat := ((l.take j).map lowC ++ l.drop j).map UInt8.toNat
theorem lowTo_len (l : Bs) (j : Nat) : (lowTo l j).length = l.length := by
  unfold lowTo
  simp only [List.length_map, List.length_append, List.length_take, List.length_drop]
  omega

theorem copied (s : ByteArray) (w : World) : ∃ W', (Builtin.copy_ #[52, 9] 3 #[.slice (some ⟨w.heap.size, 0, none⟩) s.size s.size, .string s]).run Tryd.prog (w.alloc (.cells (madeCells #[.int .u8 0] s.size) 5)) = .ok (.int .i64 s.size) W' ∧
    Blk W' w.heap.size ((lowTo s.data.toList 0).map B8) 5 ∧ Upd [] w W' := by
  have hB : Blk (w.alloc (.cells (madeCells #[.int .u8 0] s.size) 5)) w.heap.size (madeCells #[.int .u8 0] s.size).toList 5 := Blk.new w _ _ _ rfl
  have hsz : (madeCells #[.int .u8 0] s.size).size = s.size := size_madeCells _ _
  have hr := Lib.run_copy_row_string (P := Tryd.prog) (w.alloc (.cells (madeCells #[.int .u8 0] s.size) 5)) 52 9 3 5 w.heap.size 0 s.size s.size s (madeCells #[.int .u8 0] s.size) 5 Tryd.underlying52 (by kernel_rfl) hB (Nat.le_refl _) (by omega)
  refine ⟨_, hr, ?_, ?_⟩
  · have hrow := hB.row ([] ++ Lib.byteCells s.data.toList ++ ((madeCells #[.int .u8 0] s.size).toList.drop (0 + s.size)))
    refine Blk.as hrow ?_
    rw [List.drop_eq_nil_of_le (by simp [hsz])]
    unfold lowTo Lib.byteCells B8
    simp
  · exact ((Upd.refl [] w).alloc _).row _ _ (by simp)
theorem lowTo_at (l : Bs) (j : Nat) (h : j < l.length) : ((lowTo l j).map B8)[j]? = some (.int .u8 l[j].toNat) ∧ ((lowTo l j).map B8).set j (.int .u8 (lowC l[j]).toNat) = (lowTo l (j + 1)).map B8 := by
  have hlen : ((l.take j).map lowC).length = j := by simp; omega
  have hd : l.drop j = l[j] :: l.drop (j + 1) := List.drop_eq_getElem_cons h
  have ht : l.take (j + 1) = l.take j ++ [l[j]] := List.take_succ_eq_append_getElem h
  constructor
  · unfold lowTo
    rw [hd, List.map_map, List.getElem?_map, List.getElem?_append_right (by omega), hlen]
    simp [B8]
    exact ⟨l[j], by simp [h], rfl⟩
  · unfold lowTo
    rw [hd, ht]
    simp only [List.map_append, List.map_cons, List.map_nil]
    rw [List.set_append_right _ _ (by simp; omega)]
    simp only [List.length_map, List.length_take]
    rw [show j - min j l.length = 0 by omega]
    simp [B8]
theorem lowTo_end (l : Bs) : (lowTo l l.length).map UInt8.ofNat = lowL l := by
  unfold lowTo lowL
  simp
theorem lowC_yes {c : UInt8} (h1 : 65 ≤ c.toNat) (h2 : c.toNat ≤ 90) : ((lowC c).toNat : Int) = c.toNat + 32 := by
  unfold lowC
  rw [if_pos ⟨h1, h2⟩, ofNat_to (by omega)]
  omega
theorem lowC_no {c : UInt8} (h : ¬ (65 ≤ c.toNat ∧ c.toNat ≤ 90)) : lowC c = c := by
  unfold lowC
  rw [if_neg h]
theorem lowTo_same (l : Bs) (j : Nat) (h : j < l.length) (hc : lowC l[j] = l[j]) : lowTo l (j + 1) = lowTo l j := by
  have hd : l.drop j = l[j] :: l.drop (j + 1) := List.drop_eq_getElem_cons h
  have ht : l.take (j + 1) = l.take j ++ [l[j]] := List.take_succ_eq_append_getElem h
  unfold lowTo
  rw [hd, ht]
  simp only [List.map_append, List.map_cons, List.map_nil, hc, List.append_assoc, List.singleton_append]

set_option maxHeartbeats 2000000 in
theorem lower_ok (s : ByteArray) (w : World) (hs : s.size ≤ 1000000) : Calls Tryd.prog 17 #[.string s] w fun e w' => e = .returned (S (lowL s.data.toList)) ∧ Upd [] w w' := by
  have hmk := fun W => run_make_cells (P := Tryd.prog) 52 5 (.int .u8 0) 1 1 Tryd.underlying52 (by kernel_rfl) (by omega) s.size W (by omega) (by omega)
  obtain ⟨W2, hcp, hB2, hU2⟩ := copied s w
  have hlen : s.data.toList.length = s.size := by simp
  have HL := Hd.mk hlen
  have HB := Hd.mk (And.intro hB2 hU2)
  clear hB2 hU2 hlen
  go_enter Tryd.func17, Tryd.ntmps17
  go_wp2_with fail
  refine wp_abs (fun W => Blk W w.heap.size ((lowTo s.data.toList 0).map B8) 5 ∧ Upd [] w W) HB.out ?_
  clear HB hmk hcp
  have HNW := Hd.mk (Nat.le_refl w.heap.size)
  generalize hsb : w.heap.size = sb at HNW ⊢
  have HSB := Hd.mk hsb
  clear hsb
  rintro w3 ⟨b3, u3⟩
  have HB := Hd.mk (And.intro b3 u3)
  clear b3 u3
  go_loopg [4, 5, 14] s.size (fun g s4 s5 ii wr => ∃ j : Nat, j + g = s.size ∧ ii = .int .i64 j ∧ Hd (Blk wr sb ((lowTo s.data.toList j).map B8) 5 ∧ Upd [] w wr))
  case atStart => exact ⟨0, by omega, rfl, HB⟩
  case round =>
    clear HB
    obtain ⟨j, hj, rfl, HB⟩ := hrel
    by_cases hlt : j < s.size
    · have hat := lowTo_at s.data.toList j (by rw [HL.out]; exact hlt)
      have c0 : wr.cell? ⟨sb, j, none⟩ = some (.int .u8 s[j].toNat) := (HB.out.1.cell j).trans hat.1
      have f0 := HB.out.1.free j
      have HA := Hd.mk hat.2
      clear hat
      by_cases c1 : 65 ≤ s[j].toNat
      · by_cases c2 : s[j].toNat ≤ 90
        · have HC := Hd.mk (lowC_yes c1 c2)
          have hlt8 := s[j].toNat_lt
          have HW2 := Hd.mk HB.out
          go_wp2_with fail
          go_roundg (gk - 1)
          case measure => omega
          case rel => exact ⟨j + 1, by omega, by go_num, Hd.mk ⟨(HB.out.1.set j _).as (by rw [← HC.out]; exact HA.out), HB.out.2.set _ _ (by have := HSB.out; simp; omega)⟩⟩
        · have HC := Hd.mk (lowTo_same s.data.toList j (by rw [HL.out]; exact hlt) (lowC_no (fun h => c2 h.2)))
          go_wp2_with fail
          go_roundg (gk - 1)
          case measure => omega
          case rel => exact ⟨j + 1, by omega, by go_num, Hd.mk (by rw [HC.out]; exact HB.out)⟩
      · have HC := Hd.mk (lowTo_same s.data.toList j (by rw [HL.out]; exact hlt) (lowC_no (fun h => c1 h.1)))
        go_wp2_with fail
        go_roundg (gk - 1)
        case measure => omega
        case rel => exact ⟨j + 1, by omega, by go_num, Hd.mk (by rw [HC.out]; exact HB.out)⟩
    · obtain rfl : j = s.size := by omega
      have hsl := HB.out.1.sl 1 s.size (by simp [lowTo_len]) (by unfold maxLen; omega)
      have hcv := run_string_sl (P := Tryd.prog) 52 5 Tryd.underlying52 Tryd.underlying5 hsl 9 Tryd.underlying9
      have HE := Hd.mk (show (lowTo s.data.toList s.size).map UInt8.ofNat = lowL s.data.toList by rw [← HL.out]; exact lowTo_end _)
      clear hsl
      go_wp2_with fail
      go_ret
      refine ⟨?_, HB.out.2⟩
      rw [← HE.out]
      rfl
end Go.Proofs.YtlhkckgfhlflkaaDoor
