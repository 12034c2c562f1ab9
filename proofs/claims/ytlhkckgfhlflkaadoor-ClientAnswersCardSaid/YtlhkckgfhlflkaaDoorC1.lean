/- Fields' lines by their name; a request's text. -/
import Derived.Test.YtlhkckgfhlflkaaDoorA6
namespace Go.Proofs.YtlhkckgfhlflkaaDoor
set_option linter.unusedSimpArgs false
set_option linter.unusedVariables false
set_option linter.unnecessarySimpa false
open Go.RowKit BigFrame

/-- The values of a name's fields. -/
def allL (fs : List (Bs × Bs)) (nm : Bs) : List Bs := (fs.filter fun f => decide (f.1 = nm)).map (·.2)
theorem allL_snoc {fs : List (Bs × Bs)} {i : Nat} (h : i < fs.length) (nm : Bs) : allL (fs.take (i + 1)) nm = allL (fs.take i) nm ++ (if fs[i].1 = nm then [fs[i].2] else []) := by
  unfold allL
  rw [List.take_succ_eq_append_getElem h, List.filter_append, List.map_append]
  by_cases e : fs[i].1 = nm <;> simp [e]
theorem allL_len (fs : List (Bs × Bs)) (nm : Bs) : (allL fs nm).length ≤ fs.length := by
  unfold allL
  rw [List.length_map]
  exact List.length_filter_le _ _
set_option maxRecDepth 100000 in
set_option maxHeartbeats 4000000 in
theorem all_ok (fs : List (Bs × Bs)) (a : Option Addr) (cap : Nat) (nm : Bs) (w : World) (hf : Rf w a fs) (hn : fs.length ≤ 900000) :
    Calls Tryd.prog 14 #[.slice a fs.length cap, S nm] w fun e w' => ∃ v, e = .returned v ∧ Bld w w' 9 1 v (allL fs nm).length ((allL fs nm).map S) := by
  have HF := Hd.mk hf
  obtain ⟨nb, hnb⟩ : ∃ t : ByteArray, S nm = .string t ∧ t.data.toList = nm := ⟨⟨nm.toArray⟩, rfl, by simp⟩
  have HNM := Hd.mk hnb.2
  rw [hnb.1]
  clear hf hnb
  go_enter Tryd.func14, Tryd.ntmps14
  go_upto_region 3 with (fail)
  go_loopg [5, 7, 10] fs.length (fun g s5 s7 ii wr => ∃ (i : Nat) (l : List Bs), g + i = fs.length ∧ ii = .int .i64 i ∧ l.length ≤ i ∧ Hd (l = allL (fs.take i) nm) ∧ Hd (Bld w wr 9 1 s5 l.length (l.map S)))
  case atStart => exact ⟨0, [], by omega, rfl, by simp, Hd.mk rfl, Hd.mk (Bld.nil (Upd.refl _ _) _ _)⟩
  case round =>
    obtain ⟨i, l, hg, rfl, hli, HL, HB⟩ := hrel
    obtain ⟨va, vc, rfl⟩ := HB.out.sl.form
    have HG := Hd.mk hg
    clear hg
    by_cases hi : i < fs.length
    · obtain ⟨b, off, rfl, hbw, hc⟩ := HF.out.upd HB.out.upd (by omega)
      obtain ⟨k0, k1⟩ := hc i hi
      have HS := Hd.mk (allL_snoc hi nm)
      generalize fs[i] = f at k0 k1 HS
      obtain ⟨fn, fv⟩ := f
      obtain ⟨n1, hn1⟩ : ∃ t : ByteArray, S fn = .string t ∧ t.data.toList = fn := ⟨⟨fn.toArray⟩, rfl, by simp⟩
      obtain ⟨v1, hv1⟩ : ∃ t : ByteArray, S fv = .string t ∧ t.data.toList = fv := ⟨⟨fv.toArray⟩, rfl, by simp⟩
      have HN1 := Hd.mk hn1.2
      have HV1 := Hd.mk hv1.1
      rw [hn1.1] at k0
      rw [hv1.1] at k1
      clear hc hbw hn1 hv1
      go_upto_region 5 with (fail)
      refine wp_abs (fun W => Blk W wr.heap.size [.string n1, .string v1] 44 ∧ Upd [] wr W) ⟨Blk.new wr [.string n1, .string v1] 44 _ rfl, (Upd.refl _ _).alloc _⟩ ?_
      clear k0 k1
      generalize wr.heap.size = fb
      rintro w5 ⟨tb, u5⟩
      have HB := Hd.mk (HB.out.over u5)
      have c0 := tb.cell 0
      have c1 := tb.cell 1
      simp only [List.getElem?_cons_zero, List.getElem?_cons_succ] at c0 c1
      clear tb u5
      by_cases he : n1 = nb
      · have y := str_yes he
        have HE := Hd.mk (show l ++ [fv] = allL (fs.take (i + 1)) nm by rw [HS.out, HL.out]; simp only; rw [if_pos (by rw [← HN1.out, ← HNM.out, he])])
        have hsl := HB.out.sl
        clear he
        go_wp2_with (at_builtin; refine wpList_append_row rfl (.tmp 18) (.tmp 21) 46 rfl rfl 9 (.string ⟨#[]⟩) 1 16 Tryd.underlying46 (by kernel_rfl) rfl _ _ _ rfl hsl [.string v1] rfl rfl rfl (by omega) (by omega) ?_)
        intro v7 w7 s7 u7 o7
        have HB := Hd.mk (HB.out.app s7 u7 o7)
        obtain ⟨a7, c7, rfl⟩ := s7.form
        clear s7 u7 o7 hsl c0 c1
        go_wp2_with fail
        go_roundg (gk - 1)
        case measure => have := HG.out; omega
        case rel => exact ⟨i + 1, l ++ [fv], by have := HG.out; omega, by go_num, by simp; omega, HE, Hd.mk (by
            have := HB.out
            rw [List.length_append, List.map_append, List.map_singleton, HV1.out]
            exact this)⟩
      · have y := str_no he
        have HE := Hd.mk (show l = allL (fs.take (i + 1)) nm by rw [HS.out, HL.out]; simp only; rw [if_neg (fun e => he (toList_inj (by rw [HN1.out, HNM.out, e]))), List.append_nil])
        clear he
        go_wp2_with fail
        go_roundg (gk - 1)
        case measure => have := HG.out; omega
        case rel => exact ⟨i + 1, l, by have := HG.out; omega, by go_num, by omega, HE, HB⟩
    · obtain rfl : i = fs.length := by have := HG.out; omega
      have HE := Hd.mk (show l = allL fs nm by rw [HL.out, List.take_length])
      go_wp2_with fail
      go_ret
      rw [← HE.out]
      exact ⟨_, rfl, HB.out⟩
end Go.Proofs.YtlhkckgfhlflkaaDoor
