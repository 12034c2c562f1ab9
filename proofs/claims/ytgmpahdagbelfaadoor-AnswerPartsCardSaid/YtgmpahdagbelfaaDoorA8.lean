/- law05: fit, same. -/
import Derived.Test.YtgmpahdagbelfaaDoorA7
namespace Go.Proofs.YtgmpahdagbelfaaDoor
set_option linter.unusedSimpArgs false
set_option linter.unusedVariables false
set_option linter.unnecessarySimpa false
open Go.RowKit BigFrame

def fitL : Bs := [72, 84, 84, 80, 47, 49, 46, 49, 32, 52, 48, 52, 32, 78, 111, 116, 32, 70, 111, 117, 110, 100, 13, 10, 99, 111, 110, 116, 101, 110, 116, 45, 108, 101, 110, 103, 116, 104, 58, 32, 49, 48, 13, 10, 13, 10, 78, 111, 116, 32, 70, 111, 117, 110, 100, 10]
theorem fit_enc : encL (Rs.plain 404 false) = fitL := by
  have h1 : Lib.decDigits 404 = [52, 48, 52] := by
    rw [Lib.decDigits, dif_neg (by omega), Lib.decDigits, dif_neg (by omega), Lib.decDigits, dif_pos (by omega)]
    rfl
  have h2 : Lib.decDigits 10 = [49, 48] := by
    rw [Lib.decDigits, dif_neg (by omega), Lib.decDigits, dif_pos (by omega)]
    rfl
  unfold encL firstL Rs.plain
  simp only [h1, show (wordL 404 ++ [10]).length = 10 by rfl, h2]
  rfl

set_option maxHeartbeats 2000000 in
theorem fit_ok (w : World) (hT : Tab w) : Calls Tryd.prog 9 #[] w fun e w' => e = .returned (.bool true) ∧ Upd [] w w' := by
  have HT := Hd.mk hT
  clear hT
  go_enter Tryd.func9, Tryd.ntmps9
  go_wp2_with fail
  refine (plain_ok 404 false w (by omega)).mono ?_
  rintro e w1 ⟨rfl, u1⟩
  have HU := Hd.mk u1
  clear u1
  go_wp2_with fail
  refine (encode_ok (Rs.plain 404 false) none 0 w1 (Rf.nil _ _) (by decide) (by decide) (by decide) (by decide) (HT.out.upd HU.out)).mono ?_
  rintro e w2 ⟨rfl, u2⟩
  have HU2 := Hd.mk (HU.out.trans u2 (by simp))
  rw [fit_enc]
  have heq : ((⟨fitL.toArray⟩ : ByteArray).toList == (⟨fitL.toArray⟩ : ByteArray).toList) = true := str_yes rfl
  simp only [S, fitL] at heq ⊢
  clear u2 HU
  go_wp2_with fail
  refine (token_ok ⟨#[97]⟩ w2 (by decide)).mono ?_
  rintro e w3 ⟨rfl, u3⟩
  have HU3 := Hd.mk (HU2.out.trans u3 (by simp))
  rw [show tokB (⟨#[97]⟩ : ByteArray).data.toList = true by decide]
  clear u3
  go_wp2_with fail
  go_ret
  exact ⟨rfl, HU3.out⟩

set_option maxHeartbeats 4000000 in
theorem same_ok (r : Rs) (a1 a2 : Option Addr) (cap1 cap2 : Nat) (w : World) (h1 : Rf w a1 r.fields) (h2 : Rf w a2 r.fields) (hn : r.fields.length ≤ 1000000) :
    Calls Tryd.prog 15 #[.agg (r.cells a1 cap1).toArray, .agg (r.cells a2 cap2).toArray] w fun e w' => e = .returned (.bool true) ∧ Upd [] w w' := by
  obtain ⟨n, fs, body, cl⟩ := r
  simp only at h1 h2 hn
  have H1 := Hd.mk h1
  have H2 := Hd.mk h2
  clear h1 h2
  simp only [Rs.cells, S]
  obtain ⟨bd, hbd⟩ : ∃ t : ByteArray, (⟨body.toArray⟩ : ByteArray) = t := ⟨_, rfl⟩
  simp only [hbd]
  clear hbd
  have hbb : (bd.toList == bd.toList) = true := str_yes rfl
  have hbn : (bd.toList != bd.toList) = false := by simp [bne]
  go_enter Tryd.func15, Tryd.ntmps15
  go_upto_region 1 with (fail)
  have B1 := Blk.new w [.int .i64 n, .slice a1 fs.length cap1, .string bd, .bool cl] 29 _ rfl
  have B2 := Blk.new (w.alloc (.cells #[.int .i64 n, .slice a1 fs.length cap1, .string bd, .bool cl] 29)) [.int .i64 n, .slice a2 fs.length cap2, .string bd, .bool cl] 29 (w.heap.size + 1) (by simp)
  refine wp_abs (fun W => Blk W w.heap.size [.int .i64 n, .slice a1 fs.length cap1, .string bd, .bool cl] 29 ∧ Blk W (w.heap.size + 1) [.int .i64 n, .slice a2 fs.length cap2, .string bd, .bool cl] 29 ∧ Upd [] w W) ⟨B1.alloc _, B2, ((Upd.refl _ _).alloc _).alloc _⟩ ?_
  clear B1 B2
  have hne : w.heap.size ≠ w.heap.size + 1 := by omega
  generalize hs2 : w.heap.size + 1 = s2 at *
  clear hs2
  generalize w.heap.size = s1 at *
  rintro w1 ⟨b1, b2, u1⟩
  have HB := Hd.mk (And.intro b1 (And.intro b2 u1))
  have c0 := b1.cell 0
  have c1 := b1.cell 1
  have c2 := b1.cell 2
  have c3 := b1.cell 3
  simp only [List.getElem?_cons_zero, List.getElem?_cons_succ] at c0 c1 c2 c3
  have d0 := b2.cell 0
  have d1 := b2.cell 1
  have d2 := b2.cell 2
  have d3 := b2.cell 3
  simp only [List.getElem?_cons_zero, List.getElem?_cons_succ] at d0 d1 d2 d3
  clear b1 b2 u1
  go_wp2_with fail
  go_loopg [5, 37] fs.length (fun g s5 ii wr => ∃ i : Nat, g + i = fs.length ∧ ii = .int .i64 i ∧ Hd (Blk wr s1 [.int .i64 n, .slice a1 fs.length cap1, .string bd, .bool cl] 29 ∧ Blk wr s2 [.int .i64 n, .slice a2 fs.length cap2, .string bd, .bool cl] 29 ∧ Upd [] w wr))
  case atStart => exact ⟨0, by omega, rfl, HB⟩
  case round =>
    clear HB c0 c1 c2 c3 d0 d1 d2 d3
    obtain ⟨i, hg, rfl, HB⟩ := hrel
    by_cases hi : i < fs.length
    · obtain ⟨g1, o1, rfl, -, hc1⟩ := H1.out.upd HB.out.2.2 (by omega)
      obtain ⟨g2, o2, rfl, -, hc2⟩ := H2.out.upd HB.out.2.2 (by omega)
      obtain ⟨k0, k1⟩ := hc1 i hi
      obtain ⟨m0, m1⟩ := hc2 i hi
      obtain ⟨nm, hnm⟩ : ∃ t : ByteArray, (⟨fs[i].1.toArray⟩ : ByteArray) = t := ⟨_, rfl⟩
      obtain ⟨vl, hvl⟩ : ∃ t : ByteArray, (⟨fs[i].2.toArray⟩ : ByteArray) = t := ⟨_, rfl⟩
      simp only [S, hnm, hvl] at k0 k1 m0 m1
      have hq1 : (nm.toList == nm.toList) = true := str_yes rfl
      have hq2 : (vl.toList == vl.toList) = true := str_yes rfl
      have HG := Hd.mk hg
      clear hc1 hc2 hnm hvl hg
      have b1 := HB.out.1
      have b2 := HB.out.2.1
      have c0 := b1.cell 0
      have c1 := b1.cell 1
      have c2 := b1.cell 2
      have c3 := b1.cell 3
      simp only [List.getElem?_cons_zero, List.getElem?_cons_succ] at c0 c1 c2 c3
      have d0 := b2.cell 0
      have d1 := b2.cell 1
      have d2 := b2.cell 2
      have d3 := b2.cell 3
      simp only [List.getElem?_cons_zero, List.getElem?_cons_succ] at d0 d1 d2 d3
      clear b1 b2
      go_upto_region 6 with (fail)
      refine wp_region_quiet_lit (by kernel_rfl) (by kernel_rfl) ?_
      repeat (go_big_quiet_step (fail))
      refine wpQuiet_nil ?_
      (intro _ hw'; obtain ⟨nb, hw''⟩ := hw'; subst hw'')
      go_wp2_with fail
      go_roundg (gk - 1)
      case measure => have := HG.out; omega
      case rel => exact ⟨i + 1, by have := HG.out; omega, by go_num, Hd.mk ⟨HB.out.1.drewN _, HB.out.2.1.drewN _, HB.out.2.2.drewN _⟩⟩
    · obtain rfl : i = fs.length := by omega
      go_wp2_with fail
      go_ret
      exact ⟨rfl, HB.out.2.2⟩
end Go.Proofs.YtgmpahdagbelfaaDoor
