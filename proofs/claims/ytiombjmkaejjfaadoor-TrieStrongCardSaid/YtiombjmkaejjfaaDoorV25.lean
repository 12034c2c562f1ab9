/- Tries: TrieStrong. -/
import Derived.Test.YtiombjmkaejjfaaDoorV24
namespace Go.Proofs.YtiombjmkaejjfaaDoor
set_option linter.unusedSimpArgs false
set_option linter.unusedVariables false
set_option linter.unnecessarySimpa false
open Go.RowKit BigFrame

def sP (k : Nat) : ByteArray := ⟨((strongR.getD k ⟨[], [], []⟩).p).toArray⟩
def sH (k : Nat) : ByteArray := ⟨((strongR.getD k ⟨[], [], []⟩).h).toArray⟩
theorem chosen_succ (q k : Nat) (hq : q < 8) (hk : k < 5) : chosen q (k + 1) = if 2 < k ∨ q.testBit k = true then chosen q k ++ [strongR.getD k ⟨[], [], []⟩] else chosen q k := by
  rcases (by omega : q = 0 ∨ q = 1 ∨ q = 2 ∨ q = 3 ∨ q = 4 ∨ q = 5 ∨ q = 6 ∨ q = 7) with e | e | e | e | e | e | e | e <;> subst e <;> rcases (by omega : k = 0 ∨ k = 1 ∨ k = 2 ∨ k = 3 ∨ k = 4) with e | e | e | e | e <;> subst e <;> kernel_rfl
theorem chosen_len (q k : Nat) : (chosen q k).length ≤ 5 := by
  unfold chosen
  rw [List.length_map]
  refine Nat.le_trans (List.length_filter_le _ _) (Nat.le_trans (List.length_take_le' _ _) ?_)
  simp [strongR]
theorem chosen_rgt (q k : Nat) : ∀ r ∈ chosen q k, Rgt r := by
  intro r hr
  have hm : r ∈ strongR := by
    unfold chosen at hr
    rw [List.mem_map] at hr
    obtain ⟨x, hx, rfl⟩ := hr
    have := List.mem_of_mem_take ((List.mem_filter.1 hx).1)
    exact (List.mem_zipIdx' (x := x.1) (i := x.2) this).2 ▸ List.getElem_mem _
  simp only [strongR, List.mem_cons, List.not_mem_nil, or_false] at hm
  rcases hm with rfl | rfl | rfl | rfl | rfl <;> exact ⟨by decide +kernel, by decide⟩
set_option maxRecDepth 100000 in
set_option maxHeartbeats 4000000 in
theorem strong_row (a0 : Int) (a1 : ByteArray) (w : World) (hT : HTab w) (w0' : (Lit.int .i64 a0).wf = true) (z1 : a1.size ≤ 140737488351232) :
    Calls Tryd.prog 3 #[.int .i64 a0, .string a1] w fun e w' => e = .returned (.bool true) ∧ Below w.heap.size w w' := by
  have w0 : -9223372036854775808 ≤ a0 ∧ a0 ≤ 9223372036854775807 := by
    have e1 : IntKind.i64.min = -9223372036854775808 := by decide
    have e2 : IntKind.i64.max = 9223372036854775807 := by decide
    simp only [Lit.wf, Bool.and_eq_true, decide_eq_true_eq, e1, e2] at w0'
    exact w0'
  clear w0'
  have HT := Hd.mk hT
  clear hT
  go_enter Tryd.func3, Tryd.ntmps3
  go_wp2_with fail
  refine (fit_ok w HT.out).mono ?_
  rintro e w1 ⟨rfl, u1⟩
  have HU := Hd.mk u1
  clear u1
  by_cases he : a1 = ⟨#[]⟩
  · have y := str_eq0 he
    go_wp2_with fail
    go_ret
    exact ⟨rfl, HU.out.below _ (Nat.le_refl _) (by simp)⟩
  · have y := str_ne0 he
    by_cases hz : 60 < a1.size
    · have d0 : decide ((60 : Int) < a1.size) = true := decide_eq_true (by omega)
      go_wp2_with fail
      go_ret
      exact ⟨rfl, HU.out.below _ (Nat.le_refl _) (by simp)⟩
    · have d0 : decide ((60 : Int) < a1.size) = false := decide_eq_false (by omega)
      go_upto_region 5 with (fail)
      go_wp2_with fail
      obtain ⟨q, hq, hq8⟩ : ∃ q : Nat, a0 % 8 = (q : Int) ∧ q < 8 := ⟨(a0 % 8).toNat, by omega, by omega⟩
      rw [hq]
      clear hq w0
      refine wp_abs (fun W => Blk W w1.heap.size [S [47, 119, 47, 101, 110, 100], S [47, 119, 47, 58, 120], S [47, 119, 47, 42, 121], S [47, 58, 97, 47, 101, 110, 100], S [47, 42, 122]] 9 ∧ Blk W (w1.heap.size + 1) [S [103, 101, 116], S [112, 117, 116], S [108, 105, 115, 116], S [119, 97, 108, 107], S [104, 101, 97, 108, 116, 104]] 9 ∧ Upd [] w W) ⟨(Blk.new w1 [S [47, 119, 47, 101, 110, 100], S [47, 119, 47, 58, 120], S [47, 119, 47, 42, 121], S [47, 58, 97, 47, 101, 110, 100], S [47, 42, 122]] _ _ rfl).alloc _, Blk.new (w1.alloc _) [S [103, 101, 116], S [112, 117, 116], S [108, 105, 115, 116], S [119, 97, 108, 107], S [104, 101, 97, 108, 116, 104]] _ _ (by simp), (HU.out.alloc _).alloc _⟩ ?_
      have HMB := Hd.mk (show w.heap.size ≤ w1.heap.size from HU.out.size)
      generalize w1.heap.size + 1 = hb
      generalize w1.heap.size = pb
      rintro w2 ⟨bp, bh, u2⟩
      have HW := Hd.mk (And.intro bp (And.intro bh u2))
      clear bp bh u2 HU
      go_loopg [7, 8, 26] 5 (fun g s7 s8 ii wr => ∃ k : Nat, g + k = 5 ∧ ii = .int .i64 k ∧ Hd (Bld w2 wr 26 3 s7 (chosen q k).length ((chosen q k).flatMap Rt.cells)))
      case atStart => exact ⟨0, by omega, rfl, Hd.mk (Bld.nil (Upd.refl _ _) _ _)⟩
      case round =>
        obtain ⟨k, hg, rfl, HS⟩ := hrel
        have HG := Hd.mk hg
        clear hg
        obtain ⟨va, vc, rfl⟩ := HS.out.sl.form
        by_cases hk : k < 5
        · have HCS := Hd.mk (chosen_succ q k hq8 hk)
          have d2 : decide ((2 : Int) < k) = decide (2 < k) := by rw [decide_eq_decide]; omega
          have hlen := chosen_len q k
          have hbp := HW.out.1
          have bp := HS.out.upd.blk HW.out.1 (by simp)
          have bh := HS.out.upd.blk HW.out.2.1 (by simp)
          have p0 : wr.cell? ⟨pb, k, none⟩ = some (.string (sP k)) := by
            rcases (by omega : k = 0 ∨ k = 1 ∨ k = 2 ∨ k = 3 ∨ k = 4) with e | e | e | e | e <;> subst e <;> exact (bp.cell _).trans rfl
          have h0 : wr.cell? ⟨hb, k, none⟩ = some (.string (sH k)) := by
            rcases (by omega : k = 0 ∨ k = 1 ∨ k = 2 ∨ k = 3 ∨ k = 4) with e | e | e | e | e <;> subst e <;> exact (bh.cell _).trans rfl
          have HRC := Hd.mk (show [.string ⟨#[71, 69, 84]⟩, .string (sP k), .string (sH k)] = (strongR.getD k ⟨[], [], []⟩).cells by
            rcases (by omega : k = 0 ∨ k = 1 ∨ k = 2 ∨ k = 3 ∨ k = 4) with e | e | e | e | e <;> subst e <;> rfl)
          have d3 : ((q : Int) / 2 ^ k % 2 == 1) = q.testBit k := by
            rcases (by omega : q = 0 ∨ q = 1 ∨ q = 2 ∨ q = 3 ∨ q = 4 ∨ q = 5 ∨ q = 6 ∨ q = 7) with e | e | e | e | e | e | e | e <;> subst e <;> rcases (by omega : k = 0 ∨ k = 1 ∨ k = 2 ∨ k = 3 ∨ k = 4) with e | e | e | e | e <;> subst e <;> rfl
          clear bp bh hbp
          by_cases hb1 : 2 < k ∨ q.testBit k = true
          · have HCS := Hd.mk (show chosen q (k + 1) = chosen q k ++ [strongR.getD k ⟨[], [], []⟩] by rw [HCS.out, if_pos hb1])
            have hfr : ∀ j, wr.frozen? ⟨pb, j, none⟩ = wr.frozen? ⟨pb, j, none⟩ := fun _ => rfl
            clear hfr
            have HAP := Hd.mk HS.out
            rcases Classical.em (2 < k) with h2 | h2
            · have hb2 : decide (2 < k) = true := decide_eq_true h2
              rw [hb2] at d2
              clear h2 hb1 hb2 d3
              go_upto_region 13 with (fail)
              go_region_law ((have _t := HAP; refine step_append_any rfl (.tmp 38) (.tmp 48) 24 rfl 26 (.agg #[.string ⟨#[]⟩, .string ⟨#[]⟩, .string ⟨#[]⟩]) 3 48 Tryd.underlying24 (by kernel_rfl) rfl (.slice va (chosen q k).length vc) (chosen q k).length ((chosen q k).flatMap Rt.cells) (by go_simp) (HS.out.sl.upd (((Upd.refl [] wr).alloc (.cells #[.string ⟨#[71, 69, 84]⟩, .string (sP k), .string (sH k)] 26)).drew) (by simp)) (.slice (some ⟨wr.heap.size, 0, none⟩) 1 1) 1 [.string ⟨#[71, 69, 84]⟩, .string (sP k), .string (sH k)] (by go_simp) ((Blk.new wr [.string ⟨#[71, 69, 84]⟩, .string (sP k), .string (sH k)] 26 _ rfl).drew.sl 3 1 rfl (by unfold maxLen; omega)) rfl (by omega) (by omega) ?_; intro v9 w9 s9 u9 o9; obtain ⟨a9, c9, rfl⟩ := s9.form; have Y9 := Hd.mk (And.intro s9 (And.intro u9 o9)); clear s9 u9 o9 HAP _t))
              all_goals
                go_wp2_with fail
                go_roundg (gk - 1)
                case measure => have := HG.out; omega
                case rel => exact ⟨k + 1, by have := HG.out; omega, by go_num, Hd.mk (by
                  rw [HCS.out, List.length_append, List.flatMap_append]
                  have hx : List.flatMap Rt.cells [strongR.getD k ⟨[], [], []⟩] = [.string ⟨#[71, 69, 84]⟩, .string (sP k), .string (sH k)] := by rw [HRC.out]; simp
                  rw [hx]
                  exact (HS.out.over (((Upd.refl [] wr).alloc (.cells #[.string ⟨#[71, 69, 84]⟩, .string (sP k), .string (sH k)] 26)).drew)).app Y9.out.1 Y9.out.2.1 Y9.out.2.2)⟩
            · have hb2 : decide (2 < k) = false := decide_eq_false h2
              have hb3 : q.testBit k = true := hb1.resolve_left h2
              rw [hb2] at d2
              rw [hb3] at d3
              clear h2 hb1 hb2 hb3
              go_upto_region 13 with (fail)
              go_region_law ((have _t := HAP; refine step_append_any rfl (.tmp 38) (.tmp 48) 24 rfl 26 (.agg #[.string ⟨#[]⟩, .string ⟨#[]⟩, .string ⟨#[]⟩]) 3 48 Tryd.underlying24 (by kernel_rfl) rfl (.slice va (chosen q k).length vc) (chosen q k).length ((chosen q k).flatMap Rt.cells) (by go_simp) (HS.out.sl.upd (((Upd.refl [] wr).alloc (.cells #[.string ⟨#[71, 69, 84]⟩, .string (sP k), .string (sH k)] 26)).drew) (by simp)) (.slice (some ⟨wr.heap.size, 0, none⟩) 1 1) 1 [.string ⟨#[71, 69, 84]⟩, .string (sP k), .string (sH k)] (by go_simp) ((Blk.new wr [.string ⟨#[71, 69, 84]⟩, .string (sP k), .string (sH k)] 26 _ rfl).drew.sl 3 1 rfl (by unfold maxLen; omega)) rfl (by omega) (by omega) ?_; intro v9 w9 s9 u9 o9; obtain ⟨a9, c9, rfl⟩ := s9.form; have Y9 := Hd.mk (And.intro s9 (And.intro u9 o9)); clear s9 u9 o9 HAP _t))
              all_goals
                go_wp2_with fail
                go_roundg (gk - 1)
                case measure => have := HG.out; omega
                case rel => exact ⟨k + 1, by have := HG.out; omega, by go_num, Hd.mk (by
                  rw [HCS.out, List.length_append, List.flatMap_append]
                  have hx : List.flatMap Rt.cells [strongR.getD k ⟨[], [], []⟩] = [.string ⟨#[71, 69, 84]⟩, .string (sP k), .string (sH k)] := by rw [HRC.out]; simp
                  rw [hx]
                  exact (HS.out.over (((Upd.refl [] wr).alloc (.cells #[.string ⟨#[71, 69, 84]⟩, .string (sP k), .string (sH k)] 26)).drew)).app Y9.out.1 Y9.out.2.1 Y9.out.2.2)⟩
          · have HCS := Hd.mk (show chosen q (k + 1) = chosen q k by rw [HCS.out, if_neg hb1])
            have hb2 : decide (2 < k) = false := decide_eq_false (fun h => hb1 (.inl h))
            have hb3 : q.testBit k = false := by cases h : q.testBit k with
              | false => rfl
              | true => exact absurd (.inr h) hb1
            rw [hb2] at d2
            rw [hb3] at d3
            go_wp2_with fail
            go_roundg (gk - 1)
            case measure => have := HG.out; omega
            case rel => exact ⟨k + 1, by have := HG.out; omega, by go_num, Hd.mk (by rw [HCS.out]; exact HS.out)⟩
        · obtain rfl : k = 5 := by have := HG.out; omega
          go_upto_region 16 with (fail)
          go_wp2_with fail
          refine (Tr.with_ (.pointer none) _ [] (chosen q 5) _ (Tr.nil _) HS.out.sl (chosen_rgt q 5) (by have := chosen_len q 5; simp; omega)).mono ?_
          rintro e w3 ⟨tb, rfl, htr, hu⟩
          have HTR := Hd.mk (show Tr w3 (.pointer (some ⟨tb, 0, none⟩)) (chosen q 5) from htr)
          have HU := Hd.mk ((HW.out.2.2.trans HS.out.upd (by simp)).trans hu (by simp))
          clear htr hu HS HW
          go_wp2_with fail
          have hsl : Sl (w3.alloc (.cells #[S [119], .string a1] 9)) 9 1 (.slice (some ⟨w3.heap.size, 0, none⟩) 2 2) [[119], a1.data.toList].length ([[119], a1.data.toList].map S) :=
            (Blk.new w3 [S [119], .string a1] 9 _ rfl).sl 1 2 rfl (by decide)
          refine (Tr.match_ _ _ (chosen q 5) gET [[119], a1.data.toList] _ (HTR.out.upd ((Upd.refl [] w3).alloc _)) hsl (by simp [sumL]; omega) (by simp) (by have := chosen_len q 5; omega)).mono ?_
          rintro e w4 ⟨mv, rfl, hmv, hu⟩
          have hne : a1.data.toList ≠ [] := fun e => he (by cases a1 with | mk x => cases x; simp at e; rw [e])
          obtain ⟨m1, m2⟩ := strong_mt q hq8 a1.data.toList hne
          obtain ⟨pv, av, rfl, hp, ha⟩ := hmv
          rw [m2, m1]
          have HU4 := Hd.mk (HU.out.trans (((Upd.refl [] w3).alloc _).trans hu (by simp)) (by simp))
          obtain ⟨wb, hwb⟩ : ∃ t : ByteArray, (⟨(want q a1.data.toList).toArray⟩ : ByteArray) = t := ⟨_, rfl⟩
          unfold S
          rw [hwb]
          obtain ⟨pa, pc, rfl, -⟩ := hp
          obtain ⟨aa, ac, rfl, -⟩ := ha
          clear hsl hu HU HTR
          by_cases hs : a1.data.toList = [101, 110, 100]
          · have d5 := lit_yes hs
            rw [hs] at hwb
            clear hs y he hne m1 m2 hz d0 z1 hk
            rcases (by omega : q = 0 ∨ q = 1 ∨ q = 2 ∨ q = 3 ∨ q = 4 ∨ q = 5 ∨ q = 6 ∨ q = 7) with e | e | e | e | e | e | e | e
            all_goals
              subst e
              simp [want, Nat.testBit] at hwb
              subst hwb
              go_wp2_with fail
              go_ret
              exact ⟨rfl, (HU4.out.alloc _).below _ (Nat.le_refl _) (by simp)⟩
          · have d5 := lit_no hs
            have hs' : want q a1.data.toList = if q.testBit 1 = true then [112, 117, 116] else if q.testBit 2 = true then [108, 105, 115, 116] else [104, 101, 97, 108, 116, 104] := by
              simp [want, hs]
            rw [hs'] at hwb
            clear hs hs' y he hne m1 m2 hz d0 z1 hk
            rcases (by omega : q = 0 ∨ q = 1 ∨ q = 2 ∨ q = 3 ∨ q = 4 ∨ q = 5 ∨ q = 6 ∨ q = 7) with e | e | e | e | e | e | e | e
            all_goals
              subst e
              simp [Nat.testBit] at hwb
              subst hwb
              go_wp2_with fail
              go_ret
              exact ⟨rfl, (HU4.out.alloc _).below _ (Nat.le_refl _) (by simp)⟩
end Go.Proofs.YtiombjmkaejjfaaDoor
