/- Tries: fit. -/
import Derived.Test.YtiombjmkaejjfaaDoorV22
namespace Go.Proofs.YtiombjmkaejjfaaDoor
set_option linter.unusedSimpArgs false
set_option linter.unusedVariables false
set_option linter.unnecessarySimpa false
open Go.RowKit BigFrame

def gET : Bs := [71, 69, 84]
def fitL : List Rt := [⟨[71, 69, 84], [47, 58, 121, 47, 98], [112, 117, 116]⟩, ⟨[71, 69, 84], [47, 97, 47, 58, 120], [103, 101, 116]⟩]
theorem fit_mt : mtL fitL [71, 69, 84] [[97], [98]] = (⟨[103, 101, 116], [([120], [98])], []⟩, true) := by decide +kernel
theorem fit_rgt : ∀ r ∈ fitL, Rgt r := by
  intro r hr
  simp only [fitL, List.mem_cons, List.not_mem_nil, or_false] at hr
  rcases hr with rfl | rfl
  · exact ⟨by decide +kernel, by decide⟩
  · exact ⟨by decide +kernel, by decide⟩
set_option maxRecDepth 100000 in
set_option maxHeartbeats 2000000 in
theorem fit_ok (w : World) (hT : HTab w) : Calls Tryd.prog 10 #[] w fun e w' => e = .returned (.bool true) ∧ Upd [] w w' := by
  have HT := Hd.mk hT
  clear hT
  go_enter Tryd.func10, Tryd.ntmps10
  go_wp2_with fail
  have hsl : Sl (w.alloc (.cells #[S [71, 69, 84], S [47, 58, 121, 47, 98], S [112, 117, 116], S [71, 69, 84], S [47, 97, 47, 58, 120], S [103, 101, 116]] 26)) 26 3 (.slice (some ⟨w.heap.size, 0, none⟩) 2 2) fitL.length (fitL.flatMap Rt.cells) :=
    (Blk.new w [S [71, 69, 84], S [47, 58, 121, 47, 98], S [112, 117, 116], S [71, 69, 84], S [47, 97, 47, 58, 120], S [103, 101, 116]] 26 _ rfl).sl 3 2 rfl (by decide)
  refine (Tr.with_ (.pointer none) _ [] fitL _ (Tr.nil _) hsl fit_rgt (by decide)).mono ?_
  rintro e w2 ⟨b, rfl, htr, hu⟩
  have HTR := Hd.mk htr
  have HU := Hd.mk (((Upd.refl [] w).alloc _).trans hu (by simp))
  clear hsl htr hu
  go_wp2_with fail
  have hsl : RdS (w2.alloc (.cells #[S [97], S [98]] 9)) 1 (.slice (some ⟨w2.heap.size, 0, none⟩) 2 2) [[97], [98]].length ([[97], [98]].map S) :=
    ((Blk.new w2 [S [97], S [98]] 9 _ rfl).sl 1 2 rfl (by decide)).rs
  refine (Tr.match_ _ _ ([] ++ fitL) [71, 69, 84] [[97], [98]] _ (HTR.out.upd ((Upd.refl [] w2).alloc _)) hsl (by decide) (by decide) (by decide)).mono ?_
  rintro e w3 ⟨mv, rfl, hmv, hu⟩
  rw [show ([] : List Rt) ++ fitL = fitL from rfl, fit_mt] at hmv ⊢
  obtain ⟨pv, av, rfl, hp, ha⟩ := hmv
  obtain ⟨pa, pc, rfl, hp⟩ := hp
  obtain ⟨aa, ac, rfl, -⟩ := ha
  obtain ⟨pb, po, rfl, hpb, hpc⟩ := hp (by decide)
  have x1 := (hpc 0 (by decide)).2
  simp only [S, List.getElem_cons_zero, Nat.zero_mul, Nat.add_zero] at x1
  have HTR := Hd.mk (HTR.out.upd (((Upd.refl [] w2).alloc _).trans hu (by simp)))
  have HU := Hd.mk (HU.out.trans (((Upd.refl [] w2).alloc _).trans hu (by simp)) (by simp))
  clear hsl hu hp hpc
  simp only [List.length_cons, List.length_nil, S] at *
  go_upto_region 4 with (fail)
  refine wp_abs (fun W => Blk W w3.heap.size [.string ⟨#[103, 101, 116]⟩, .slice (some ⟨pb, po, none⟩) 1 pc, .slice aa 0 ac] 30 ∧ W.cell? ⟨pb, po + 1, none⟩ = some (.string ⟨#[98]⟩) ∧ Tr W (.pointer (some ⟨b, 0, none⟩)) fitL ∧ Upd [] w W) ⟨Blk.new w3 _ _ _ rfl, (((Upd.refl [] w3).alloc _).cell (p := ⟨pb, _, none⟩) hpb (by simp)).trans x1, HTR.out.upd ((Upd.refl [] w3).alloc _), HU.out.alloc _⟩ ?_
  generalize w3.heap.size = y
  clear x1 HTR HU hpb
  rintro w4 ⟨by_, x1, htr, hu⟩
  have HTR := Hd.mk htr
  have HU := Hd.mk hu
  have d0 := by_.cell 0
  have d1 := by_.cell 1
  have d2 := by_.cell 2
  simp only [List.getElem?_cons_zero, List.getElem?_cons_succ] at d0 d1 d2
  clear by_ htr hu
  go_wp2_with fail
  refine (Tr.len _ fitL w4 HTR.out).mono ?_
  rintro e w5 ⟨rfl, hw⟩
  subst hw
  rw [show fitL.length = 2 from rfl]
  go_wp2_with fail
  refine (handler_ok [103, 101, 116] _ (HT.out.upd HU.out)).mono ?_
  rintro e w5 ⟨rfl, hw⟩
  subst hw
  rw [show decide (([103, 101, 116] : Bs) ∈ handlers) = true from by decide]
  go_wp2_with fail
  go_ret
  exact ⟨rfl, HU.out⟩
end Go.Proofs.YtiombjmkaejjfaaDoor
