/- Holders: the first table; fit; a row of bools that came in; steps of maps within a region. -/
import Derived.Test.YtaefooandfnloaaDoorH2
namespace Go.Proofs.YtaefooandfnloaaDoor
set_option linter.unusedSimpArgs false
set_option linter.unusedVariables false
set_option linter.unnecessarySimpa false
open Go.RowKit BigFrame

abbrev frsT : Bs := [71, 69, 84, 32, 47, 104, 101, 97, 108, 116, 104, 32, 104, 101, 97, 108, 116, 104, 10, 80, 79, 83, 84, 32, 47, 97, 100, 109, 105, 110, 47, 114, 111, 117, 116, 101, 115, 32, 114, 101, 108, 111, 97, 100, 10, 80, 79, 83, 84, 32, 47, 97, 100, 109, 105, 110, 47, 115, 116, 111, 112, 32, 115, 104, 117, 116, 100, 111, 119, 110, 10, 71, 69, 84, 32, 47, 107, 118, 47, 58, 107, 101, 121, 32, 103, 101, 116, 10, 80, 85, 84, 32, 47, 107, 118, 47, 58, 107, 101, 121, 32, 112, 117, 116, 10, 68, 69, 76, 69, 84, 69, 32, 47, 107, 118, 47, 58, 107, 101, 121, 32, 100, 101, 108, 101, 116, 101, 10, 71, 69, 84, 32, 47, 108, 105, 115, 116, 47, 42, 112, 114, 101, 102, 105, 120, 32, 108, 105, 115, 116, 10, 71, 69, 84, 32, 47, 119, 97, 108, 107, 47, 58, 109, 111, 118, 101, 115, 32, 119, 97, 108, 107, 10]
def frsL : List Rt := [⟨[71, 69, 84], [47, 104, 101, 97, 108, 116, 104], [104, 101, 97, 108, 116, 104]⟩, ⟨[80, 79, 83, 84], [47, 97, 100, 109, 105, 110, 47, 114, 111, 117, 116, 101, 115], [114, 101, 108, 111, 97, 100]⟩, ⟨[80, 79, 83, 84], [47, 97, 100, 109, 105, 110, 47, 115, 116, 111, 112], [115, 104, 117, 116, 100, 111, 119, 110]⟩, ⟨[71, 69, 84], [47, 107, 118, 47, 58, 107, 101, 121], [103, 101, 116]⟩, ⟨[80, 85, 84], [47, 107, 118, 47, 58, 107, 101, 121], [112, 117, 116]⟩, ⟨[68, 69, 76, 69, 84, 69], [47, 107, 118, 47, 58, 107, 101, 121], [100, 101, 108, 101, 116, 101]⟩, ⟨[71, 69, 84], [47, 108, 105, 115, 116, 47, 42, 112, 114, 101, 102, 105, 120], [108, 105, 115, 116]⟩, ⟨[71, 69, 84], [47, 119, 97, 108, 107, 47, 58, 109, 111, 118, 101, 115], [119, 97, 108, 107]⟩]
theorem first_prs : prs frsT = (0, frsL) := by decide +kernel
theorem first_fix : fixL frsL = frsL := by decide +kernel
set_option maxRecDepth 100000 in
set_option maxHeartbeats 4000000 in
theorem first_ok (w : World) (hT : HTab w) : Calls Tryd.prog 11 #[] w fun e w' => ∃ a c, e = .returned (.slice a 8 c) ∧ Bld w w' 43 3 (.slice a frsL.length c) frsL.length (frsL.flatMap Rt.cells) := by
  have HP := Hd.mk (parse_ok frsT w hT (by decide))
  rw [first_prs] at HP
  clear hT
  go_enter Tryd.func11, Tryd.ntmps11
  go_wp2_with fail
  refine HP.out.mono ?_
  rintro e w2 ⟨v, rfl, hb⟩
  obtain ⟨a, c, rfl⟩ := hb.sl.form
  have HB := Hd.mk hb
  clear hb
  go_wp2_with fail
  go_ret
  exact ⟨a, c, rfl, HB.out⟩
set_option maxHeartbeats 4000000 in
theorem some_nil (w : World) : Calls Tryd.prog 14 #[.slice none 0 0] w fun e w' => e = .returned (.slice none 0 0) ∧ Upd [] w w' := by
  go_enter Tryd.func14, Tryd.ntmps14
  go_upto_region 3 with (fail)
  go_loopg [3, 5, 8] 0 (fun g s3 s5 ii wr => g = 0 ∧ ii = .int .i64 0 ∧ s3 = .slice none 0 0 ∧ wr = w)
  case atStart => exact ⟨rfl, rfl, rfl, rfl⟩
  case round =>
    obtain ⟨hg, rfl, rfl, rfl⟩ := hrel
    go_wp2_with fail
    go_ret
    exact ⟨rfl, Upd.refl _ _⟩
theorem nil_prs : prs [] = (0, []) := by decide +kernel
set_option maxRecDepth 100000 in
set_option maxHeartbeats 4000000 in
theorem hfit_ok (w : World) (hT : HTab w) : Calls Tryd.prog 6 #[] w fun e w' => e = .returned (.bool true) ∧ Upd [] w w' := by
  have HT := Hd.mk hT
  clear hT
  have sf0 := snap_f0
  have sf1 := snap_f1
  go_enter Tryd.func6, Tryd.ntmps6
  go_wp2_with fail
  refine (first_ok w HT.out).mono ?_
  rintro e w1 ⟨fa, fc, rfl, hb⟩
  have HU := Hd.mk hb.upd
  have HN := Hd.mk (new_ok (.slice fa 8 fc) frsL w1 (HT.out.upd hb.upd) hb.sl (by decide) (by decide))
  clear hb
  go_wp2_with fail
  refine HN.out.mono ?_
  rintro e w2 ⟨hb, tv, rv, rfl, hh, hu, hge⟩
  rw [first_fix] at hh
  obtain ⟨tb, rfl⟩ := hh.sn.ptr
  obtain ⟨ra, rc, rfl⟩ := hh.sn.rs.form
  have HH := Hd.mk hh
  have HGE := Hd.mk (show w.heap.size ≤ hb by have := HU.out.size; omega)
  have HU := Hd.mk (HU.out.trans hu (by simp))
  clear hh hu hge HN
  go_wp2_with fail
  refine (load_ok hb 1 _ _ frsL w2 HH.out).mono ?_
  rintro e w3 ⟨rfl, u3⟩
  go_upto_region 3 with (fail)
  refine wp_abs (fun W => Blk W w3.heap.size [.pointer (some ⟨tb, 0, none⟩), .int .i64 1, .slice ra frsL.length rc] 32 ∧ Upd [] w2 W) ⟨Blk.new w3 _ _ _ rfl, u3.alloc _⟩ ?_
  generalize w3.heap.size = sb
  rintro w4 ⟨bs, u4⟩
  have HH := Hd.mk (HH.out.up u4)
  have HU := Hd.mk (HU.out.trans u4 (by simp))
  have HBS := Hd.mk bs
  have HSW := Hd.mk (swap_ok hb 1 _ _ frsL [] w4 (HT.out.upd HU.out) HH.out (by omega) (by decide))
  rw [nil_prs] at HSW
  clear bs u3 u4
  go_wp2_with fail
  refine HSW.out.mono ?_
  rintro e w5 (⟨h, -⟩ | ⟨-, rfl, tv2, rv2, hh, hu⟩)
  · exact absurd rfl h
  have hne : sb ≠ hb := fun e => by
    have h1 := HBS.out
    rw [e] at h1
    have := (h1.uniq HH.out.blk).2
    exact absurd this (by decide)
  have bs := hu.blk HBS.out (by simpa using hne)
  have HSN := Hd.mk (HH.out.sn.updH HH.out.blk hu)
  obtain ⟨tb2, rfl⟩ := hh.sn.ptr
  obtain ⟨ra2, rc2, rfl⟩ := hh.sn.rs.form
  have HH2 := Hd.mk hh
  have HU := Hd.mk ((HU.out.mono (by simp) : Upd [] w w4).trans hu (by intro k hk e; rw [List.mem_singleton] at e; have := HGE.out; omega))
  have HBS := Hd.mk bs
  clear hh hu bs HSW HH hne
  go_wp2_with fail
  refine (load_ok hb 2 _ _ [] w5 HH2.out).mono ?_
  rintro e w6 ⟨rfl, u6⟩
  go_wp2_with fail
  refine (load_ok hb 2 _ _ [] w6 (HH2.out.up u6)).mono ?_
  rintro e w7 ⟨rfl, u7⟩
  have u57 := u6.trans u7 (by simp)
  go_wp2_with fail
  refine (Tr.len _ [] w7 ((HH2.out.up u57).sn.tr)).mono ?_
  rintro e w8 ⟨rfl, hw⟩
  subst hw
  have bs := u57.blk HBS.out (by simp)
  have c0 := bs.cell 0
  have c1 := bs.cell 1
  have c2 := bs.cell 2
  simp only [List.getElem?_cons_zero, List.getElem?_cons_succ] at c0 c1 c2
  go_wp2_with fail
  refine (Tr.len _ frsL _ ((HSN.out.up u57).tr)).mono ?_
  rintro e w8 ⟨rfl, hw⟩
  subst hw
  rw [show frsL.length = 8 from rfl]
  go_wp2_with fail
  refine (some_nil _).mono ?_
  rintro e w9 ⟨rfl, u9⟩
  go_wp2_with fail
  go_ret
  exact ⟨rfl, (HU.out.trans u57 (by simp)).trans u9 (by simp)⟩
theorem leaf_bools {w : World} {a : Option Addr} {n cap : Nat} (h : Leaf.ok w (.sl [.bool]) (.slice a n cap)) :
    ∃ l : List Bool, l.length = n ∧ RdS w 1 (.slice a l.length cap) l.length (l.map Value.bool) ∧ n ≤ 140737488351232 := by
  have hn : n ≤ cap ∧ cap ≤ maxLen ∧ n ≤ 140737488351232 := by
    simp only [Leaf.ok] at h
    obtain ⟨_, _, _, _, e, h1, h2, hz, -⟩ := h
    simp only [Value.slice.injEq] at e
    omega
  by_cases h0 : 0 < n
  · obtain ⟨b, off, V, rfl, hb, hm, hV⟩ := Leaf.open h h0 (by simp)
    have hx : ∀ i : Nat, ∃ x : Bool, i < n → V i = [.bool x] := by
      intro i
      by_cases hi : i < n
      · have := (hV i hi).1
        simp only [Leaf.oks, Leaf.ok] at this
        obtain ⟨_, _, hv, ⟨x, rfl⟩, rfl⟩ := this
        exact ⟨x, fun _ => hv⟩
      · exact ⟨false, fun h => absurd h hi⟩
    obtain ⟨F, hF⟩ := Classical.axiomOfChoice hx
    refine ⟨(List.range n).map F, by simp, ?_, hn.2.2⟩
    rw [show ((List.range n).map F).length = n by simp]
    refine ⟨by simp, _, _, rfl, hn.1, hn.2.1, fun _ => ⟨b, off, rfl, hb, fun i hi => ?_⟩⟩
    have hi : i < n := by simpa using hi
    have h1 := (hV i hi).2 0 (by simp)
    rw [hF i hi] at h1
    simp only [List.length_cons, List.length_nil, Nat.zero_add, List.getElem?_cons_zero, Nat.add_zero, Nat.mul_one] at h1
    rw [h1]
    simp [hi]
  · obtain rfl : n = 0 := by omega
    exact ⟨[], rfl, ⟨by simp, _, _, rfl, by simp, hn.2.1, fun h => by simp at h⟩, hn.2.2⟩
section
variable {P : Program} {κ : Type} [DecidableEq κ]
theorem step_ins {ops : Array Oper} {o : Oper} {a : Act} {w : World} {K : Act → World → Prop} {Q : Exit → Act → World → Prop} {E : Prop} (hgd : o.guard = none) (t : TypeId) (m x y : Operand) (ho : o.op = .insert t m x y)
    {kt et : TypeId} {kv : κ → Value} (Kl : KeyLaw P kt κ kv) (hu : P.underlying t = some (.map kt et)) (r : Nat) (L : List (κ × Value × Nat)) (h : Mp w r kv L) (k : κ) (v : Value)
    (hm : a.eval m = .map (some r)) (hk : a.eval x = kv k) (hv : a.eval y = v) (hK : ∀ c w', Mp w' r kv (put L k v c) → Upd [r] w w' → K (a.put o.dst undef) w') :
    if Region.wanted o (yielded ops a.tmps) = true then Oper.wp P o a w K Q else E := by
  have hw : Region.wanted o (yielded ops a.tmps) = true := by simp [Region.wanted, hgd]
  rw [if_pos hw]
  obtain ⟨c, w', hr, h2, h3⟩ := run_update_mp (P := P) Kl t hu h k v
  unfold Oper.wp execOp
  simp only [ho, Sem.run_bind, Sem.run_pure, Result.andThen_ok, hm, hk, hv, hr]
  exact hK c w' h2 h3
theorem step_look {ops : Array Oper} {o : Oper} {a : Act} {w : World} {K : Act → World → Prop} {Q : Exit → Act → World → Prop} {E : Prop} (hgd : o.guard = none) (t : TypeId) (m x : Operand) (ho : o.op = .lookup t m x false)
    {kt et : TypeId} {kv : κ → Value} (Kl : KeyLaw P kt κ kv) (hu : P.underlying t = some (.map kt et)) (z : Value) (hz : ∀ w, (zeroValue et).run P w = .ok z w) (r : Nat) (L : List (κ × Value × Nat)) (h : Mp w r kv L) (k : κ) (v : Value)
    (hm : a.eval m = .map (some r)) (hk : a.eval x = kv k) (hg : (get L k).getD z = v) (hK : K (a.put o.dst v) w) :
    if Region.wanted o (yielded ops a.tmps) = true then Oper.wp P o a w K Q else E := by
  have hw : Region.wanted o (yielded ops a.tmps) = true := by simp [Region.wanted, hgd]
  rw [if_pos hw]
  have hr := run_lookup_mp (P := P) Kl t hu z hz h k false
  simp only [Bool.false_eq_true, if_false, hg] at hr
  unfold Oper.wp execOp
  simp only [ho, Sem.run_bind, Sem.run_pure, Result.andThen_ok, hm, hk, hr]
  exact hK
end
end Go.Proofs.YtaefooandfnloaaDoor
