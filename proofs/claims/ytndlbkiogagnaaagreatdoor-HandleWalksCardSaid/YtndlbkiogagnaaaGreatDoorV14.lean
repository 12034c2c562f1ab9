/- Tries: params. -/
import Derived.Test.YtndlbkiogagnaaaGreatDoorV13
namespace Go.Proofs.YtndlbkiogagnaaaGreatDoor
set_option linter.unusedSimpArgs false
set_option linter.unusedVariables false
set_option linter.unnecessarySimpa false
open Go.RowKit BigFrame

/-- What a segment stands for. -/
def pone (l : List Bs) (x : Bs) (i : Nat) : List (Bs × Bs) := if kindL x = 0 then [] else if kindL x = 1 then [(x.tail, l.getD i [])] else [(x.tail, joinL (l.drop i))]
def parI (s l : List Bs) : Nat → List (Bs × Bs)
  | 0 => []
  | i + 1 => parI s l i ++ pone l (s.getD i []) i
def parL (s l : List Bs) : List (Bs × Bs) := parI s l s.length
def pcells (L : List (Bs × Bs)) : List Value := L.flatMap fun p => [S p.1, S p.2]
theorem pone_le (l : List Bs) (x : Bs) (i : Nat) : (pone l x i).length ≤ 1 := by
  unfold pone
  split
  · simp
  · split <;> simp
theorem parI_le (s l : List Bs) (i : Nat) : (parI s l i).length ≤ i := by
  induction i with
  | zero => simp [parI]
  | succ i ih =>
    have := pone_le l (s.getD i []) i
    simp only [parI, List.length_append]
    omega
theorem pcells_app (A B : List (Bs × Bs)) : pcells (A ++ B) = pcells A ++ pcells B := by unfold pcells; rw [List.flatMap_append]
theorem cands_len : ∀ (l : List Bs) (pat : List Sg), pat ∈ cands l → pat.length ≤ l.length
  | [], pat, h => by
    simp [cands] at h
    subst h
    simp
  | s :: l, pat, h => by
    rw [cands, List.mem_append] at h
    rcases h with h | h
    · split at h
      · cases h
      · rw [List.mem_append, List.mem_map, List.mem_map] at h
        rcases h with ⟨ps, h, rfl⟩ | ⟨ps, h, rfl⟩
        · have := cands_len l ps h; simp; exact this
        · have := cands_len l ps h; simp; exact this
    · rw [List.mem_singleton] at h
      subst h
      simp
/-- A call of a Go function, as one step of a region that draws. -/
theorem step_func {P : Program} {ops : Array Oper} {o : Oper} {a : Act} {w : World} {K : Act → World → Prop} {Q : Exit → Act → World → Prop} {E : Prop} (hgd : o.guard = none) (f : FuncId) (xs : Array Operand) (ts : Array TypeId)
    (ho : o.op = .call { callee := .value (.func f), args := xs, argTypes := ts }) (vals : Array Value) (hv : xs.map a.eval = vals) (hcf : (callFunc f (#[] ++ vals ++ #[])).run P w = .ok (.enter f vals) w) (v : Value) (h : Calls P f vals w fun e w' => e = .returned v ∧ K (a.put o.dst v) w') :
    if Region.wanted o (yielded ops a.tmps) = true then Oper.wp P o a w K Q else E :=
  step_func_ex hgd f xs ts ho vals hv hcf (h.mono fun _ _ h' => ⟨v, h'⟩)
/-- What params leaves. -/
def ParQ (w : World) (s l : List Bs) (e : Ending) (w' : World) : Prop := ∃ v, e = .returned v ∧ Bld w w' 94 2 v (parL s l).length (pcells (parL s l))
set_option maxRecDepth 100000 in
set_option maxHeartbeats 2000000 in
theorem params_ok (r : Rt) (l : List Bs) (lv : Value) (w : World) (hr : Rgt r) (hl : RdS w 1 lv l.length (l.map S)) (hz : sumL l ≤ 4503599627370496) (hm : (segsL r.p).length ≤ l.length) :
    Calls Tryz.prog 56 #[.agg r.cells.toArray, lv] w (ParQ w (segsL r.p) l) := by
  obtain ⟨la, lc, rfl⟩ := hl.form
  have HL := Hd.mk hl
  have HR := Hd.mk hr
  have HPN := Hd.mk (patR_nm hr.1)
  clear hl hr
  obtain ⟨sg, hsg⟩ : ∃ sg, segsL r.p = sg := ⟨_, rfl⟩
  have HSG := Hd.mk (show patS r.p = sg by rw [patS_segs HR.out.1, hsg])
  rw [hsg] at hm HPN ⊢
  have h8 : sg.length ≤ 8 := HPN.out.2.1
  clear hsg
  go_enter Tryz.func56, Tryz.ntmps56
  go_upto_region 2 with (fail)
  refine wp_abs (fun W => Blk W w.heap.size r.cells 90 ∧ Upd [] w W) ⟨Blk.new w r.cells _ _ rfl, (Upd.refl _ _).alloc _⟩ ?_
  generalize w.heap.size = rb
  rintro w1 ⟨b1, u1⟩
  have HW := Hd.mk (And.intro b1 u1)
  have d0 := b1.cell 0
  have d1 := b1.cell 1
  have d2 := b1.cell 2
  simp only [Rt.cells, List.getElem?_cons_zero, List.getElem?_cons_succ] at d0 d1 d2
  clear b1 u1
  go_wp2_with fail
  refine (pattern_ok r.p w1 HR.out.2).mono ?_
  rintro e w2 ⟨pv, rfl, hb⟩
  rw [HR.out.1]
  rw [HSG.out] at hb
  obtain ⟨pa, pc, rfl⟩ := hb.sl.form
  have HP := Hd.mk hb.sl
  have HU := Hd.mk (HW.out.2.trans hb.upd (by simp))
  clear hb d0 d1 d2 HW
  go_upto_region 4 with (fail)
  go_loopg [5, 8, 9, 18] sg.length (fun g s5 s8 s9 ii wr => ∃ (i : Nat) (va : Option Addr) (vc : Nat), g + i = sg.length ∧ ii = .int .i64 i ∧ s5 = .slice va (parI sg l i).length vc ∧ Hd (Bld w2 wr 94 2 (.slice va (parI sg l i).length vc) (parI sg l i).length (pcells (parI sg l i))))
  case atStart => exact ⟨0, none, 0, by omega, rfl, rfl, Hd.mk (Bld.nil (Upd.refl _ _) _ _)⟩
  case round =>
    obtain ⟨i, va, vc, hg, rfl, rfl, HB⟩ := hrel
    have HG := Hd.mk hg
    clear hg
    by_cases hi : i < sg.length
    · obtain ⟨b, o, pc', hv, _, _, hcell⟩ := (HP.out.upd HB.out.upd (by simp)).some (by omega)
      simp only [Value.slice.injEq] at hv
      obtain ⟨rfl, _, rfl⟩ := hv
      have x0 := hcell i (by omega)
      obtain ⟨x, hx⟩ : ∃ x, sg[i] = x := ⟨_, rfl⟩
      simp only [Ss, List.getElem?_map, List.getElem?_eq_getElem hi, hx, Option.map_some] at x0
      have HXZ := Hd.mk (show x.length ≤ 800000 by have := HPN.out.2.2 x (by rw [← hx]; exact List.getElem_mem hi); have := HR.out.2; omega)
      have HPI := Hd.mk (show parI sg l (i + 1) = parI sg l i ++ pone l x i by rw [parI]; congr 2; rw [List.getD_eq_getElem?_getD, List.getElem?_eq_getElem hi, hx]; rfl)
      obtain ⟨xb, hxb⟩ : ∃ xb : ByteArray, (⟨x.toArray⟩ : ByteArray) = xb := ⟨_, rfl⟩
      have HXB := Hd.mk (show xb.data.toList = x by rw [← hxb])
      have HKD := Hd.mk (show ∀ W, Calls Tryz.prog 88 #[.string xb] W fun e w' => e = .returned (.int .i64 (kindL x)) ∧ Upd [] W w' by intro W; rw [← hxb]; exact kind_ok x W)
      have HNL := Hd.mk (parI_le sg l i)
      unfold S at x0
      rw [hxb] at x0
      clear hcell hx hxb
      go_upto_region 7 with (go_at_call 88; refine (HKD.out _).mono ?_; rintro e w3 ⟨rfl, u3⟩)
      have HB := Hd.mk (HB.out.over u3)
      clear u3 x0
      obtain ⟨κ, hκ⟩ : ∃ κ, kindL x = κ := ⟨_, rfl⟩
      rw [hκ]
      have HK := Hd.mk hκ
      clear hκ
      have hnl : (parI sg l i).length ≤ 8 := by have := HNL.out; omega
      by_cases k0 : κ = 0
      · subst k0
        have HE := Hd.mk (show parI sg l (i + 1) = parI sg l i by rw [HPI.out, pone, if_pos HK.out, List.append_nil])
        go_wp2_with fail
        go_roundg (gk - 1)
        case measure => have := HG.out; omega
        case rel => exact ⟨i + 1, va, vc, by have := HG.out; omega, by go_num, by rw [HE.out], Hd.mk (by rw [HE.out]; exact HB.out)⟩
      have hx1 : 1 ≤ xb.size := by
        have h2 := congrArg List.length HXB.out
        cases hx : x with
        | nil => exact absurd (by rw [← HK.out, hx]; rfl) k0
        | cons a q => rw [hx] at h2; simp at h2; omega
      have htl : (xb.extract 1 xb.size).data.toList = x.tail := by
        cases hx : x with
        | nil => exact absurd (by rw [← HK.out, hx]; rfl) k0
        | cons a q => exact tail_S a q xb (by rw [HXB.out, hx])
      have hx1' : (1 : Int) ≤ (xb.size : Int) := by omega
      obtain ⟨tb, htb⟩ : ∃ tb, xb.extract 1 xb.size = tb := ⟨_, rfl⟩
      rw [htb] at htl
      have HTB := Hd.mk (show Value.string tb = S x.tail from S_of htl)
      have hil : i < l.length := by omega
      by_cases k1 : κ = 1
      · subst k1
        have HE := Hd.mk (show parI sg l (i + 1) = parI sg l i ++ [(x.tail, l[i])] by rw [HPI.out, pone, if_neg (by rw [HK.out]; decide), if_pos HK.out, List.getD_eq_getElem?_getD, List.getElem?_eq_getElem hil]; rfl)
        obtain ⟨lb, lo, lc', hlv, _, _, hlc⟩ := (HL.out.upd (HU.out.trans HB.out.upd (by simp)) (by simp)).some (by omega)
        simp only [Value.slice.injEq] at hlv
        obtain ⟨rfl, _, rfl⟩ := hlv
        have y0 := hlc i (by omega)
        obtain ⟨y, hy⟩ : ∃ y, l[i] = y := ⟨_, rfl⟩
        rw [List.getElem?_map, List.getElem?_eq_getElem hil, hy] at y0
        simp only [Option.map_some] at y0
        rw [hy] at HE
        unfold S at y0
        obtain ⟨yb, hyb⟩ : ∃ yb : ByteArray, (⟨y.toArray⟩ : ByteArray) = yb := ⟨_, rfl⟩
        rw [hyb] at y0
        have HYB := Hd.mk (show Value.string yb = S y by rw [← hyb]; rfl)
        clear hlc hy hyb k0 htl
        have tok := HB
        go_upto_region 8 with (fail)
        go_region_law ((have _t := tok; refine step_append_any rfl (.tmp 27) (.tmp 35) 31 rfl 94 (.agg #[.string ⟨#[]⟩, .string ⟨#[]⟩]) 2 32 Tryz.underlying31 (by kernel_rfl) rfl (.slice va (parI sg l i).length vc) (parI sg l i).length (pcells (parI sg l i)) (by go_simp) (HB.out.sl.upd (((Upd.refl [] w3).alloc (.cells #[.string tb, .string yb] 94)).drew) (by simp)) (.slice (some ⟨w3.heap.size, 0, none⟩) 1 1) 1 [.string tb, .string yb] (by go_simp) ((Blk.new w3 [.string tb, .string yb] 94 _ rfl).drew.sl 2 1 rfl (by unfold maxLen; omega)) rfl (by omega) (by omega) ?_; intro v9 w9 s9 u9 o9; obtain ⟨a9, c9, rfl⟩ := s9.form; have Y9 := Hd.mk (And.intro s9 (And.intro u9 o9)); clear s9 u9 o9 tok _t))
        all_goals
          have HB9 := Hd.mk (show Bld w2 w9 94 2 (.slice a9 ((parI sg l i).length + 1) c9) ((parI sg l i).length + 1) (pcells (parI sg l i) ++ [.string tb, .string yb]) from (HB.out.over (((Upd.refl [] w3).alloc (.cells #[.string tb, .string yb] 94)).drew)).app Y9.out.1 Y9.out.2.1 Y9.out.2.2)
          go_wp2_with fail
          go_roundg (gk - 1)
          case measure => have := HG.out; omega
          case rel => exact ⟨i + 1, a9, c9, by have := HG.out; omega, by go_num, by rw [HE.out]; simp, Hd.mk (by
            rw [HE.out, pcells_app]
            simp only [List.length_append, List.length_cons, List.length_nil, pcells, List.flatMap_cons, List.flatMap_nil, List.append_nil]
            rw [← HTB.out, ← HYB.out]
            exact HB9.out)⟩
      · obtain rfl : κ = 2 := by have := kindL_le x; rw [HK.out] at this; omega
        have HE := Hd.mk (show parI sg l (i + 1) = parI sg l i ++ [(x.tail, joinL (l.drop i))] by rw [HPI.out, pone, if_neg (by rw [HK.out]; decide), if_neg (by rw [HK.out]; decide)])
        obtain ⟨yb, hyb⟩ : ∃ yb : ByteArray, (⟨(joinL (l.drop i)).toArray⟩ : ByteArray) = yb := ⟨_, rfl⟩
        have HYB := Hd.mk (show Value.string yb = S (joinL (l.drop i)) by rw [← hyb]; rfl)
        have HCALL := Hd.mk (join_ok l (.slice la l.length lc) i w3.drew (HL.out.upd (((HU.out.trans HB.out.upd (by simp))).drew) (by simp)) (by omega) hz)
        have tok := HCALL
        clear hyb k0 k1 htl
        go_upto_region 10 with (fail)
        go_region_law (first
          | (have _t := tok; refine step_func rfl 89 #[.tmp 42, .tmp 43] #[22, 3] rfl #[.slice la l.length lc, .int .i64 i] (by go_simp) (by go_simp) (.string yb) ?_; refine HCALL.out.mono ?_; rintro e w4 ⟨he, hw4⟩; rw [← HYB.out] at he; refine ⟨he, ?_⟩; have U4 := Hd.mk (show Upd [] w3 w4 from by rw [hw4]; exact (Upd.refl _ _).drew); have HV := U4; clear tok _t he hw4)
          | (have _t := HV; clear _t; refine step_append_any rfl (.tmp 39) (.tmp 46) 31 rfl 94 (.agg #[.string ⟨#[]⟩, .string ⟨#[]⟩]) 2 32 Tryz.underlying31 (by kernel_rfl) rfl (.slice va (parI sg l i).length vc) (parI sg l i).length (pcells (parI sg l i)) (by go_simp) (HB.out.sl.upd (U4.out.alloc (.cells #[.string tb, .string yb] 94)) (by simp)) (.slice (some ⟨w4.heap.size, 0, none⟩) 1 1) 1 [.string tb, .string yb] (by go_simp) ((Blk.new w4 [.string tb, .string yb] 94 _ rfl).sl 2 1 rfl (by unfold maxLen; omega)) rfl (by omega) (by omega) ?_; intro v9 w9 s9 u9 o9; obtain ⟨a9, c9, rfl⟩ := s9.form; have Y9 := Hd.mk (And.intro s9 (And.intro u9 o9)); clear s9 u9 o9))
        all_goals
          have HB9 := Hd.mk (show Bld w2 w9 94 2 (.slice a9 ((parI sg l i).length + 1) c9) ((parI sg l i).length + 1) (pcells (parI sg l i) ++ [.string tb, .string yb]) from (HB.out.over (U4.out.alloc (.cells #[.string tb, .string yb] 94))).app Y9.out.1 Y9.out.2.1 (fun q hq => by have := Y9.out.2.2 q hq; simpa using this))
          go_wp2_with fail
          go_roundg (gk - 1)
          case measure => have := HG.out; omega
          case rel => exact ⟨i + 1, a9, c9, by have := HG.out; omega, by go_num, by rw [HE.out]; simp, Hd.mk (by
            rw [HE.out, pcells_app]
            simp only [List.length_append, List.length_cons, List.length_nil, pcells, List.flatMap_cons, List.flatMap_nil, List.append_nil]
            rw [← HTB.out, ← HYB.out]
            exact HB9.out)⟩
    · obtain rfl : i = sg.length := by have := HG.out; omega
      go_wp2_with fail
      go_ret
      exact ⟨_, rfl, ⟨HB.out.sl, fun k hk => by have := HB.out.own k hk; have := HU.out.size; omega, HU.out.trans HB.out.upd (by simp)⟩⟩
end Go.Proofs.YtndlbkiogagnaaaGreatDoor
