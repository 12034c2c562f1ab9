/- answer.Decode. -/
import Derived.Test.YtlhkckgfhlflkaaDoorA11
namespace Go.Proofs.YtlhkckgfhlflkaaDoor
set_option linter.unusedSimpArgs false
set_option linter.unusedVariables false
set_option linter.unnecessarySimpa false
open Go.RowKit BigFrame

structure DecW (w : World) (rb vb n : Nat) (fs : List (Bs × Bs)) (cl : Bool) (a : Option Addr) (cap : Nat) (W : World) : Prop where
  res : Blk W rb zeroR 26
  var : Blk W vb [.int .i64 n, .slice a fs.length cap, .string ⟨#[]⟩, .bool cl] 26
  fld : Bld w W 44 2 (.slice a fs.length cap) fs.length (fcells fs)
  hrb : w.heap.size ≤ rb
  hvb : w.heap.size ≤ vb
  hne : rb ≠ vb
theorem DecW.up {w W W' : World} {rb vb n : Nat} {fs : List (Bs × Bs)} {cl : Bool} {a : Option Addr} {cap : Nat} (h : DecW w rb vb n fs cl a cap W) (hu : Upd [] W W') : DecW w rb vb n fs cl a cap W' :=
  ⟨hu.blk h.res (by simp), hu.blk h.var (by simp), h.fld.over hu, h.hrb, h.hvb, h.hne⟩
/-- A store into the variable. -/
theorem Bld.store {w W : World} {e t : TypeId} {v : Value} {m : Nat} {xs cs : List Value} {vb : Nat} (h : Bld w W e 2 v m xs) (hb : Blk W vb cs t) (ht : t ≠ e) (hv : w.heap.size ≤ vb) (i : Nat) (x : Value) : Bld w (W.setCell ⟨vb, i, none⟩ x) e 2 v m xs :=
  ⟨h.sl.upd (S := [vb]) ((Upd.refl [vb] W).set _ _ (by simp)) (fun k hk e => by
      simp at e
      subst e
      exact h.sl.other ht k hk _ hb), h.own, h.upd.set _ _ (by simp; omega)⟩
theorem DecW.close {w W : World} {rb vb n : Nat} {fs : List (Bs × Bs)} {cl : Bool} {a : Option Addr} {cap : Nat} (h : DecW w rb vb n fs cl a cap W) : DecW w rb vb n fs true a cap (W.setCell ⟨vb, 3, none⟩ (.bool true)) :=
  ⟨h.res.set_ne _ _ h.hne, (h.var.set 3 _).as rfl, h.fld.store h.var (by decide) h.hvb 3 _, h.hrb, h.hvb, h.hne⟩
structure LoopI (w : World) (rb vb n : Nat) (rest : Bs) (g : Nat) (x : ByteArray) (fs : List (Bs × Bs)) (cl : Bool) (a : Option Addr) (cap : Nat) (ok : Bool) (W : World) : Prop where
  st : DecW w rb vb n fs cl a cap W
  go : ok = true → g = x.size + 1 ∧ hd rest [] false = hd x.data.toList fs cl ∧ (flds fs).length + 2 * x.size ≤ 2 * rest.length ∧ fs.length + x.size ≤ rest.length
  no : ok = false → hd rest [] false = none

/-- A call of a Go function, as one step of a region that draws. -/
theorem step_func {P : Program} {ops : Array Oper} {o : Oper} {a : Act} {w : World} {K : Act → World → Prop} {Q : Exit → Act → World → Prop} {E : Prop} (hgd : o.guard = none) (f : FuncId) (xs : Array Operand) (ts : Array TypeId)
    (ho : o.op = .call { callee := .value (.func f), args := xs, argTypes := ts }) (vals : Array Value) (hv : xs.map a.eval = vals) (hcf : (callFunc f (#[] ++ vals ++ #[])).run P w = .ok (.enter f vals) w) (v : Value) (h : Calls P f vals w fun e w' => e = .returned v ∧ K (a.put o.dst v) w') :
    if Region.wanted o (yielded ops a.tmps) = true then Oper.wp P o a w K Q else E := by
  have hw : Region.wanted o (yielded ops a.tmps) = true := by simp [Region.wanted, hgd]
  rw [if_pos hw]
  subst hv
  have key : (execOp a.eval o).run P w = .ok (.enter f (xs.map a.eval)) w := by
    rw [← hcf]
    cases o
    simp only at ho
    subst ho
    rfl
  unfold Oper.wp
  rw [key]
  exact h.mono fun e w' h' => by obtain ⟨rfl, h2⟩ := h'; exact h2
theorem fcells_snoc (fs : List (Bs × Bs)) (f : Bs × Bs) : fcells (fs ++ [f]) = fcells fs ++ [S f.1, S f.2] := by unfold fcells; simp
theorem flds_snoc (fs : List (Bs × Bs)) (f : Bs × Bs) : (flds (fs ++ [f])).length = (flds fs).length + f.1.length + f.2.length + 4 := by
  unfold flds fieldL
  simp [crlf]
  omega
theorem DecW.app {w W W9 : World} {rb vb n : Nat} {fs : List (Bs × Bs)} {cl : Bool} {a a9 : Option Addr} {cap k9 : Nat} (h : DecW w rb vb n fs cl a cap W) (o : Obj) {tb tr : ByteArray} {f : Bs × Bs} (hf1 : tb.data.toList = f.1) (hf2 : tr.data.toList = f.2)
    (s9 : Sl W9 44 2 (.slice a9 (fs.length + 1) k9) (fs.length + 1) (fcells fs ++ [.string tb, .string tr])) (u9 : Upd (ownB (.slice a fs.length cap)) (W.alloc o) W9)
    (o9 : ∀ k, k ∈ ownB (.slice a9 (fs.length + 1) k9) → k ∈ ownB (.slice a fs.length cap) ∨ (W.alloc o).heap.size ≤ k) : DecW w rb vb n (fs ++ [f]) cl a9 k9 (W9.setCell ⟨vb, 1, none⟩ (.slice a9 (fs.length + 1) k9)) := by
  have nv : vb ∉ ownB (.slice a fs.length cap) := fun e => h.fld.sl.other (by decide) _ e _ h.var
  have nr : rb ∉ ownB (.slice a fs.length cap) := fun e => h.fld.sl.other (by decide) _ e _ h.res
  have B9 : Bld w W9 44 2 (.slice a9 (fs.length + 1) k9) (fs.length + 1) (fcells fs ++ [.string tb, .string tr]) := (h.fld.over ((Upd.refl [] W).alloc o)).app s9 u9 o9
  have v9 := u9.blk (h.var.alloc o) nv
  have r9 := u9.blk (h.res.alloc o) nr
  have e : fcells (fs ++ [f]) = fcells fs ++ [.string tb, .string tr] := by rw [fcells_snoc, ← S_of hf1, ← S_of hf2]
  have hl : (fs ++ [f]).length = fs.length + 1 := by simp
  refine ⟨r9.set_ne _ _ h.hne, (v9.set 1 _).as (by simp), ?_, h.hrb, h.hvb, h.hne⟩
  rw [e, hl]
  exact B9.store v9 (by decide) h.hvb 1 _
theorem prefix_iff (e s : Bs) : e.isPrefixOf s = true ↔ e.length ≤ s.length ∧ s.take e.length = e := by
  rw [List.isPrefixOf_iff_prefix]
  constructor
  · intro h
    exact ⟨h.length_le, List.prefix_iff_eq_take.1 h ▸ rfl⟩
  · intro h
    rw [← h.2]
    exact List.take_prefix _ _
theorem words58 (s : ByteArray) (w : World) (hs : s.size ≤ 900000) :
    Calls Tryd.prog 22 #[.string s, .int .u8 58] w fun e w' => ∃ v, e = .returned v ∧ Bld w w' 9 1 v (splitL 58 s.data.toList).length (Ss (splitL 58 s.data.toList)) := words_ok s 58 w hs
/-- The zero stored into the result. -/
theorem zero_store {w W : World} {rb : Nat} (hb : Blk W rb zeroR 26) (u : Upd [] w W) (h : w.heap.size ≤ rb) :
    Blk ((((W.setCell ⟨rb, 0, none⟩ (.int .i64 0)).setCell ⟨rb, 1, none⟩ (.slice none 0 0)).setCell ⟨rb, 2, none⟩ (.string ⟨#[]⟩)).setCell ⟨rb, 3, none⟩ (.bool false)) rb zeroR 26 ∧
    Upd [] w ((((W.setCell ⟨rb, 0, none⟩ (.int .i64 0)).setCell ⟨rb, 1, none⟩ (.slice none 0 0)).setCell ⟨rb, 2, none⟩ (.string ⟨#[]⟩)).setCell ⟨rb, 3, none⟩ (.bool false)) := by
  constructor
  · refine Blk.as (cs := (((zeroR.set 0 (.int .i64 0)).set 1 (.slice none 0 0)).set 2 (.string ⟨#[]⟩)).set 3 (.bool false)) ?_ rfl
    exact (((hb.set 0 _).set 1 _).set 2 _).set 3 _
  · exact (((u.set _ _ (by simp; omega)).set _ _ (by simp; omega)).set _ _ (by simp; omega)).set _ _ (by simp; omega)

set_option maxRecDepth 100000 in
set_option maxHeartbeats 8000000 in
theorem decode_ok (s : ByteArray) (w : World) (hs : s.size ≤ 900000) (hT : Tab w) :
    Calls Tryd.prog 8 #[.string s] w (DecR s.data.toList w) := by
  have HT := Hd.mk hT
  clear hT
  have hzr := Blk.new w zeroR 26 _ rfl
  have hzu := (Upd.refl [] w).alloc (.cells zeroR.toArray 26)
  have HZ := Hd.mk (And.intro hzr hzu)
  clear hzr hzu
  cases hl : lineL s.data.toList with
  | none =>
    have HN := Hd.mk (show decL s.data.toList = none by unfold decL; rw [hl])
    have HL := Hd.mk hl
    clear hl
    go_enter Tryd.func8, Tryd.ntmps8
    go_upto_region 1 with (fail)
    refine wp_abs (fun W => Blk W w.heap.size zeroR 26 ∧ Upd [] w W) HZ.out ?_
    clear HZ
    generalize hrb : w.heap.size = rb
    have HRB := Hd.mk hrb
    clear hrb
    rintro w1 ⟨b1, u1⟩
    have HB := Hd.mk (And.intro b1 u1)
    clear b1 u1
    go_wp2_with fail
    refine (line_ok s w1 (by omega)).mono ?_
    rintro e w2 ⟨rfl, u2⟩
    rw [HL.out]
    simp only [lineV, S]
    have hb2 := u2.blk HB.out.1 (by simp)
    have HU := Hd.mk (HB.out.2.trans u2 (by simp))
    have HB2 := Hd.mk hb2
    have f0 := hb2.free 0
    have f1 := hb2.free 1
    have f2 := hb2.free 2
    have f3 := hb2.free 3
    have c0 := hb2.cell 0
    have c1 := hb2.cell 1
    have c2 := hb2.cell 2
    have c3 := hb2.cell 3
    simp only [zeroR, List.getElem?_cons_zero, List.getElem?_cons_succ] at c0 c1 c2 c3
    clear hb2 u2
    go_wp2_with fail
    have z := zero_store HB2.out HU.out (by have := HRB.out; omega)
    exact bodyPost_ret (results_cell_tmp2 _ _ _ 2 3 4 26 rb zeroR 26 rfl rfl z.1 (by kernel_rfl) (by kernel_rfl)) rfl (DecR.none HN.out z.2)
  | some fr =>
    obtain ⟨first, rest⟩ := fr
    have hll := lineL_len hl
    have hsl : s.data.toList.length = s.size := by simp
    rw [hsl] at hll
    obtain ⟨fa, hfa⟩ : ∃ t : ByteArray, (⟨first.toArray⟩ : ByteArray) = t := ⟨_, rfl⟩
    obtain ⟨ra, hra⟩ : ∃ t : ByteArray, (⟨rest.toArray⟩ : ByteArray) = t := ⟨_, rfl⟩
    have hfs : fa.size = first.length := by rw [← hfa, S_size]
    have hrs : ra.size = rest.length := by rw [← hra, S_size]
    have HFL := Hd.mk (show fa.data.toList = first by rw [← hfa])
    have HRL := Hd.mk (show ra.data.toList = rest by rw [← hra])
    have HL := Hd.mk (show Ending.returned (lineV (lineL s.data.toList)) = .returned (.tuple #[.string fa, .string ra, .bool true]) by rw [hl, ← hfa, ← hra]; rfl)
    have HD := Hd.mk (decL_eq hl)
    have hsz : fa.size + 2 + ra.size = s.size := by omega
    have HRS := Hd.mk hrs
    rw [← hfs] at HD
    clear hl hll hsl hfa hra hfs hrs
    by_cases h12 : fa.size < 12
    · have HN := Hd.mk (show decL s.data.toList = none by rw [HD.out, if_pos h12])
      go_enter Tryd.func8, Tryd.ntmps8
      go_upto_region 1 with (fail)
      refine wp_abs (fun W => Blk W w.heap.size zeroR 26 ∧ Upd [] w W) HZ.out ?_
      clear HZ
      generalize hrb : w.heap.size = rb
      have HRB := Hd.mk hrb
      clear hrb
      rintro w1 ⟨b1, u1⟩
      have HB := Hd.mk (And.intro b1 u1)
      clear b1 u1
      go_wp2_with fail
      refine (line_ok s w1 (by omega)).mono ?_
      rintro e w2 ⟨he, u2⟩
      rw [HL.out] at he
      subst he
      have hb2 := u2.blk HB.out.1 (by simp)
      have HU := Hd.mk (HB.out.2.trans u2 (by simp))
      have HB2 := Hd.mk hb2
      have f0 := hb2.free 0
      have f1 := hb2.free 1
      have f2 := hb2.free 2
      have f3 := hb2.free 3
      have c0 := hb2.cell 0
      have c1 := hb2.cell 1
      have c2 := hb2.cell 2
      have c3 := hb2.cell 3
      simp only [zeroR, List.getElem?_cons_zero, List.getElem?_cons_succ] at c0 c1 c2 c3
      clear hb2 u2
      go_wp2_with fail
      have z := zero_store HB2.out HU.out (by have := HRB.out; omega)
      exact bodyPost_ret (results_cell_tmp2 _ _ _ 2 3 4 26 rb zeroR 26 rfl rfl z.1 (by kernel_rfl) (by kernel_rfl)) rfl (DecR.none HN.out z.2)
    have HD := Hd.mk (HD.out.trans (if_neg h12))
    obtain ⟨nx, hnx⟩ : ∃ t : ByteArray, fa.extract 9 12 = t := ⟨_, rfl⟩
    have HNL := Hd.mk (show nx.data.toList = (first.drop 9).take 3 by rw [← hnx, ext_list, HFL.out])
    have hns : nx.size = 3 := by rw [← hnx]; simp; omega
    cases hnum : numL ((first.drop 9).take 3) with
    | none =>
      have HN := Hd.mk (show decL s.data.toList = none by rw [HD.out, hnum])
      have HNU := Hd.mk (show numL nx.data.toList = none by rw [HNL.out, hnum])
      clear hnum
      go_enter Tryd.func8, Tryd.ntmps8
      go_upto_region 1 with (fail)
      refine wp_abs (fun W => Blk W w.heap.size zeroR 26 ∧ Upd [] w W) HZ.out ?_
      clear HZ
      generalize hrb : w.heap.size = rb
      have HRB := Hd.mk hrb
      clear hrb
      rintro w1 ⟨b1, u1⟩
      have HB := Hd.mk (And.intro b1 u1)
      clear b1 u1
      go_wp2_with fail
      refine (line_ok s w1 (by omega)).mono ?_
      rintro e w2 ⟨he, u2⟩
      rw [HL.out] at he
      subst he
      have HB := Hd.mk (And.intro (u2.blk HB.out.1 (by simp)) (HB.out.2.trans u2 (by simp)))
      clear u2
      go_wp2_with fail
      refine (number_ok nx w2 (by omega)).mono ?_
      rintro e w3 ⟨he, u3⟩
      rw [HNU.out] at he
      simp only [numI, Option.isSome_none] at he
      subst he
      have HB := Hd.mk (And.intro (u3.blk HB.out.1 (by simp)) (HB.out.2.trans u3 (by simp)))
      clear u3
      have vbn := Blk.new w3 [.int .i64 0, .slice none 0 0, .string ⟨#[]⟩, .bool false] 26 _ rfl
      have HB := Hd.mk (And.intro (HB.out.1.alloc (.cells #[.int .i64 0, .slice none 0 0, .string ⟨#[]⟩, .bool false] 26)) (HB.out.2.alloc (.cells #[.int .i64 0, .slice none 0 0, .string ⟨#[]⟩, .bool false] 26)))
      clear vbn
      go_upto_block 0 with (fail)
      refine wp_abs (fun W => Blk W rb zeroR 26 ∧ Upd [] w W) HB.out ?_
      clear HB
      rintro w4 ⟨b4, u4⟩
      have HB := Hd.mk (And.intro b4 u4)
      clear b4 u4
      go_wp2_with fail
      go_loopg [6, 7, 11, 12, 13, 14, 15] 0 (fun g s6 s7 s11 s12 s13 s14 s15 wr => s7 = .bool true ∧ wr = w4)
      case atStart => exact ⟨rfl, rfl⟩
      case round =>
        obtain ⟨rfl, rfl⟩ := hrel
        have hb2 := HB.out.1
        have f0 := hb2.free 0
        have f1 := hb2.free 1
        have f2 := hb2.free 2
        have f3 := hb2.free 3
        have c0 := hb2.cell 0
        have c1 := hb2.cell 1
        have c2 := hb2.cell 2
        have c3 := hb2.cell 3
        simp only [zeroR, List.getElem?_cons_zero, List.getElem?_cons_succ] at c0 c1 c2 c3
        clear hb2
        go_wp2_with fail
        have z := zero_store HB.out.1 HB.out.2 (by have := HRB.out; omega)
        exact bodyPost_ret (results_cell_tmp2 _ _ _ 2 3 4 26 rb zeroR 26 rfl rfl z.1 (by kernel_rfl) (by kernel_rfl)) rfl (DecR.none HN.out z.2)
    | some n =>
      have hn30 := numL_le hnum
      have HNU := Hd.mk (show numL nx.data.toList = some n by rw [HNL.out, hnum])
      have HDN := Hd.mk (show hd rest [] false = none → decL s.data.toList = none by intro h; rw [HD.out, hnum]; simp only; rw [h])
      have HDS := Hd.mk (show ∀ fs cl body, hd rest [] false = some (fs, cl, body) → decL s.data.toList = if (encL ⟨n, fs, body, cl⟩).isPrefixOf s.data.toList then some (⟨n, fs, body, cl⟩, s.data.toList.drop (encL ⟨n, fs, body, cl⟩).length) else none by intro fs cl body h; rw [HD.out, hnum]; simp only; rw [h])
      clear hnum
      go_enter Tryd.func8, Tryd.ntmps8
      go_upto_region 1 with (fail)
      refine wp_abs (fun W => Blk W w.heap.size zeroR 26 ∧ Upd [] w W) HZ.out ?_
      clear HZ
      generalize hrb : w.heap.size = rb
      have HRB := Hd.mk hrb
      clear hrb
      rintro w1 ⟨b1, u1⟩
      have HB := Hd.mk (And.intro b1 u1)
      clear b1 u1
      go_wp2_with fail
      refine (line_ok s w1 (by omega)).mono ?_
      rintro e w2 ⟨he, u2⟩
      rw [HL.out] at he
      subst he
      have HB := Hd.mk (And.intro (u2.blk HB.out.1 (by simp)) (HB.out.2.trans u2 (by simp)))
      clear u2
      go_wp2_with fail
      refine (number_ok nx w2 (by omega)).mono ?_
      rintro e w3 ⟨he, u3⟩
      rw [HNU.out] at he
      simp only [numI, Option.isSome_some] at he
      subst he
      have HB := Hd.mk (And.intro (u3.blk HB.out.1 (by simp)) (HB.out.2.trans u3 (by simp)))
      clear u3
      have HDW : Hd (DecW w rb w3.heap.size n [] false none 0 (w3.alloc (.cells #[.int .i64 n, .slice none 0 0, .string ⟨#[]⟩, .bool false] 26))) := Hd.mk
        ⟨HB.out.1.alloc _, Blk.new w3 [.int .i64 n, .slice none 0 0, .string ⟨#[]⟩, .bool false] 26 _ rfl, Bld.nil (HB.out.2.alloc _) _ _, by have := HRB.out; omega, HB.out.2.size, by have := HB.out.1.lt; omega⟩
      clear HB
      go_upto_block 0 with (fail)
      refine wp_abs (fun W => DecW w rb w3.heap.size n [] false none 0 W) HDW.out ?_
      clear HDW
      generalize w3.heap.size = vb
      rintro w4 hdw
      have HDW := Hd.mk hdw
      clear hdw
      go_wp2_with fail
      go_loopg [6, 7, 11, 12, 13, 14, 15] (ra.size + 1) (fun g s6 s7 s11 s12 s13 s14 s15 wr => ∃ (x : ByteArray) (fs : List (Bs × Bs)) (cl : Bool) (a : Option Addr) (cap : Nat) (ok : Bool), s6 = .string x ∧ s7 = .bool ok ∧ Hd (LoopI w rb vb n rest g x fs cl a cap ok wr))
      case atStart => exact ⟨ra, [], false, none, 0, true, rfl, rfl, Hd.mk ⟨HDW.out, fun _ => ⟨rfl, by rw [HRL.out], by have := HRS.out; simp [flds]; omega, by have := HRS.out; simp; omega⟩, by simp⟩⟩
      case round =>
        clear HDW HL HFL hns hnx HNL HNU h12
        obtain ⟨x, fs, cl, a, cap, ok, rfl, rfl, HI⟩ := hrel
        cases ok with
        | false =>
          have HN := Hd.mk (HDN.out (HI.out.no rfl))
          have hb2 := HI.out.st.res
          have f0 := hb2.free 0
          have f1 := hb2.free 1
          have f2 := hb2.free 2
          have f3 := hb2.free 3
          have c0 := hb2.cell 0
          have c1 := hb2.cell 1
          have c2 := hb2.cell 2
          have c3 := hb2.cell 3
          simp only [zeroR, List.getElem?_cons_zero, List.getElem?_cons_succ] at c0 c1 c2 c3
          clear hb2
          go_wp2_with fail
          have z := zero_store HI.out.st.res HI.out.st.fld.upd HI.out.st.hrb
          exact bodyPost_ret (results_cell_tmp2 _ _ _ 2 3 4 26 rb zeroR 26 rfl rfl z.1 (by kernel_rfl) (by kernel_rfl)) rfl (DecR.none HN.out z.2)
        | true =>
          obtain ⟨rfl, hhd, hb1, hb2⟩ := HI.out.go rfl
          have HH := Hd.mk (And.intro hhd (And.intro hb1 hb2))
          have hxs : x.size ≤ 900000 := by have := HRS.out; omega
          have HST := Hd.mk HI.out.st
          clear hhd hb1 hb2 HI
          cases hlx : lineL x.data.toList with
          | none =>
            have HN := Hd.mk (HH.out.1.trans (hd_none fs cl hlx))
            have HL := Hd.mk (show Ending.returned (lineV (lineL x.data.toList)) = .returned (.tuple #[.string ⟨#[]⟩, .string ⟨#[]⟩, .bool false]) by rw [hlx]; rfl)
            clear hlx
            go_wp2_with fail
            refine (line_ok x wr (by omega)).mono ?_
            rintro e w5 ⟨he, u5⟩
            rw [HL.out] at he
            subst he
            have HST := Hd.mk (HST.out.up u5)
            clear u5
            go_wp2_with fail
            refine (words58 ⟨#[]⟩ w5 (by decide)).mono ?_
            rintro e w6 ⟨v, rfl, hv⟩
            have HST := Hd.mk (HST.out.up hv.upd)
            clear hv
            go_wp2_with fail
            go_roundg 0
            case measure => omega
            case rel => exact ⟨⟨#[]⟩, fs, cl, a, cap, false, rfl, rfl, Hd.mk ⟨HST.out, by simp, fun _ => HN.out⟩⟩
          | some lr =>
            obtain ⟨l, r⟩ := lr
            have hll := lineL_len hlx
            have hsl : x.data.toList.length = x.size := by simp
            rw [hsl] at hll
            obtain ⟨lb, hlb⟩ : ∃ t : ByteArray, (⟨l.toArray⟩ : ByteArray) = t := ⟨_, rfl⟩
            obtain ⟨rr, hrr⟩ : ∃ t : ByteArray, (⟨r.toArray⟩ : ByteArray) = t := ⟨_, rfl⟩
            have hls : lb.size = l.length := by rw [← hlb, S_size]
            have hrs : rr.size = r.length := by rw [← hrr, S_size]
            have HLB := Hd.mk (show lb.data.toList = l by rw [← hlb])
            have HRR := Hd.mk (show rr.data.toList = r by rw [← hrr])
            have HL := Hd.mk (show Ending.returned (lineV (lineL x.data.toList)) = .returned (.tuple #[.string lb, .string rr, .bool true]) by rw [hlx, ← hlb, ← hrr]; rfl)
            have HDX := Hd.mk (HH.out.1.trans (hd_some fs cl hlx))
            have HLS := Hd.mk (And.intro hls hrs)
            have hsz2 : lb.size + 2 + rr.size = x.size := by omega
            clear hlx hll hsl hlb hrr hls hrs
            by_cases h58 : 58 ∈ l
            rotate_left
            · have HN := Hd.mk (HDX.out.trans (if_neg h58))
              have HW := Hd.mk (words_no h58)
              clear h58
              go_wp2_with fail
              refine (line_ok x wr (by omega)).mono ?_
              rintro e w5 ⟨he, u5⟩
              rw [HL.out] at he
              subst he
              have HST := Hd.mk (HST.out.up u5)
              clear u5
              go_wp2_with fail
              refine (words58 lb w5 (by omega)).mono ?_
              rintro e w6 ⟨v, rfl, hv⟩
              have HST := Hd.mk (HST.out.up hv.upd)
              rw [HLB.out, HW.out] at hv
              obtain ⟨va, vc, rfl⟩ := hv.sl.form
              clear hv
              simp only [List.length_cons, List.length_nil, Nat.zero_add]
              go_wp2_with fail
              go_roundg 0
              case measure => omega
              case rel => exact ⟨rr, fs, cl, a, cap, false, rfl, rfl, Hd.mk ⟨HST.out, by simp, fun _ => HN.out⟩⟩
            have HDX := Hd.mk (HDX.out.trans (if_pos h58))
            obtain ⟨tl, htl, htl1⟩ := words_yes h58
            have HW := Hd.mk htl
            have htw := tw_len h58
            clear h58 htl
            obtain ⟨tb, htb⟩ : ∃ t : ByteArray, (⟨(tw l).toArray⟩ : ByteArray) = t := ⟨_, rfl⟩
            have htbs : tb.size = (tw l).length := by rw [← htb, S_size]
            have HTB := Hd.mk (show tb.data.toList = tw l by rw [← htb])
            have hlt : tb.size + 1 + (aft l).length = lb.size := by have := HLS.out; omega
            have HTL := Hd.mk htbs
            obtain ⟨al, hal⟩ : ∃ k, (aft l).length = k := ⟨_, rfl⟩
            rw [hal] at hlt
            have HAL := Hd.mk hal
            clear htbs htw hal
            go_wp2_with fail
            refine (line_ok x wr (by omega)).mono ?_
            rintro e w5 ⟨he, u5⟩
            rw [HL.out] at he
            subst he
            have HST := Hd.mk (HST.out.up u5)
            clear u5
            go_wp2_with fail
            refine (words58 lb w5 (by omega)).mono ?_
            rintro e w6 ⟨v, rfl, hv⟩
            have HST := Hd.mk (HST.out.up hv.upd)
            rw [HLB.out, HW.out] at hv
            obtain ⟨g1, o1, k1, rfl, -, -, hc⟩ := hv.sl.some (by simp)
            have e0 := hc 0 (by simp)
            simp only [Ss, List.map_cons, List.getElem?_cons_zero, Nat.add_zero, S, htb] at e0
            obtain ⟨m1, hm1⟩ : ∃ k, (tw l :: tl).length = k := ⟨_, rfl⟩
            have hm2 : 2 ≤ m1 := by rw [← hm1]; simp; omega
            have HE0 := Hd.mk hv
            rw [hm1]
            clear hv hc hm1 htb htl1
            by_cases q1 : l = connClose
            · have HDX := Hd.mk (HDX.out.trans (if_pos q1))
              have y1 : (lb.toList == [99, 111, 110, 110, 101, 99, 116, 105, 111, 110, 58, 32, 99, 108, 111, 115, 101]) = true := lit_yes (HLB.out.trans q1)
              have f3 := HST.out.var.free 3
              have d3 := HST.out.var.cell 3
              simp only [List.getElem?_cons_zero, List.getElem?_cons_succ] at d3
              clear q1 e0
              go_wp2_with fail
              go_roundg (rr.size + 1)
              case measure => omega
              case rel => exact ⟨rr, fs, true, a, cap, true, rfl, rfl, Hd.mk ⟨HST.out.close, fun _ => ⟨rfl, by rw [HDX.out, HRR.out], by have := HH.out.2.1; omega, by have := HH.out.2.2; omega⟩, by simp⟩⟩
            have HDX := Hd.mk (HDX.out.trans (if_neg q1))
            have y1 : (lb.toList == [99, 111, 110, 110, 101, 99, 116, 105, 111, 110, 58, 32, 99, 108, 111, 115, 101]) = false := lit_no (fun e => q1 (HLB.out.symm.trans e))
            clear q1
            obtain ⟨ab, hab⟩ : ∃ t : ByteArray, lb.extract (tb.size + 1) lb.size = t := ⟨_, rfl⟩
            have hasz : ab.size = al := by rw [← hab]; simp; omega
            have HAB := Hd.mk (show ab.data.toList = aft l by
              rw [← hab, ext_list, HLB.out, HTL.out]
              exact List.take_of_length_le (by rw [List.length_drop]; have := HLS.out; omega))
            obtain ⟨tr, htr⟩ : ∃ t : ByteArray, (⟨(trimL (aft l)).toArray⟩ : ByteArray) = t := ⟨_, rfl⟩
            have htrs : tr.size ≤ al := by rw [← htr, S_size, ← HAL.out]; exact trimL_len _
            have HTR := Hd.mk (show tr.data.toList = trimL (aft l) by rw [← htr])
            have HTE := Hd.mk (show Ending.returned (.string ⟨(trimL ab.data.toList).toArray⟩) = .returned (.string tr) by rw [HAB.out, htr])
            clear htr
            by_cases q2 : tw l = contLen
            · have HDX := Hd.mk (HDX.out.trans (if_pos q2))
              have y2 : (tb.toList == [99, 111, 110, 116, 101, 110, 116, 45, 108, 101, 110, 103, 116, 104]) = true := lit_yes (HTB.out.trans q2)
              clear q2
              go_wp2_with fail
              refine (trim_ok ab w6 (by omega)).mono ?_
              rintro e w7 ⟨he, u7⟩
              rw [HTE.out] at he
              subst he
              have HST := Hd.mk (HST.out.up u7)
              clear u7 e0
              go_wp2_with fail
              refine (number_ok tr w7 (by omega)).mono ?_
              rintro e w8 ⟨rfl, u8⟩
              have HST := Hd.mk (HST.out.up u8)
              clear u8
              rw [HTR.out]
              cases hnum : numL (trimL (aft l)) with
              | none =>
                rw [hnum] at HDX
                have HN := Hd.mk (HDN.out HDX.out)
                simp only [numI, Option.isSome_none]
                clear hnum
                have hb2 := HST.out.res
                have f0 := hb2.free 0
                have f1 := hb2.free 1
                have f2 := hb2.free 2
                have f3 := hb2.free 3
                have c0 := hb2.cell 0
                have c1 := hb2.cell 1
                have c2 := hb2.cell 2
                have c3 := hb2.cell 3
                simp only [zeroR, List.getElem?_cons_zero, List.getElem?_cons_succ] at c0 c1 c2 c3
                clear hb2
                go_wp2_with fail
                have z := zero_store HST.out.res HST.out.fld.upd HST.out.hrb
                exact bodyPost_ret (results_cell_tmp2 _ _ _ 2 3 4 26 rb zeroR 26 rfl rfl z.1 (by kernel_rfl) (by kernel_rfl)) rfl (DecR.none HN.out z.2)
              | some size =>
                rw [hnum] at HDX
                have hsz30 := numL_le hnum
                simp only [numI, Option.isSome_some]
                clear hnum
                by_cases q3 : rr.size < 2 + size
                · have HN := Hd.mk (HDN.out (HDX.out.trans (if_pos (by have := HLS.out; omega))))
                  have hb2 := HST.out.res
                  have f0 := hb2.free 0
                  have f1 := hb2.free 1
                  have f2 := hb2.free 2
                  have f3 := hb2.free 3
                  have c0 := hb2.cell 0
                  have c1 := hb2.cell 1
                  have c2 := hb2.cell 2
                  have c3 := hb2.cell 3
                  simp only [zeroR, List.getElem?_cons_zero, List.getElem?_cons_succ] at c0 c1 c2 c3
                  clear hb2
                  go_wp2_with fail
                  have z := zero_store HST.out.res HST.out.fld.upd HST.out.hrb
                  exact bodyPost_ret (results_cell_tmp2 _ _ _ 2 3 4 26 rb zeroR 26 rfl rfl z.1 (by kernel_rfl) (by kernel_rfl)) rfl (DecR.none HN.out z.2)
                have HDX := Hd.mk (HDX.out.trans (if_neg (by have := HLS.out; omega)))
                obtain ⟨bd, hbd⟩ : ∃ t : ByteArray, rr.extract 2 (2 + size) = t := ⟨_, rfl⟩
                have HBD := Hd.mk (show bd.data.toList = (r.drop 2).take size by rw [← hbd, ext_list, HRR.out, Nat.add_sub_cancel_left])
                have hbs : bd.size = size := by rw [← hbd]; simp; omega
                have hb2 := HST.out.var
                have f2 := hb2.free 2
                have c0 := hb2.cell 0
                have c1 := hb2.cell 1
                have c2 := hb2.cell 2
                have c3 := hb2.cell 3
                simp only [List.getElem?_cons_zero, List.getElem?_cons_succ] at c0 c1 c2 c3
                have hb3 := hb2.set 2 (.string bd)
                have hr3 := HST.out.res.set_ne ⟨vb, 2, none⟩ (.string bd) HST.out.hne
                have hf3 := HST.out.fld.store HST.out.var (by decide) HST.out.hvb 2 (.string bd)
                have HST := Hd.mk (And.intro hb3 (And.intro hr3 (And.intro hf3 (And.intro HST.out.hrb (And.intro HST.out.hvb HST.out.hne)))))
                clear hb2 hb3 hr3 hf3
                go_upto_region 21 with (fail)
                refine wp_abs (fun W => Blk W vb [.int .i64 n, .slice a fs.length cap, .string bd, .bool cl] 26 ∧ Blk W rb zeroR 26 ∧ Bld w W 44 2 (.slice a fs.length cap) fs.length (fcells fs) ∧ w.heap.size ≤ rb ∧ w.heap.size ≤ vb ∧ rb ≠ vb) ⟨HST.out.1.as rfl, HST.out.2⟩ ?_
                clear HST f2 c0 c1 c2 c3
                rintro w9 hst
                have HST := Hd.mk hst
                have hb2 := hst.1
                have c0 := hb2.cell 0
                have c1 := hb2.cell 1
                have c2 := hb2.cell 2
                have c3 := hb2.cell 3
                simp only [List.getElem?_cons_zero, List.getElem?_cons_succ] at c0 c1 c2 c3
                clear hst hb2
                have hfl := HH.out.2.1
                have hfn := HH.out.2.2
                have hrest := HRS.out
                have hbl : bd.data.toList.length = bd.size := by simp
                have henc := encode_ok ⟨n, fs, bd.data.toList, cl⟩ a cap w9 (Rf.of_sl HST.out.2.2.1.sl) (by show n ≤ _; omega) (by show (flds fs).length ≤ _; omega) (by show bd.data.toList.length ≤ _; omega) (by show fs.length ≤ _; omega) (HT.out.upd HST.out.2.2.1.upd)
                simp only [Rs.cells, S, mk_data] at henc
                have HENC := Hd.mk henc
                have HDD := Hd.mk (HDS.out fs cl bd.data.toList (HDX.out.trans (by rw [HBD.out])))
                obtain ⟨en, hen⟩ : ∃ z, encL ⟨n, fs, bd.data.toList, cl⟩ = z := ⟨_, rfl⟩
                rw [hen] at HENC HDD
                obtain ⟨te, hte⟩ : ∃ t : ByteArray, (⟨en.toArray⟩ : ByteArray) = t := ⟨_, rfl⟩
                have htes : te.size = en.length := by rw [← hte, S_size]
                have HTE := Hd.mk (show te.data.toList = en by rw [← hte])
                rw [hte] at HENC
                have HTS := Hd.mk htes
                have HPX := Hd.mk (prefix_iff en s.data.toList)
                clear henc hfl hfn hrest hbl hen hte htes
                go_wp2_with fail
                refine HENC.out.mono ?_
                rintro e w10 ⟨rfl, u10⟩
                have HST := Hd.mk (show Blk w10 vb [.int .i64 n, .slice a fs.length cap, .string bd, .bool cl] 26 ∧ Blk w10 rb zeroR 26 ∧ Bld w w10 44 2 (.slice a fs.length cap) fs.length (fcells fs) ∧ w.heap.size ≤ rb ∧ w.heap.size ≤ vb ∧ rb ≠ vb from ⟨u10.blk HST.out.1 (by simp), u10.blk HST.out.2.1 (by simp), HST.out.2.2.1.over u10, HST.out.2.2.2⟩)
                clear u10 c0 c1 c2 c3
                by_cases q4 : s.size < te.size
                · have HN := Hd.mk (show decL s.data.toList = none by rw [HDD.out, if_neg]; intro h; have h1 := (HPX.out.1 h).1; have h2 := HTS.out; have h3 : s.data.toList.length = s.size := (by simp); omega)
                  have hb2 := HST.out.2.1
                  have f0 := hb2.free 0
                  have f1 := hb2.free 1
                  have f2 := hb2.free 2
                  have f3 := hb2.free 3
                  have c0 := hb2.cell 0
                  have c1 := hb2.cell 1
                  have c2 := hb2.cell 2
                  have c3 := hb2.cell 3
                  simp only [zeroR, List.getElem?_cons_zero, List.getElem?_cons_succ] at c0 c1 c2 c3
                  clear hb2
                  go_wp2_with fail
                  have z := zero_store HST.out.2.1 HST.out.2.2.1.upd HST.out.2.2.2.1
                  exact bodyPost_ret (results_cell_tmp2 _ _ _ 2 3 4 26 rb zeroR 26 rfl rfl z.1 (by kernel_rfl) (by kernel_rfl)) rfl (DecR.none HN.out z.2)
                obtain ⟨sx, hsx⟩ : ∃ t : ByteArray, s.extract 0 te.size = t := ⟨_, rfl⟩
                have HSX := Hd.mk (show sx.data.toList = s.data.toList.take en.length by rw [← hsx, ext_list, HTS.out]; simp)
                by_cases q5 : sx = te
                rotate_left
                · have HN := Hd.mk (show decL s.data.toList = none by
                    rw [HDD.out, if_neg]
                    intro h
                    exact q5 (toList_inj (by rw [HSX.out, (HPX.out.1 h).2, HTE.out])))
                  have y5 := str_no q5
                  have y6 : (sx.toList != te.toList) = true := by simp [bne, y5]
                  clear q5
                  have hb2 := HST.out.2.1
                  have f0 := hb2.free 0
                  have f1 := hb2.free 1
                  have f2 := hb2.free 2
                  have f3 := hb2.free 3
                  have c0 := hb2.cell 0
                  have c1 := hb2.cell 1
                  have c2 := hb2.cell 2
                  have c3 := hb2.cell 3
                  simp only [zeroR, List.getElem?_cons_zero, List.getElem?_cons_succ] at c0 c1 c2 c3
                  clear hb2
                  go_wp2_with fail
                  have z := zero_store HST.out.2.1 HST.out.2.2.1.upd HST.out.2.2.2.1
                  exact bodyPost_ret (results_cell_tmp2 _ _ _ 2 3 4 26 rb zeroR 26 rfl rfl z.1 (by kernel_rfl) (by kernel_rfl)) rfl (DecR.none HN.out z.2)
                have HDD := Hd.mk (HDD.out.trans (if_pos (HPX.out.2 ⟨by have := HTS.out; simp; omega, by rw [← HSX.out, q5, HTE.out]⟩)))
                have y5 := str_yes q5
                have y6 : (sx.toList != te.toList) = false := by simp [bne, y5]
                clear q5
                have hb2 := HST.out.2.1
                have f0 := hb2.free 0
                have f1 := hb2.free 1
                have f2 := hb2.free 2
                have f3 := hb2.free 3
                have c0 := hb2.cell 0
                have c1 := hb2.cell 1
                have c2 := hb2.cell 2
                have c3 := hb2.cell 3
                simp only [zeroR, List.getElem?_cons_zero, List.getElem?_cons_succ] at c0 c1 c2 c3
                have hb3 := HST.out.1
                have d0 := hb3.cell 0
                have d1 := hb3.cell 1
                have d2 := hb3.cell 2
                have d3 := hb3.cell 3
                simp only [List.getElem?_cons_zero, List.getElem?_cons_succ] at d0 d1 d2 d3
                clear hb2 hb3
                go_upto_region 24 with (fail)
                go_region
                all_goals
                  go_wp2_with fail
                  have F1 := HST.out.2.2.1.store HST.out.2.1 (by decide) HST.out.2.2.2.1 0 (.int .i64 n)
                  have F2 := F1.store (HST.out.2.1.set 0 _) (by decide) HST.out.2.2.2.1 1 (.slice a fs.length cap)
                  have F3 := F2.store ((HST.out.2.1.set 0 _).set 1 _) (by decide) HST.out.2.2.2.1 2 (.string bd)
                  have F4 := F3.store (((HST.out.2.1.set 0 _).set 1 _).set 2 _) (by decide) HST.out.2.2.2.1 3 (.bool cl)
                  refine bodyPost_ret (results_cell_tmp2 _ _ _ 2 3 4 26 rb [.int .i64 n, .slice a fs.length cap, .string bd, .bool cl] 26 rfl rfl ?_ (by kernel_rfl) (by kernel_rfl)) rfl ?_
                  · exact (((((HST.out.2.1.set 0 _).set 1 _).set 2 _).set 3 _).drew).as rfl
                  · have key : Value.string (s.extract te.size s.size) = S (s.data.toList.drop en.length) := by
                      rw [S_of (ext_list s te.size s.size), HTS.out, List.take_of_length_le (by simp)]
                    show DecR _ w (.returned (.tuple #[.agg #[.int .i64 n, .slice a fs.length cap, .string bd, .bool cl], .string (s.extract te.size s.size), .bool true])) _
                    rw [key]
                    have hfin := DecR.some (a := a) (cap := cap) HDD.out (F4.sl.upd ((Upd.refl [] _).drew) (by simp)) F4.upd.drew
                    simp only [Rs.cells, S, mk_data] at hfin ⊢
                    exact hfin
            · have HDX := Hd.mk (HDX.out.trans (if_neg q2))
              have y2 : (tb.toList == [99, 111, 110, 116, 101, 110, 116, 45, 108, 101, 110, 103, 116, 104]) = false := lit_no (fun e => q2 (HTB.out.symm.trans e))
              clear q2
              have HEC := Hd.mk (show ∀ W, Upd [] w6 W → W.cell? ⟨g1, o1, none⟩ = some (.string tb) from fun W u => (u.cell (p := ⟨g1, o1, none⟩) (HE0.out.sl.lt g1 (by simp [ownB])) (by simp)).trans e0)
              have hfn : fs.length ≤ 900000 := by have := HH.out.2.2; have := HRS.out; omega
              clear HE0
              have hb2 := HST.out.var
              have c0 := hb2.cell 0
              have c1 := hb2.cell 1
              have c2 := hb2.cell 2
              have c3 := hb2.cell 3
              simp only [List.getElem?_cons_zero, List.getElem?_cons_succ] at c0 c1 c2 c3
              have f1 := hb2.free 1
              clear hb2
              have tok1 : True := trivial
              have hm4 : 0 < m1 := by omega
              have hwr : IntKind.i64.wrap ((tb.size : Int) + 1) = (tb.size : Int) + 1 := by rw [IntKind.wrap_i64]; omega
              have hp1 : (0 : Int) ≤ (tb.size : Int) + 1 := by omega
              have hp2 : (tb.size : Int) + 1 ≤ (lb.size : Int) := by omega
              have hp3 : ((tb.size : Int) + 1).toNat = tb.size + 1 := by omega
              go_upto_region 10 with (fail)
              go_region_law (first
                | (have _t := tok1; refine step_func rfl 18 #[.tmp 61] #[9] rfl #[.string ab] (by go_simp) (by go_simp) (.string tr) ?_; refine (trim_ok ab _ (by omega)).mono ?_; rintro e w7 ⟨he, u7⟩; rw [HTE.out] at he; refine ⟨he, ?_⟩; clear he; have U7 := Hd.mk (show Upd [] w6 w7 from ((Upd.refl [] w6).drew).trans u7 (by simp)); have HST7 := Hd.mk (HST.out.up U7.out); clear u7 c0 c1 c2 c3 f1 e0 tok1 _t; have e0 := HEC.out w7 U7.out; have c1 := HST7.out.var.cell 1; have e0' := HEC.out _ (U7.out.alloc (.cells #[.string tb, .string tr] 44)); have c1' := (HST7.out.var.alloc (.cells #[.string tb, .string tr] 44)).cell 1; simp only [List.getElem?_cons_zero, List.getElem?_cons_succ] at c1 c1')
                | (have _t := HST7; clear _t; refine step_append_any rfl (.tmp 51) (.tmp 64) 24 rfl 44 (.agg #[.string ⟨#[]⟩, .string ⟨#[]⟩]) 2 32 Tryd.underlying24 (by kernel_rfl) rfl (.slice a fs.length cap) fs.length (fcells fs) (by go_simp) (HST7.out.fld.sl.alloc (.cells #[.string tb, .string tr] 44)) (.slice (some ⟨w7.heap.size, 0, none⟩) 1 1) 1 [.string tb, .string tr] (by go_simp) ((Blk.new w7 [.string tb, .string tr] 44 _ rfl).sl 2 1 rfl (by unfold maxLen; omega)) rfl (by omega) (by omega) ?_; intro v9 w9 s9 u9 o9; obtain ⟨a9, k9, rfl⟩ := s9.form; have Y9 := Hd.mk (And.intro s9 (And.intro u9 o9)); clear s9 u9 o9 c1 c1' e0 e0'; have v9 := Y9.out.2.1.blk (HST7.out.var.alloc (.cells #[.string tb, .string tr] 44)) (fun e => HST7.out.fld.sl.other (by decide) _ e _ HST7.out.var); have c1 := v9.cell 1; have f1 := v9.free 1; simp only [List.getElem?_cons_zero, List.getElem?_cons_succ] at c1; clear v9))
              all_goals
                go_wp2_with fail
                go_roundg (rr.size + 1)
                case measure => omega
                case rel => exact ⟨rr, fs ++ [(tw l, trimL (aft l))], cl, a9, k9, true, rfl, rfl, Hd.mk ⟨HST7.out.app (.cells #[.string tb, .string tr] 44) HTB.out HTR.out Y9.out.1 Y9.out.2.1 Y9.out.2.2, fun _ => ⟨rfl, by rw [HDX.out, HRR.out], by
                    rw [flds_snoc]
                    have h1 := HH.out.2.1
                    have h2 := HTL.out
                    have h3 : (trimL (aft l)).length = tr.size := by rw [← HTR.out]; simp
                    simp only
                    omega, by
                    have h1 := HH.out.2.2
                    simp only [List.length_append, List.length_cons, List.length_nil]
                    omega⟩, by simp⟩⟩
end Go.Proofs.YtlhkckgfhlflkaaDoor
