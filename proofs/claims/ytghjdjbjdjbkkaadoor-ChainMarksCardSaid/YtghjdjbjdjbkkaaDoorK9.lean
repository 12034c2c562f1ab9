/- ChainMarks: an answer tells whose it is, and by which version, ahead of its other fields. -/
import Derived.Test.YtghjdjbjdjbkkaaDoorK6
import Derived.Test.YtghjdjbjdjbkkaaDoorK8
import Derived.BigQuiet
import Derived.Test.YtghjdjbjdjbkkaaDoorAp2
namespace Go.Proofs.YtghjdjbjdjbkkaaDoor
set_option linter.unusedSimpArgs false
set_option linter.unusedVariables false
set_option linter.unnecessarySimpa false
open Go.RowKit BigFrame

theorem leaf_resp2 {w : World} {ds : List Value} (h : Leaf.oks w [.int .i64, .sl [.str, .str], .str, .bool] ds) : ∃ k a cap bd cl, ∃ fs : List (ByteArray × ByteArray), ds = Pc k a fs.length cap bd cl ∧ fs.length ≤ 140737488351232 ∧ Rf w a fs := by
  simp only [Leaf.oks] at h
  obtain ⟨_, _, rfl, h1, _, _, rfl, h2, _, _, rfl, h3, _, _, rfl, h4, rfl⟩ := h
  have h2' := h2
  simp only [Leaf.ok] at h1 h2' h3 h4
  obtain ⟨k, rfl, hk⟩ := h1
  obtain ⟨a, n, cap, _, rfl, -⟩ := h2'
  obtain ⟨x, rfl, hx⟩ := h3
  obtain ⟨cl, rfl⟩ := h4
  obtain ⟨fs, rfl, hr, hn, -⟩ := leaf_fs h2
  exact ⟨k, a, cap, x, cl, fs, rfl, hn, hr⟩
theorem Rf.drew {w : World} {a : Option Addr} {fs : List (ByteArray × ByteArray)} (h : Rf w a fs) : Rf w.drew a fs := h.upd ((Upd.refl _ _).drew)
/-- append(nil, some fields...). -/
theorem run_app_nil (w : World) (ty : TypeId) (a : Option Addr) (n cap : Nat) (fs : List (ByteArray × ByteArray)) (hn : fs.length = n) (hs : n ≤ 100000) (h : Rf w a fs) :
    ∃ a' c' w', (Builtin.append_ #[26, 26] ty #[.slice none 0 0, .slice a n cap]).run Tryd.prog w = .ok (.slice a' n c') w' ∧ Rf w' a' fs ∧ Upd [] w w' := by
  by_cases h0 : n = 0
  · have hf : fs = [] := List.eq_nil_of_length_eq_zero (by omega)
    subst hf
    subst h0
    refine ⟨none, 0, w, ?_, Rf.nil _ _, Upd.refl _ _⟩
    obtain ⟨i, hi2, hz, hs2, hby⟩ := info_parts (show (Tryd.prog.info? 44).map (fun i => (i.zero, i.size, i.bytes)) = some (some (.agg #[.string ⟨#[]⟩, .string ⟨#[]⟩]), 2, 32) by kernel_rfl)
    cases a <;> simp [Builtin.append_, run_underlying Tryd.underlying26, sizeOf, typeInfo, hi2, Builtin.lenOf, Builtin.firstCells, loadCells, loadCellsFrom, storeCells]
  · obtain ⟨b, off, rfl, hbw, hc⟩ := h (by omega)
    obtain ⟨g, o, c', w', hr, h2, h3, h4, h5⟩ := run_append_sl (P := Tryd.prog) w 26 ty 44 (.agg #[.string ⟨#[]⟩, .string ⟨#[]⟩]) 2 32 Tryd.underlying26 (by kernel_rfl) rfl
      (.slice none 0 0) 0 [] (Sl.nil _ _ _) ⟨b, off, none⟩ n cap (fcells fs) (by rw [fcells_len, hn]) (fun j u hu => by
        rw [Addr.add_lit]
        have hj : j < n * 2 := by
          have := (List.getElem?_eq_some_iff.1 hu).1
          rw [fcells_len, hn] at this
          exact this
        have hq := fcells_at fs (j / 2) (by omega)
        have hq2 := hc (j / 2) (by omega)
        rcases Nat.mod_two_eq_zero_or_one j with e | e
        · have ej : j = j / 2 * 2 := by omega
          rw [ej] at hu ⊢
          rw [hq.1] at hu
          rw [hq2.1]
          exact hu
        · have ej : j = j / 2 * 2 + 1 := by omega
          rw [ej] at hu ⊢
          rw [hq.2] at hu
          rw [← Nat.add_assoc, hq2.2]
          exact hu) (fcells_one fs) (by omega) (by unfold maxLen; omega) (by omega)
    refine ⟨some ⟨g, o, none⟩, c', w', ?_, fun _ => ⟨g, o, rfl, h5, fun i hi => ?_⟩, h3.mono (by simp [ownB])⟩
    · rw [Nat.zero_add] at hr
      exact hr
    · rw [List.nil_append] at h2
      have hq := fcells_at fs i hi
      have k1 := h2.cell (i * 2) (by omega)
      have k2 := h2.cell (i * 2 + 1) (by omega)
      rw [← Nat.add_assoc] at k2
      exact ⟨k1.trans hq.1, k2.trans hq.2⟩
theorem wpList_app_nil {ops : Array Oper} {rest : List Oper} {o : Oper} {act : Act} {w : World} {Q : Exit → Act → World → Prop} (hgd : o.guard = none) (x : Operand)
    (ho : o.op = .call { callee := .builtin .append, args := #[.const (.slice none 0 0), x], argTypes := #[26, 26] }) (a : Option Addr) (n cap : Nat) (fs : List (ByteArray × ByteArray)) (hn : fs.length = n) (hz : n ≤ 100000) (hr : Rf w a fs)
    (hx : act.eval x = .slice a n cap)
    (h : ∀ a' c' w', Rf w' a' fs → Upd [] w w' → wpList Tryd.prog ops Q rest (act.put o.dst (.slice a' n c')) w') : wpList Tryd.prog ops Q (o :: rest) act w := by
  refine wpList_plain hgd fun K hK => ?_
  obtain ⟨a', c', w', hq, h2, h3⟩ := run_app_nil w o.type a n cap fs hn hz hr
  have hc0 : act.eval (.const (.slice none 0 0)) = .slice none 0 0 := rfl
  unfold Oper.wp execOp
  simp only [ho, resolve, invoke, builtin, Sem.run_bind, Sem.run_pure, Result.andThen_ok, List.map_toArray, List.map_cons, List.map_nil, hc0, hx, hq]
  exact hK _ _ (h a' c' w' h2 h3)
set_option maxRecDepth 100000 in
set_option maxHeartbeats 2000000 in
theorem clo_marks (c : Cc) (k : Int) (a : Option Addr) (fs : List (ByteArray × ByteArray)) (n cap : Nat) (hn : fs.length = n) (bd : ByteArray) (cl : Bool) (rb : Nat) (w : World) (hr : Blk w rb (Pc k a n cap bd cl) 36) (hf : Rf w a fs) :
    Calls Tryd.prog 16 #[.agg c.cells.toArray, .pointer (some ⟨rb, 0, none⟩)] w (MarkQ w k fs bd cl) := by
  have U1 := (Upd.refl [] w).alloc (.cells c.cells.toArray 34)
  have B2 := Blk.new (w.alloc (.cells c.cells.toArray 34)) [.int .i64 0, .slice none 0 0, .string ⟨#[]⟩, .bool false] 36 (w.heap.size + 1) (by simp)
  have U2 := U1.alloc (.cells #[.int .i64 0, .slice none 0 0, .string ⟨#[]⟩, .bool false] 36)
  have hr2 := U2.blk hr (by simp)
  have HB := Hd.mk (And.intro B2 (And.intro U2 (And.intro hr2 (hf.upd U2))))
  have hlt := hr.lt
  have HL := Hd.mk hlt
  have HF := Hd.mk hf
  clear B2 U1 U2 hr2 hr hf hlt
  subst hn
  obtain ⟨mm, tg, fl, bo, cs, cn, sq, vr, hd, pr, aw, fd, tk⟩ := c
  simp only [Cc.cells, Pc] at *
  go_enter Tryd.func16, Tryd.ntmps16
  go_upto_region 1 with (fail)
  refine wp_abs (fun W => (Blk W (w.heap.size + 1) [.int .i64 0, .slice none 0 0, .string ⟨#[]⟩, .bool false] 36 ∧ Upd [] w W ∧ Blk W rb [.int .i64 k, .slice a fs.length cap, .string bd, .bool cl] 36 ∧ Rf W a fs)) HB.out ?_
  clear HB
  obtain ⟨x2, hx2⟩ : ∃ x, w.heap.size + 1 = x := ⟨_, rfl⟩
  rw [hx2]
  have HX := Hd.mk hx2
  clear hx2
  rintro w1 ⟨b2, u1, br, rf⟩
  have HB := Hd.mk (And.intro b2 (And.intro u1 rf))
  have d0 := b2.cell 0
  have d1 := b2.cell 1
  have d2 := b2.cell 2
  have d3 := b2.cell 3
  simp only [List.getElem?_cons_zero, List.getElem?_cons_succ] at d0 d1 d2 d3
  have r0 := br.cell 0
  have r1 := br.cell 1
  have r2 := br.cell 2
  have r3 := br.cell 3
  simp only [List.getElem?_cons_zero, List.getElem?_cons_succ] at r0 r1 r2 r3
  have f0 := b2.free 0
  have f1 := b2.free 1
  have f2 := b2.free 2
  have f3 := b2.free 3
  have hne : x2 ≠ rb := by have := HX.out; have := HL.out; omega
  have hne' := hne.symm
  clear b2 u1 br rf
  go_wp2_with fail
  refine bodyPost_ret (results_cell _ _ _ 3 36 x2 (Pc k a fs.length cap bd cl) 36 rfl rfl (HB.out.1.set4 rfl _ _ _ _) (by kernel_rfl) (by kernel_rfl)) rfl ?_
  have hu := HB.out.2.1.set4 (b := x2) (by have := HX.out; omega) (.int .i64 k) (.slice a fs.length cap) (.string bd) (.bool cl)
  exact ⟨a, cap, rfl, HF.out.upd hu, hu⟩
def RfAt (W : World) (b off : Nat) (gs : List (ByteArray × ByteArray)) : Prop := b < W.heap.size ∧ ∀ i (h : i < gs.length), W.cell? ⟨b, off + i * 2, none⟩ = some (.string gs[i].1) ∧ W.cell? ⟨b, off + i * 2 + 1, none⟩ = some (.string gs[i].2)
theorem RfAt.upd {w w' : World} {b off : Nat} {gs : List (ByteArray × ByteArray)} (h : RfAt w b off gs) {S : List Nat} (hu : Upd S w w') (hs : b ∉ S) : RfAt w' b off gs :=
  ⟨Nat.lt_of_lt_of_le h.1 hu.size, fun i hi => ⟨(hu.cell (p := ⟨b, _, none⟩) h.1 hs).trans (h.2 i hi).1, (hu.cell (p := ⟨b, _, none⟩) h.1 hs).trans (h.2 i hi).2⟩⟩
theorem Rf.at {W : World} {b o : Nat} {fs : List (ByteArray × ByteArray)} (h : Rf W (some ⟨b, o, none⟩) fs) (i : Nat) (hi : i < fs.length) : W.cell? ⟨b, o + i * 2, none⟩ = some (.string fs[i].1) ∧ W.cell? ⟨b, o + i * 2 + 1, none⟩ = some (.string fs[i].2) := by
  obtain ⟨b', o', e, -, hc⟩ := h (by omega)
  simp only [Option.some.injEq, Addr.mk.injEq, and_true] at e
  obtain ⟨rfl, rfl⟩ := e
  exact hc i hi
/-- Worlds behind the marked answer. -/
structure MkE (w : World) (cb rb tb : Nat) (cs ds es : List Value) (fs : List (ByteArray × ByteArray)) (a fa : Option Addr) (b2 o2 : Nat) (gs : List (ByteArray × ByteArray)) (W : World) : Prop where
  cb : Blk W cb cs 34
  rb : Blk W rb ds 36
  tb : Blk W tb es 36
  ra : Rf W a fs
  rc : Rf W fa fs
  at' : RfAt W b2 o2 gs
  upd : Upd [] w W
theorem MkE.up {w W W' : World} {cb rb tb : Nat} {cs ds es : List Value} {fs : List (ByteArray × ByteArray)} {a fa : Option Addr} {b2 o2 : Nat} {gs : List (ByteArray × ByteArray)} (h : MkE w cb rb tb cs ds es fs a fa b2 o2 gs W) (hu : Upd [] W W') : MkE w cb rb tb cs ds es fs a fa b2 o2 gs W' :=
  ⟨hu.blk h.cb (by simp), hu.blk h.rb (by simp), hu.blk h.tb (by simp), h.ra.upd hu, h.rc.upd hu, h.at'.upd hu (by simp), h.upd.trans hu (by simp)⟩
/-- Ahead of it. -/
structure MkA (w : World) (cb rb : Nat) (cs ds : List Value) (fs : List (ByteArray × ByteArray)) (a fa : Option Addr) (W : World) : Prop where
  cb : Blk W cb cs 34
  rb : Blk W rb ds 36
  ra : Rf W a fs
  rc : Rf W fa fs
  upd : Upd [] w W
theorem MkA.up {w W W' : World} {cb rb : Nat} {cs ds : List Value} {fs : List (ByteArray × ByteArray)} {a fa : Option Addr} (h : MkA w cb rb cs ds fs a fa W) (hu : Upd [] W W') : MkA w cb rb cs ds fs a fa W' :=
  ⟨hu.blk h.cb (by simp), hu.blk h.rb (by simp), h.ra.upd hu, h.rc.upd hu, h.upd.trans hu (by simp)⟩
/-- An empty answer's box is no row of fields. -/
theorem RfAt.apart {W : World} {b off tb : Nat} {f g : ByteArray × ByteArray} {gs : List (ByteArray × ByteArray)} (h : RfAt W b off (f :: g :: gs)) (ht : Blk W tb [.int .i64 0, .slice none 0 0, .string ⟨#[]⟩, .bool false] 36) : b ≠ tb := by
  intro e
  rw [e] at h
  have h1 : W.cell? ⟨tb, off + 0 * 2, none⟩ = some (.string f.1) := (h.2 0 (by simp)).1
  have h2 : W.cell? ⟨tb, off + 0 * 2 + 1, none⟩ = some (.string f.2) := (h.2 0 (by simp)).2
  have c1 := ht.cell (off + 0 * 2)
  have c2 := ht.cell (off + 0 * 2 + 1)
  rw [h1] at c1
  rw [h2] at c2
  rw [Nat.zero_mul, Nat.add_zero] at c1 c2
  match off, c1, c2 with
  | 0, c1, _ => simp at c1
  | 1, c1, _ => simp at c1
  | 2, _, c2 => simp at c2
  | 3, c1, _ => simp at c1
  | k + 4, c1, _ => simp at c1
theorem mk_fin1 {w w5 w6 w7 : World} {cb rb : Nat} {cs ds es : List Value} {fs gs : List (ByteArray × ByteArray)} {a fa : Option Addr} {b2 o2 : Nat} (h : MkA w cb rb cs ds fs a fa w5) (h6 : Upd [] w5 w6) (h7 : Upd [] w6 w7) (hb : RfAt w7 b2 o2 gs) : MkE w cb rb w7.heap.size cs ds es fs a fa b2 o2 gs (w7.alloc (.cells es.toArray 36)) :=
  have hu : Upd [] w5 (w7.alloc (.cells es.toArray 36)) := (h6.trans h7 (by simp)).alloc _
  have hA := h.up hu
  ⟨hA.cb, hA.rb, Blk.new w7 es _ _ rfl, hA.ra, hA.rc, hb.upd ((Upd.refl [] w7).alloc _) (by simp), hA.upd⟩
theorem mk_fin2 {w w5 w6 w7 : World} {cb rb tb : Nat} {cs ds : List Value} {x y z u : Value} {fs gs : List (ByteArray × ByteArray)} {f g : ByteArray × ByteArray} {a fa : Option Addr} {b2 o2 : Nat} (h : MkA w cb rb cs ds fs a fa w5) (h6 : Upd [] w5 w6) (h7 : Upd [] w6 w7) (hb : RfAt w7 b2 o2 (f :: g :: gs))
    (ht : Blk w7 tb [.int .i64 0, .slice none 0 0, .string ⟨#[]⟩, .bool false] 36) (h5 : w5.heap.size ≤ tb) :
    MkE w cb rb tb cs ds [x, y, z, u] fs a fa b2 o2 (f :: g :: gs) ((((w7.setCell ⟨tb, 0, none⟩ x).setCell ⟨tb, 1, none⟩ y).setCell ⟨tb, 2, none⟩ z).setCell ⟨tb, 3, none⟩ u) :=
  have hu : Upd [] w5 ((((w7.setCell ⟨tb, 0, none⟩ x).setCell ⟨tb, 1, none⟩ y).setCell ⟨tb, 2, none⟩ z).setCell ⟨tb, 3, none⟩ u) := (h6.trans h7 (by simp)).set4 h5 x y z u
  have hA := h.up hu
  have hs : Upd [tb] w7 ((((w7.setCell ⟨tb, 0, none⟩ x).setCell ⟨tb, 1, none⟩ y).setCell ⟨tb, 2, none⟩ z).setCell ⟨tb, 3, none⟩ u) := ((((Upd.refl [tb] w7).set _ _ (by simp)).set _ _ (by simp)).set _ _ (by simp)).set _ _ (by simp)
  ⟨hA.cb, hA.rb, ht.set4 rfl x y z u, hA.ra, hA.rc, hb.upd hs (by rw [List.mem_singleton]; exact hb.apart ht), hA.upd⟩
/-- A call of a function value, as a step of a region; what it answers is not told ahead. -/
theorem step_fval2 {P : Program} {ops : Array Oper} {o : Oper} {a : Act} {w : World} {K : Act → World → Prop} {Q : Exit → Act → World → Prop} {E : Prop} (hgd : o.guard = none) (x : Operand) (xs : Array Operand) (ts : Array TypeId)
    (ho : o.op = .call { callee := .value x, args := xs, argTypes := ts }) (g : FuncId) (cap : Array Value) (hx : a.eval x = .func (.func g) #[] cap) (vals : Array Value) (hv : xs.map a.eval = vals) (hcf : (callFunc g (#[] ++ vals ++ cap)).run P w = .ok (.enter g (vals ++ cap)) w) (h : Calls P g (vals ++ cap) w fun e w' => ∃ v, e = .returned v ∧ K (a.put o.dst v) w') :
    if Region.wanted o (yielded ops a.tmps) = true then Oper.wp P o a w K Q else E := by
  have hw : Region.wanted o (yielded ops a.tmps) = true := by simp [Region.wanted, hgd]
  rw [if_pos hw]
  subst hv
  have key : (execOp a.eval o).run P w = .ok (.enter g (xs.map a.eval ++ cap)) w := by
    rw [← hcf]
    unfold execOp
    simp only [ho, resolve, hx, Sem.run_bind, Sem.run_pure, Result.andThen_ok, invoke]
    simp [Deferred.ofValue]
  unfold Oper.wp
  rw [key]
  exact h.mono fun e w' h' => by obtain ⟨v, rfl, h2⟩ := h'; exact h2
set_option maxRecDepth 100000 in
set_option maxHeartbeats 4000000 in
theorem marks_walk (c : Cc) (fa aa : Option Addr) (fcap acap : Nat) (fs0 : List (ByteArray × ByteArray)) (xs : List ByteArray) (k : Int) (a : Option Addr) (fs : List (ByteArray × ByteArray)) (cap : Nat) (bd : ByteArray) (cl : Bool) (w : World) (hn : fs.length ≤ 140737488351232) (hrf : Rf w a fs) (h : CameC w c fa fcap fs0 aa acap xs) (hT : Tab w) :
    Calls Tryd.prog 4 #[.agg c.cells.toArray, .agg (Pc k a fs.length cap bd cl).toArray] w fun e w' => e = .returned (.bool true) ∧ Upd [] w w' := by
  have HC := Hd.mk h
  have HT := Hd.mk hT
  have HRF := Hd.mk hrf
  clear h hT hrf
  have hmf := mf
  have B1 := Blk.new w c.cells 34 _ rfl
  have U1 := (Upd.refl [] w).alloc (.cells c.cells.toArray 34)
  have B2 := Blk.new (w.alloc (.cells c.cells.toArray 34)) (Pc k a fs.length cap bd cl) 36 (w.heap.size + 1) (by simp)
  have U2 := U1.alloc (.cells (Pc k a fs.length cap bd cl).toArray 36)
  have D1 := B1.alloc (.cells (Pc k a fs.length cap bd cl).toArray 36)
  have HB := Hd.mk (And.intro D1 (And.intro B2 U2))
  clear B1 B2 U1 U2 D1
  have HLT := Hd.mk (fun (W : World) (hu : Upd [] w W) => light_ok c fa aa fcap acap fs0 xs W (HC.out.upd hu))
  have HCL := Hd.mk (fun rb (W : World) => clo_marks c k a fs fs.length cap rfl bd cl rb W)
  have HMK := Hd.mk (fun b b2 (W : World) => mark_ok c 16 b b2 k fs bd cl W)
  obtain ⟨mm, tg, fl, bo, cs, cn, sq, vr, hd, pr, aw, fd, tk⟩ := c
  simp only [Cc.cells, Pc] at *
  clear HC
  go_enter Tryd.func4, Tryd.ntmps4
  go_upto_region 1 with (fail)
  refine wp_abs (fun W => (Blk W w.heap.size [.string mm, .string tg, fl, .string bo, .bool cs, .int .i64 cn, .int .i64 sq, .int .i64 vr, .string hd, pr, aw, .bool fd, .string tk] 34 ∧ Blk W (w.heap.size + 1) [.int .i64 k, .slice a fs.length cap, .string bd, .bool cl] 36 ∧ Upd [] w W)) HB.out ?_
  clear HB
  obtain ⟨rb, hx2⟩ : ∃ x, w.heap.size + 1 = x := ⟨_, rfl⟩
  obtain ⟨cb, hx1⟩ : ∃ x, w.heap.size = x := ⟨_, rfl⟩
  rw [hx2, hx1]
  have HX := Hd.mk (And.intro hx1 hx2)
  clear hx1 hx2
  rintro w1 ⟨b1, b2, u1⟩
  have HB := Hd.mk (And.intro b1 (And.intro b2 u1))
  clear b1 b2 u1
  go_wp2_with fail
  refine (fit_ok w1 (HT.out.upd HB.out.2.2)).mono ?_
  rintro e w2 ⟨rfl, u2⟩
  have HB := Hd.mk (And.intro (u2.blk HB.out.1 (by simp)) (And.intro (u2.blk HB.out.2.1 (by simp)) (HB.out.2.2.trans u2 (by simp))))
  have b1 := HB.out.1
  have b2 := HB.out.2.1
  have c0 := b1.cell 0
  have c1 := b1.cell 1
  have c2 := b1.cell 2
  have c3 := b1.cell 3
  have c4 := b1.cell 4
  have c5 := b1.cell 5
  have c6 := b1.cell 6
  have c7 := b1.cell 7
  have c8 := b1.cell 8
  have c9 := b1.cell 9
  have c10 := b1.cell 10
  have c11 := b1.cell 11
  have c12 := b1.cell 12
  simp only [List.getElem?_cons_zero, List.getElem?_cons_succ] at c0 c1 c2 c3 c4 c5 c6 c7 c8 c9 c10 c11 c12
  have r0 := b2.cell 0
  have r1 := b2.cell 1
  have r2 := b2.cell 2
  have r3 := b2.cell 3
  simp only [List.getElem?_cons_zero, List.getElem?_cons_succ] at r0 r1 r2 r3
  clear u2 b1 b2
  go_wp2_with fail
  refine (HLT.out w2 HB.out.2.2).mono ?_
  rintro e w3 ⟨b, rfl, hoks, u3⟩
  have HOK := Hd.mk hoks
  have HB := Hd.mk (And.intro (u3.blk HB.out.1 (by simp)) (And.intro (u3.blk HB.out.2.1 (by simp)) (HB.out.2.2.trans u3 (by simp))))
  clear u3 c0 c1 c2 c3 c4 c5 c6 c7 c8 c9 c10 c11 c12 r0 r1 r2 r3 hoks
  cases b with
  | false =>
    go_wp2_with fail
    go_ret
    exact ⟨rfl, HB.out.2.2⟩
  | true =>
    have b2 := HB.out.2.1
    have r0 := b2.cell 0
    have r1 := b2.cell 1
    have r2 := b2.cell 2
    have r3 := b2.cell 3
    simp only [List.getElem?_cons_zero, List.getElem?_cons_succ] at r0 r1 r2 r3
    clear b2
    by_cases hl : 20 < fs.length
    · have hl2 : (20 : Int) < fs.length := by omega
      go_wp2_with fail
      go_ret
      exact ⟨rfl, HB.out.2.2⟩
    have hl2 : ¬ (20 : Int) < fs.length := by omega
    have HOQ := Hd.mk (HOK.out (by trivial))
    clear HOK
    go_upto_region 6 with (at_builtin; refine wpList_app_nil rfl (.tmp 21) rfl a fs.length cap fs rfl (by omega) (HRF.out.upd HB.out.2.2) (by go_simp) ?_; intro a5 p5 w5 r5 u5; have HA := Hd.mk (show MkA w cb rb [.string mm, .string tg, fl, .string bo, .bool cs, .int .i64 cn, .int .i64 sq, .int .i64 vr, .string hd, pr, aw, .bool fd, .string tk] [.int .i64 k, .slice a fs.length cap, .string bd, .bool cl] fs a a5 w5 from ⟨u5.blk HB.out.1 (by simp), u5.blk HB.out.2.1 (by simp), HRF.out.upd (HB.out.2.2.trans u5 (by simp)), r5, HB.out.2.2.trans u5 (by simp)⟩); clear r5 u5)
    clear HB r0 r1 r2 r3
    have b1 := HA.out.cb
    have c0 := b1.cell 0
    have c1 := b1.cell 1
    have c2 := b1.cell 2
    have c3 := b1.cell 3
    have c4 := b1.cell 4
    have c5 := b1.cell 5
    have c6 := b1.cell 6
    have c7 := b1.cell 7
    have c8 := b1.cell 8
    have c9 := b1.cell 9
    have c10 := b1.cell 10
    have c11 := b1.cell 11
    have c12 := b1.cell 12
    simp only [List.getElem?_cons_zero, List.getElem?_cons_succ] at c0 c1 c2 c3 c4 c5 c6 c7 c8 c9 c10 c11 c12
    clear b1
    have tokA := HA
    have b9 := HA.out.cb.alloc (.cells #[.int .i64 0, .slice none 0 0, .string ⟨#[]⟩, .bool false] 36)
    have e0 := b9.cell 0
    have e1 := b9.cell 1
    have e2 := b9.cell 2
    have e3 := b9.cell 3
    have e4 := b9.cell 4
    have e5 := b9.cell 5
    have e6 := b9.cell 6
    have e7 := b9.cell 7
    have e8 := b9.cell 8
    have e9 := b9.cell 9
    have e10 := b9.cell 10
    have e11 := b9.cell 11
    have e12 := b9.cell 12
    simp only [List.getElem?_cons_zero, List.getElem?_cons_succ] at e0 e1 e2 e3 e4 e5 e6 e7 e8 e9 e10 e11 e12
    clear b9
    go_cut [6] (fun s6 W => ∃ (tb b7 o7 p7 : Nat), s6 = .pointer (some ⟨tb, 0, none⟩) ∧ Hd (MkE w cb rb tb [.string mm, .string tg, fl, .string bo, .bool cs, .int .i64 cn, .int .i64 sq, .int .i64 vr, .string hd, pr, aw, .bool fd, .string tk] [.int .i64 k, .slice a fs.length cap, .string bd, .bool cl] [.int .i64 k, .slice (some ⟨b7, o7, none⟩) (fs.length + 2) p7, .string bd, .bool (cl || cs)] fs a a5 b7 o7 ((xid, idB cn sq) :: (xver, itoaB vr) :: fs) W))
    case first =>
      go_region_law (first
        | (have _t := tokA
           refine step_func rfl 15 #[.tmp 23] #[25] rfl #[.func (.func 16) #[] #[.pointer (some ⟨rb, 0, none⟩)]] (by go_simp) (by go_simp) (.func (.func 27) #[] #[.pointer (some ⟨w5.heap.size, 0, none⟩)]) ?_
           refine (link_mark _ _ _ w5.drew).mono ?_
           rintro e w6 ⟨he, hw6⟩
           refine ⟨by rw [he]; rfl, ?_⟩
           have V6 : Hd (MkA w cb rb [.string mm, .string tg, fl, .string bo, .bool cs, .int .i64 cn, .int .i64 sq, .int .i64 vr, .string hd, pr, aw, .bool fd, .string tk] [.int .i64 k, .slice a fs.length cap, .string bd, .bool cl] fs a a5 w6 ∧ Upd [] w5 w6 ∧ Blk w6 w5.heap.size [.func (.func 16) #[] #[.pointer (some ⟨rb, 0, none⟩)]] 25 ∧ w5.heap.size < w6.heap.size) := Hd.mk (by
             have hu : Upd [] w5 w6 := by rw [hw6]; exact ((Upd.refl [] w5).drew).alloc _
             refine ⟨HA.out.up hu, hu, by rw [hw6]; exact Blk.new w5.drew _ _ _ rfl, by rw [hw6]; simp⟩)
           have b6 := V6.out.1.cb
           have b8 := V6.out.1.cb.alloc (.cells #[.int .i64 0, .slice none 0 0, .string ⟨#[]⟩, .bool false] 36)
           have g0 := b6.cell 0
           have g1 := b6.cell 1
           have g2 := b6.cell 2
           have g3 := b6.cell 3
           have g4 := b6.cell 4
           have g5 := b6.cell 5
           have g6 := b6.cell 6
           have g7 := b6.cell 7
           have g8 := b6.cell 8
           have g9 := b6.cell 9
           have g10 := b6.cell 10
           have g11 := b6.cell 11
           have g12 := b6.cell 12
           simp only [List.getElem?_cons_zero, List.getElem?_cons_succ] at g0 g1 g2 g3 g4 g5 g6 g7 g8 g9 g10 g11 g12
           have h0 := b8.cell 0
           have h1 := b8.cell 1
           have h2 := b8.cell 2
           have h3 := b8.cell 3
           have h4 := b8.cell 4
           have h5 := b8.cell 5
           have h6 := b8.cell 6
           have h7 := b8.cell 7
           have h8 := b8.cell 8
           have h9 := b8.cell 9
           have h10 := b8.cell 10
           have h11 := b8.cell 11
           have h12 := b8.cell 12
           simp only [List.getElem?_cons_zero, List.getElem?_cons_succ] at h0 h1 h2 h3 h4 h5 h6 h7 h8 h9 h10 h11 h12
           clear tokA _t he hw6 b6 b8)
        | (have _t := tokA
           refine step_func rfl 15 #[.tmp 23] #[25] rfl #[.func (.func 16) #[] #[.pointer (some ⟨rb, 0, none⟩)]] (by go_simp) (by go_simp) (.func (.func 27) #[] #[.pointer (some ⟨w5.heap.size + 1, 0, none⟩)]) ?_
           refine (link_mark _ _ _ (w5.alloc (.cells #[.int .i64 0, .slice none 0 0, .string ⟨#[]⟩, .bool false] 36)).drew).mono ?_
           rintro e w6 ⟨he, hw6⟩
           refine ⟨by rw [he, show (w5.alloc (.cells #[.int .i64 0, .slice none 0 0, .string ⟨#[]⟩, .bool false] 36)).drew.heap.size = w5.heap.size + 1 from (by show (w5.alloc _).heap.size = _; simp)], ?_⟩
           have Z6 : Hd (MkA w cb rb [.string mm, .string tg, fl, .string bo, .bool cs, .int .i64 cn, .int .i64 sq, .int .i64 vr, .string hd, pr, aw, .bool fd, .string tk] [.int .i64 k, .slice a fs.length cap, .string bd, .bool cl] fs a a5 w6 ∧ Upd [] w5 w6 ∧ Blk w6 (w5.heap.size + 1) [.func (.func 16) #[] #[.pointer (some ⟨rb, 0, none⟩)]] 25 ∧ w5.heap.size + 1 < w6.heap.size ∧ Blk w6 w5.heap.size [.int .i64 0, .slice none 0 0, .string ⟨#[]⟩, .bool false] 36) := Hd.mk (by
             have hu : Upd [] w5 w6 := by rw [hw6]; exact (((Upd.refl [] w5).alloc _).drew).alloc _
             refine ⟨HA.out.up hu, hu, by rw [hw6]; exact Blk.new _ _ _ _ (by show _ = (w5.alloc _).heap.size; simp), by rw [hw6]; show _ < ((w5.alloc _).drew.alloc _).heap.size; simp, ?_⟩
             rw [hw6]
             exact ((Blk.new w5 [.int .i64 0, .slice none 0 0, .string ⟨#[]⟩, .bool false] 36 _ rfl).drew).alloc _)
           have b6 := Z6.out.1.cb
           have g0 := b6.cell 0
           have g1 := b6.cell 1
           have g2 := b6.cell 2
           have g3 := b6.cell 3
           have g4 := b6.cell 4
           have g5 := b6.cell 5
           have g6 := b6.cell 6
           have g7 := b6.cell 7
           have g8 := b6.cell 8
           have g9 := b6.cell 9
           have g10 := b6.cell 10
           have g11 := b6.cell 11
           have g12 := b6.cell 12
           simp only [List.getElem?_cons_zero, List.getElem?_cons_succ] at g0 g1 g2 g3 g4 g5 g6 g7 g8 g9 g10 g11 g12
           clear tokA _t he hw6 b6)
        | (have _t := V6; clear _t
           refine step_fval2 rfl (.tmp 24) #[.tmp 25] #[34] rfl 27 #[.pointer (some ⟨w5.heap.size, 0, none⟩)] (by go_simp) #[(.agg #[.string mm, .string tg, fl, .string bo, .bool cs, .int .i64 cn, .int .i64 sq, .int .i64 vr, .string hd, pr, aw, .bool fd, .string tk])] (by go_simp) (by go_simp) ?_
           have hA6 := V6.out.1
           have hu6 : Upd [] w5 (w6) := V6.out.2.1
           have hb6 : Blk (w6) (w5.heap.size) [.func (.func 16) #[] #[.pointer (some ⟨rb, 0, none⟩)]] 25 := V6.out.2.2.1
           have hl6 : w5.heap.size < (w6).heap.size := hb6.lt
           refine (HMK.out (w5.heap.size) rb (w6) (HT.out.upd hA6.upd) (by omega) HOQ.out.1.1 HOQ.out.1.2.1 HOQ.out.1.2.2 (hb6.cell 0) hl6 (enters _ _ _ Tryd.func16 (by kernel_rfl) rfl) (fun W hu => HCL.out rb W (hu.blk hA6.rb (by simp)) (hA6.ra.upd hu))).mono ?_
           rintro e w7 ⟨a7, p7, he, r7, u7⟩
           refine ⟨_, he, ?_⟩
           clear he
           obtain ⟨b7, o7, rfl, hb7, hc7⟩ := r7 (by simp)
           simp only [Pc, List.length_cons, Nat.add_assoc, Nat.reduceAdd]
           have FIN : Hd (MkE w cb rb w7.heap.size [.string mm, .string tg, fl, .string bo, .bool cs, .int .i64 cn, .int .i64 sq, .int .i64 vr, .string hd, pr, aw, .bool fd, .string tk] [.int .i64 k, .slice a fs.length cap, .string bd, .bool cl] [.int .i64 k, .slice (some ⟨b7, o7, none⟩) (fs.length + 2) p7, .string bd, .bool (cl || cs)] fs a a5 b7 o7 ((xid, idB cn sq) :: (xver, itoaB vr) :: fs) (w7.alloc (.cells #[.int .i64 k, .slice (some ⟨b7, o7, none⟩) (fs.length + 2) p7, .string bd, .bool (cl || cs)] 36))) := Hd.mk (mk_fin1 HA.out hu6 u7 ⟨hb7, hc7⟩)
           clear r7 u7 hb7 hc7 hA6 hu6 hb6 hl6)
        | (have _t := V6; clear _t
           refine step_fval2 rfl (.tmp 24) #[.tmp 25] #[34] rfl 27 #[.pointer (some ⟨w5.heap.size, 0, none⟩)] (by go_simp) #[(.agg #[.string mm, .string tg, fl, .string bo, .bool cs, .int .i64 cn, .int .i64 sq, .int .i64 vr, .string hd, pr, aw, .bool fd, .string tk])] (by go_simp) (by go_simp) ?_
           have hA6 := V6.out.1.up ((Upd.refl [] w6).alloc (.cells #[.int .i64 0, .slice none 0 0, .string ⟨#[]⟩, .bool false] 36))
           have hu6 : Upd [] w5 (w6.alloc (.cells #[.int .i64 0, .slice none 0 0, .string ⟨#[]⟩, .bool false] 36)) := V6.out.2.1.alloc _
           have hb6 : Blk (w6.alloc (.cells #[.int .i64 0, .slice none 0 0, .string ⟨#[]⟩, .bool false] 36)) (w5.heap.size) [.func (.func 16) #[] #[.pointer (some ⟨rb, 0, none⟩)]] 25 := V6.out.2.2.1.alloc _
           have hl6 : w5.heap.size < (w6.alloc (.cells #[.int .i64 0, .slice none 0 0, .string ⟨#[]⟩, .bool false] 36)).heap.size := hb6.lt
           refine (HMK.out (w5.heap.size) rb (w6.alloc (.cells #[.int .i64 0, .slice none 0 0, .string ⟨#[]⟩, .bool false] 36)) (HT.out.upd hA6.upd) (by omega) HOQ.out.1.1 HOQ.out.1.2.1 HOQ.out.1.2.2 (hb6.cell 0) hl6 (enters _ _ _ Tryd.func16 (by kernel_rfl) rfl) (fun W hu => HCL.out rb W (hu.blk hA6.rb (by simp)) (hA6.ra.upd hu))).mono ?_
           rintro e w7 ⟨a7, p7, he, r7, u7⟩
           refine ⟨_, he, ?_⟩
           clear he
           obtain ⟨b7, o7, rfl, hb7, hc7⟩ := r7 (by simp)
           simp only [Pc, List.length_cons, Nat.add_assoc, Nat.reduceAdd]
           have Z7 : Hd (Blk w7 w6.heap.size [.int .i64 0, .slice none 0 0, .string ⟨#[]⟩, .bool false] 36) := Hd.mk (u7.blk (Blk.new w6 [.int .i64 0, .slice none 0 0, .string ⟨#[]⟩, .bool false] 36 _ rfl) (by simp))
           have FIN : Hd (MkE w cb rb w6.heap.size [.string mm, .string tg, fl, .string bo, .bool cs, .int .i64 cn, .int .i64 sq, .int .i64 vr, .string hd, pr, aw, .bool fd, .string tk] [.int .i64 k, .slice a fs.length cap, .string bd, .bool cl] [.int .i64 k, .slice (some ⟨b7, o7, none⟩) (fs.length + 2) p7, .string bd, .bool (cl || cs)] fs a a5 b7 o7 ((xid, idB cn sq) :: (xver, itoaB vr) :: fs) ((((w7.setCell ⟨w6.heap.size, 0, none⟩ (.int .i64 k)).setCell ⟨w6.heap.size, 1, none⟩ (.slice (some ⟨b7, o7, none⟩) (fs.length + 2) p7)).setCell ⟨w6.heap.size, 2, none⟩ (.string bd)).setCell ⟨w6.heap.size, 3, none⟩ (.bool (cl || cs)))) := Hd.mk (mk_fin2 HA.out hu6 u7 ⟨hb7, hc7⟩ Z7.out V6.out.2.1.size)
           have z7 := Z7.out
           have q0 := z7.cell 0
           have q1 := z7.cell 1
           have q2 := z7.cell 2
           have q3 := z7.cell 3
           have p0 := z7.free 0
           have p1 := z7.free 1
           have p2 := z7.free 2
           have p3 := z7.free 3
           simp only [List.getElem?_cons_zero, List.getElem?_cons_succ] at q0 q1 q2 q3
           clear z7
           clear r7 u7 hb7 hc7 hA6 hu6 hb6 hl6)
        | (have _t := Z6; clear _t
           refine step_fval2 rfl (.tmp 24) #[.tmp 25] #[34] rfl 27 #[.pointer (some ⟨w5.heap.size + 1, 0, none⟩)] (by go_simp) #[(.agg #[.string mm, .string tg, fl, .string bo, .bool cs, .int .i64 cn, .int .i64 sq, .int .i64 vr, .string hd, pr, aw, .bool fd, .string tk])] (by go_simp) (by go_simp) ?_
           have hA6 := Z6.out.1
           have hu6 : Upd [] w5 (w6) := Z6.out.2.1
           have hb6 : Blk (w6) (w5.heap.size + 1) [.func (.func 16) #[] #[.pointer (some ⟨rb, 0, none⟩)]] 25 := Z6.out.2.2.1
           have hl6 : w5.heap.size + 1 < (w6).heap.size := hb6.lt
           refine (HMK.out (w5.heap.size + 1) rb (w6) (HT.out.upd hA6.upd) (by omega) HOQ.out.1.1 HOQ.out.1.2.1 HOQ.out.1.2.2 (hb6.cell 0) hl6 (enters _ _ _ Tryd.func16 (by kernel_rfl) rfl) (fun W hu => HCL.out rb W (hu.blk hA6.rb (by simp)) (hA6.ra.upd hu))).mono ?_
           rintro e w7 ⟨a7, p7, he, r7, u7⟩
           refine ⟨_, he, ?_⟩
           clear he
           obtain ⟨b7, o7, rfl, hb7, hc7⟩ := r7 (by simp)
           simp only [Pc, List.length_cons, Nat.add_assoc, Nat.reduceAdd]
           have Z7 : Hd (Blk w7 w5.heap.size [.int .i64 0, .slice none 0 0, .string ⟨#[]⟩, .bool false] 36) := Hd.mk (u7.blk Z6.out.2.2.2.2 (by simp))
           have FIN : Hd (MkE w cb rb w5.heap.size [.string mm, .string tg, fl, .string bo, .bool cs, .int .i64 cn, .int .i64 sq, .int .i64 vr, .string hd, pr, aw, .bool fd, .string tk] [.int .i64 k, .slice a fs.length cap, .string bd, .bool cl] [.int .i64 k, .slice (some ⟨b7, o7, none⟩) (fs.length + 2) p7, .string bd, .bool (cl || cs)] fs a a5 b7 o7 ((xid, idB cn sq) :: (xver, itoaB vr) :: fs) ((((w7.setCell ⟨w5.heap.size, 0, none⟩ (.int .i64 k)).setCell ⟨w5.heap.size, 1, none⟩ (.slice (some ⟨b7, o7, none⟩) (fs.length + 2) p7)).setCell ⟨w5.heap.size, 2, none⟩ (.string bd)).setCell ⟨w5.heap.size, 3, none⟩ (.bool (cl || cs)))) := Hd.mk (mk_fin2 HA.out hu6 u7 ⟨hb7, hc7⟩ Z7.out (Nat.le_refl _))
           have z7 := Z7.out
           have q0 := z7.cell 0
           have q1 := z7.cell 1
           have q2 := z7.cell 2
           have q3 := z7.cell 3
           have p0 := z7.free 0
           have p1 := z7.free 1
           have p2 := z7.free 2
           have p3 := z7.free 3
           simp only [List.getElem?_cons_zero, List.getElem?_cons_succ] at q0 q1 q2 q3
           clear z7
           clear r7 u7 hb7 hc7 hA6 hu6 hb6 hl6)
        )
      all_goals
        go_wp2_with fail
        go_meet
        case rel => exact ⟨_, b7, o7, p7, rfl, FIN⟩
    case rest =>
      obtain ⟨tb, b7, o7, p7, rfl, HE⟩ := hcut
      clear HLT HCL HMK HA HRF HX
      obtain ⟨cq, hcq⟩ : ∃ q, (cl || cs) = q := ⟨_, rfl⟩
      have HCQ := Hd.mk hcq
      obtain ⟨R, hR⟩ : ∃ R : World → Prop, R = MkE w cb rb tb [.string mm, .string tg, fl, .string bo, .bool cs, .int .i64 cn, .int .i64 sq, .int .i64 vr, .string hd, pr, aw, .bool fd, .string tk] [.int .i64 k, .slice a fs.length cap, .string bd, .bool cl] [.int .i64 k, .slice (some ⟨b7, o7, none⟩) (fs.length + 2) p7, .string bd, .bool (cl || cs)] fs a a5 b7 o7 ((xid, idB cn sq) :: (xver, itoaB vr) :: fs) := ⟨_, rfl⟩
      have hRW : ∀ W, R W → MkE w cb rb tb [.string mm, .string tg, fl, .string bo, .bool cs, .int .i64 cn, .int .i64 sq, .int .i64 vr, .string hd, pr, aw, .bool fd, .string tk] [.int .i64 k, .slice a fs.length cap, .string bd, .bool cl] [.int .i64 k, .slice (some ⟨b7, o7, none⟩) (fs.length + 2) p7, .string bd, .bool (cl || cs)] fs a a5 b7 o7 ((xid, idB cn sq) :: (xver, itoaB vr) :: fs) W := fun W h => by rw [hR] at h; exact h
      have HRW := Hd.mk hRW
      have hRM : ∀ x : Cls R, MkE w cb rb tb [.string mm, .string tg, fl, .string bo, .bool cs, .int .i64 cn, .int .i64 sq, .int .i64 vr, .string hd, pr, aw, .bool fd, .string tk] [.int .i64 k, .slice a fs.length cap, .string bd, .bool cl] [.int .i64 k, .slice (some ⟨b7, o7, none⟩) (fs.length + 2) p7, .string bd, .bool (cl || cs)] fs a a5 b7 o7 ((xid, idB cn sq) :: (xver, itoaB vr) :: fs) x.w := fun x => hRW x.w x.ok
      have hR0 : R wc.drew := by rw [hR]; exact HE.out.up ((Upd.refl [] wc).drew)
      have hup : ∀ (x : Cls R) w', Upd [] x.w w' → R w' := fun x w' hu => by rw [hR]; exact (hRM x).up hu
      have c5 : ∀ x : Cls R, x.w.cell? ⟨cb, 5, none⟩ = some (.int .i64 cn) := fun x => (hRM x).cb.cell 5
      have c6 : ∀ x : Cls R, x.w.cell? ⟨cb, 6, none⟩ = some (.int .i64 sq) := fun x => (hRM x).cb.cell 6
      have c7 : ∀ x : Cls R, x.w.cell? ⟨cb, 7, none⟩ = some (.int .i64 vr) := fun x => (hRM x).cb.cell 7
      have d1 : ∀ x : Cls R, x.w.cell? ⟨tb, 1, none⟩ = some (.slice (some ⟨b7, o7, none⟩) (fs.length + 2) p7) := fun x => (hRM x).tb.cell 1
      obtain ⟨i1, hi1⟩ : ∃ t, itoaB cn = t := ⟨_, rfl⟩
      obtain ⟨i2, hi2⟩ : ∃ t, itoaB sq = t := ⟨_, rfl⟩
      obtain ⟨i3, hi3⟩ : ∃ t, itoaB vr = t := ⟨_, rfl⟩
      have z1 := itoaB_size cn HOQ.out.1.1.1 HOQ.out.1.1.2
      have z2 := itoaB_size sq HOQ.out.1.2.1.1 HOQ.out.1.2.1.2
      have z3 := itoaB_size vr HOQ.out.1.2.2.1 HOQ.out.1.2.2.2
      rw [hi1] at z1
      rw [hi2] at z2
      rw [hi3] at z3
      obtain ⟨idb, hid⟩ : ∃ t, idB cn sq = t := ⟨_, rfl⟩
      have y1 := str_yes (show idb = i1 ++ ⟨#[45]⟩ ++ i2 by rw [← hid, ← hi1, ← hi2]; rfl)
      have y2 := str_yes (rfl : i3 = i3)
      have g0 : ∀ x : Cls R, x.w.cell? ⟨b7, o7, none⟩ = some (.string xid) := fun x => ((hRM x).at'.2 0 (by simp)).1
      have g1 : ∀ x : Cls R, x.w.cell? ⟨b7, o7 + 1, none⟩ = some (.string idb) := fun x => by rw [← hid]; exact ((hRM x).at'.2 0 (by simp)).2
      have g3 : ∀ x : Cls R, x.w.cell? ⟨b7, o7 + 2 + 1, none⟩ = some (.string i3) := fun x => by rw [← hi3]; exact ((hRM x).at'.2 1 (by simp)).2
      have g4 : ∀ x : Cls R, x.w.cell? ⟨b7, o7 + 3, none⟩ = some (.string i3) := g3
      have HD1 := Hd.mk (show ∀ x : Cls R, Calls Tryd.prog 10 #[.int .i64 cn] x.w fun e w'' => e = .returned (.string i1) ∧ ∃ y : Cls R, w'' = y.w from fun x => Calls.cls (digits_ok cn HOQ.out.2.1 HOQ.out.1.1.2 x.w) (fun e w' h => ⟨h.1.trans (by rw [hi1]), hup x w' h.2⟩))
      have HD2 := Hd.mk (show ∀ x : Cls R, Calls Tryd.prog 10 #[.int .i64 sq] x.w fun e w'' => e = .returned (.string i2) ∧ ∃ y : Cls R, w'' = y.w from fun x => Calls.cls (digits_ok sq HOQ.out.2.2.1 HOQ.out.1.2.1.2 x.w) (fun e w' h => ⟨h.1.trans (by rw [hi2]), hup x w' h.2⟩))
      have HD3 := Hd.mk (show ∀ x : Cls R, Calls Tryd.prog 10 #[.int .i64 vr] x.w fun e w'' => e = .returned (.string i3) ∧ ∃ y : Cls R, w'' = y.w from fun x => Calls.cls (digits_ok vr HOQ.out.2.2.2 HOQ.out.1.2.2.2 x.w) (fun e w' h => ⟨h.1.trans (by rw [hi3]), hup x w' h.2⟩))
      have y3 := lit_yes (show xid.data.toList = [120, 45, 105, 100] from rfl)
      obtain ⟨xx, hxx⟩ : ∃ t, xid = t := ⟨_, rfl⟩
      rw [hxx] at y3 g0
      have hnn : ((fs.length : Int) + 2 != (fs.length : Int) + 2) = false := by simp
      clear hup hi1 hi2 hi3 hid hRM hRW hR HE hcq hxx
      go_upto_region 7 with (fail)
      refine wp_region_cls R hR0 (by kernel_rfl) (by kernel_rfl) (fun _ => ?_)
      repeat (go_big_quiet_step (first | (go_at_call 10; rename_i x; with_reducible exact HD1.out x) | (go_at_call 10; rename_i x; with_reducible exact HD2.out x) | (go_at_call 10; rename_i x; with_reducible exact HD3.out x)))
      refine wpQuiet_nil ?_
      intro _ hw'
      obtain ⟨nq, hw''⟩ := hw'
      subst hw''
      clear HD1 HD2 HD3 c5 c6 c7 d1 g0 g1 g3 g4 hR0
      have HE := Hd.mk (HRW.out _ nq.ok)
      clear HRW y1 y2 y3 z1 z2 z3
      generalize nq.w = w8 at HE ⊢
      go_upto_region 9 with (fail)
      go_wp2_with fail
      go_loopg [71] fs.length (fun g ii wr => ∃ i : Nat, g + i = fs.length ∧ ii = .int .i64 i ∧ Hd (MkE w cb rb tb [.string mm, .string tg, fl, .string bo, .bool cs, .int .i64 cn, .int .i64 sq, .int .i64 vr, .string hd, pr, aw, .bool fd, .string tk] [.int .i64 k, .slice a fs.length cap, .string bd, .bool cl] [.int .i64 k, .slice (some ⟨b7, o7, none⟩) (fs.length + 2) p7, .string bd, .bool (cl || cs)] fs a a5 b7 o7 ((xid, idB cn sq) :: (xver, itoaB vr) :: fs) wr))
      case atStart => exact ⟨0, by omega, rfl, HE⟩
      case round =>
        clear HE
        obtain ⟨i, hg, rfl, HE⟩ := hrel
        by_cases hi : i < fs.length
        · obtain ⟨b1, o1, rfl, hb1, hc1⟩ := HE.out.ra (by omega)
          obtain ⟨b5, o5, rfl, hb5, hc5⟩ := HE.out.rc (by omega)
          have HG := Hd.mk hg
          have k0 := (hc5 i hi).1
          have k1 := (hc5 i hi).2
          generalize hnm : fs[i].1 = nm at k0
          generalize hvl : fs[i].2 = vl at k1
          have HN := Hd.mk (And.intro hnm hvl)
          clear hc1 hc5 hb1 hb5 hg hnm hvl
          go_upto_region 12 with (fail)
          refine wp_abs (fun W => MkE w cb rb tb [.string mm, .string tg, fl, .string bo, .bool cs, .int .i64 cn, .int .i64 sq, .int .i64 vr, .string hd, pr, aw, .bool fd, .string tk] [.int .i64 k, .slice (some ⟨b1, o1, none⟩) fs.length cap, .string bd, .bool cl] [.int .i64 k, .slice (some ⟨b7, o7, none⟩) (fs.length + 2) p7, .string bd, .bool (cl || cs)] fs (some ⟨b1, o1, none⟩) (some ⟨b5, o5, none⟩) b7 o7 ((xid, idB cn sq) :: (xver, itoaB vr) :: fs) W ∧ Blk W wr.heap.size [.string nm, .string vl] 44) ⟨HE.out.up ((Upd.refl [] wr).alloc _), Blk.new wr [.string nm, .string vl] 44 _ rfl⟩ ?_
          clear k0 k1 HE
          generalize wr.heap.size = fb
          rintro w9 ⟨h9, t9⟩
          have HE := Hd.mk h9
          obtain ⟨m0, m1⟩ := h9.ra.at i hi
          obtain ⟨q0, q1⟩ := h9.at'.2 (i + 2) (by simp; omega)
          simp only [List.getElem_cons_succ, HN.out.1, HN.out.2] at m0 m1 q0 q1
          have b2 := h9.tb.cell 1
          have b3 := h9.rb.cell 1
          have t0 := t9.cell 0
          have t1 := t9.cell 1
          simp only [List.getElem?_cons_zero, List.getElem?_cons_succ] at b2 b3 t0 t1
          clear h9 t9
          go_quiet (fail)
          clear b2 b3 t0 t1 m0 m1 q0 q1
          have HE := Hd.mk (HE.out.up ((Upd.refl [] w9).drewN nq))
          generalize w9.drewN nq = w10 at HE ⊢
          go_wp2_with fail
          go_roundg (gk - 1)
          case measure => have := HG.out; omega
          case rel => exact ⟨i + 1, by have := HG.out; omega, by go_num, HE⟩
        · obtain rfl : i = fs.length := by omega
          clear hi hg
          have b2 := HE.out.tb
          have b3 := HE.out.rb
          have b1 := HE.out.cb
          have c0 := b1.cell 0
          have c1 := b1.cell 1
          have c2 := b1.cell 2
          have c3 := b1.cell 3
          have c4 := b1.cell 4
          have c5 := b1.cell 5
          have c6 := b1.cell 6
          have c7 := b1.cell 7
          have c8 := b1.cell 8
          have c9 := b1.cell 9
          have c10 := b1.cell 10
          have c11 := b1.cell 11
          have c12 := b1.cell 12
          simp only [List.getElem?_cons_zero, List.getElem?_cons_succ] at c0 c1 c2 c3 c4 c5 c6 c7 c8 c9 c10 c11 c12
          have d0 := b2.cell 0
          have d1 := b2.cell 1
          have d2 := b2.cell 2
          have d3 := b2.cell 3
          simp only [List.getElem?_cons_zero, List.getElem?_cons_succ] at d0 d1 d2 d3
          have e0 := b3.cell 0
          have e1 := b3.cell 1
          have e2 := b3.cell 2
          have e3 := b3.cell 3
          simp only [List.getElem?_cons_zero, List.getElem?_cons_succ] at e0 e1 e2 e3
          clear b1 b2 b3
          have y1 := str_yes (rfl : bd = bd)
          have y2 : (k == k) = true := by simp
          cases cl with
          | false =>
            have y4 : (cs == cs) = true := by simp
            go_wp2_with fail
            go_ret
            exact ⟨rfl, HE.out.upd⟩
          | true =>
            go_wp2_with fail
            go_ret
            exact ⟨rfl, HE.out.upd⟩
theorem marks_row (cs ds : Array Value) (w : World) (hT : Tab w) (hz : Leaf.oks w [.str, .str, .sl [.str, .str], .str, .bool, .int .i64, .int .i64, .int .i64, .str, .sl [.str, .str], .sl [.str], .bool, .str] cs.toList) (hz' : Leaf.oks w [.int .i64, .sl [.str, .str], .str, .bool] ds.toList) :
    Calls Tryd.prog 4 #[.agg cs, .agg ds] w fun e w' => e = .returned (.bool true) ∧ Below w.heap.size w w' := by
  obtain ⟨c, fa, aa, fcap, acap, fs, xs, hcs, hC⟩ := leaf_call hz
  obtain ⟨k, a, cap, bd, cl, gs, hds, hn, hr⟩ := leaf_resp2 hz'
  have h := marks_walk c fa aa fcap acap fs xs k a gs cap bd cl w hn hr hC hT
  rw [← hcs, ← hds] at h
  exact h.mono fun _ _ h => ⟨h.1, h.2.nil_below⟩
end Go.Proofs.YtghjdjbjdjbkkaaDoor
