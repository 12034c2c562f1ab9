/- ChainAlone: a handle behind no links is that handle. -/
import Derived.Test.YtghjdjbjdjbkkaaDoorK5
namespace Go.Proofs.YtghjdjbjdjbkkaaDoor
set_option linter.unusedSimpArgs false
set_option linter.unusedVariables false
set_option linter.unnecessarySimpa false
open Go.RowKit BigFrame

theorem rb_ {a b : Bool} (h : a = b) : Ending.returned (.bool a) = .returned (.bool b) := by rw [h]
theorem leaf_call {w : World} {cs : List Value} (h : Leaf.oks w [.str, .str, .sl [.str, .str], .str, .bool, .int .i64, .int .i64, .int .i64, .str, .sl [.str, .str], .sl [.str], .bool, .str] cs) :
    ∃ (c : Cc) (fa aa : Option Addr) (fcap acap : Nat) (fs : List (ByteArray × ByteArray)) (xs : List ByteArray), cs = c.cells ∧ CameC w c fa fcap fs aa acap xs := by
  simp only [Leaf.oks] at h
  obtain ⟨_, _, rfl, h1, _, _, rfl, h2, _, _, rfl, h3, _, _, rfl, h4, _, _, rfl, h5, _, _, rfl, h6, _, _, rfl, h7, _, _, rfl, h8, _, _, rfl, h9, pr, _, rfl, h10, _, _, rfl, h11, _, _, rfl, h12, _, _, rfl, h13, rfl⟩ := h
  have h3' := h3
  have h11' := h11
  simp only [Leaf.ok] at h1 h2 h3' h4 h5 h6 h7 h8 h9 h11' h12 h13
  obtain ⟨mm, rfl, z1⟩ := h1
  obtain ⟨tg, rfl, z2⟩ := h2
  obtain ⟨fa, fn, fcap, _, rfl, -⟩ := h3'
  obtain ⟨bo, rfl, z3⟩ := h4
  obtain ⟨cs, rfl⟩ := h5
  obtain ⟨cn, rfl, k1⟩ := h6
  obtain ⟨sq, rfl, k2⟩ := h7
  obtain ⟨vr, rfl, k3⟩ := h8
  obtain ⟨hd, rfl, -⟩ := h9
  obtain ⟨aa, an, acap, _, rfl, -⟩ := h11'
  obtain ⟨fd, rfl⟩ := h12
  obtain ⟨tk, rfl, z4⟩ := h13
  obtain ⟨fs, rfl, f1, f2, f3⟩ := leaf_fs h3
  obtain ⟨xs, rfl, a1, a2, a3⟩ := leaf_ss h11
  exact ⟨⟨mm, tg, .slice fa fs.length fcap, bo, cs, cn, sq, vr, hd, pr, .slice aa xs.length acap, fd, tk⟩, fa, aa, fcap, acap, fs, xs, rfl, ⟨rfl, rfl, f1, a1, f3, a3, f2, a2, z1, z2, z3, z4, k1, k2, k3⟩⟩
theorem leaf_resp {w : World} {ds : List Value} (h : Leaf.oks w [.int .i64, .sl [.str, .str], .str, .bool] ds) : ∃ k a n cap bd cl, ds = Pc k a n cap bd cl ∧ n ≤ 140737488351232 := by
  simp only [Leaf.oks] at h
  obtain ⟨_, _, rfl, h1, _, _, rfl, h2, _, _, rfl, h3, _, _, rfl, h4, rfl⟩ := h
  simp only [Leaf.ok] at h1 h2 h3 h4
  obtain ⟨k, rfl, hk⟩ := h1
  obtain ⟨a, n, cap, _, rfl, -, -, hn, -⟩ := h2
  obtain ⟨x, rfl, hx⟩ := h3
  obtain ⟨cl, rfl⟩ := h4
  exact ⟨k, a, n, cap, x, cl, rfl, hn⟩
/-- A call of a function value, as a step of a region. -/
theorem step_fval {P : Program} {ops : Array Oper} {o : Oper} {a : Act} {w : World} {K : Act → World → Prop} {Q : Exit → Act → World → Prop} {E : Prop} (hgd : o.guard = none) (x : Operand) (xs : Array Operand) (ts : Array TypeId)
    (ho : o.op = .call { callee := .value x, args := xs, argTypes := ts }) (g : FuncId) (cap : Array Value) (hx : a.eval x = .func (.func g) #[] cap) (vals : Array Value) (hv : xs.map a.eval = vals) (hcf : (callFunc g (#[] ++ vals ++ cap)).run P w = .ok (.enter g (vals ++ cap)) w) (v : Value) (h : Calls P g (vals ++ cap) w fun e w' => e = .returned v ∧ K (a.put o.dst v) w') :
    if Region.wanted o (yielded ops a.tmps) = true then Oper.wp P o a w K Q else E := by
  have hw : Region.wanted o (yielded ops a.tmps) = true := by simp [Region.wanted, hgd]
  rw [if_pos hw]
  subst hv
  have key : (execOp a.eval o).run P w = .ok (.enter g (xs.map a.eval ++ cap)) w := by
    rw [← hcf]
    unfold execOp
    simp only [ho, resolve, hx, Sem.run_bind, Sem.run_pure, Result.andThen_ok, invoke]
    simp [Deferred.ofValue]
  unfold Oper.wp
  rw [key]
  exact h.mono fun e w' h' => by obtain ⟨rfl, h2⟩ := h'; exact h2
set_option maxRecDepth 100000 in
set_option maxHeartbeats 2000000 in
theorem clo_ok (c : Cc) (k : Int) (a : Option Addr) (n cap : Nat) (bd : ByteArray) (cl : Bool) (cb nb rb : Nat) (w : World) (hc : Blk w cb c.cells 34) (hn : Blk w nb [.int .i64 0] 3) (hr : Blk w rb (Pc k a n cap bd cl) 36) :
    Calls Tryd.prog 20 #[.agg c.cells.toArray, .pointer (some ⟨cb, 0, none⟩), .pointer (some ⟨nb, 0, none⟩), .pointer (some ⟨rb, 0, none⟩)] w fun e w' => e = .returned (.agg (Pc k a n cap bd cl).toArray) ∧ Upd [nb] w w' ∧ Blk w' nb [.int .i64 1] 3 := by
  have B1 := Blk.new w c.cells 34 _ rfl
  have U1 := (Upd.refl [] w).alloc (.cells c.cells.toArray 34)
  have B2 := Blk.new (w.alloc (.cells c.cells.toArray 34)) [.int .i64 0, .slice none 0 0, .string ⟨#[]⟩, .bool false] 36 (w.heap.size + 1) (by simp)
  have U2 := U1.alloc (.cells #[.int .i64 0, .slice none 0 0, .string ⟨#[]⟩, .bool false] 36)
  have D1 := B1.alloc (.cells #[.int .i64 0, .slice none 0 0, .string ⟨#[]⟩, .bool false] 36)
  have hc2 := U2.blk hc (by simp)
  have hn2 := U2.blk hn (by simp)
  have hr2 := U2.blk hr (by simp)
  have hl1 := hc.lt
  have hl2 := hn.lt
  have hl3 := hr.lt
  have HB := Hd.mk (And.intro D1 (And.intro B2 (And.intro U2 (And.intro hc2 (And.intro hn2 hr2)))))
  have HL := Hd.mk (And.intro hl1 (And.intro hl2 hl3))
  clear B1 B2 U1 U2 D1 hc2 hn2 hr2 hc hn hr hl1 hl2 hl3
  obtain ⟨mm, tg, fl, bo, cs, cn, sq, vr, hd, pr, aw, fd, tk⟩ := c
  simp only [Cc.cells, Pc] at *
  go_enter Tryd.func20, Tryd.ntmps20
  go_upto_region 1 with (fail)
  refine wp_abs (fun W => (Blk W w.heap.size [.string mm, .string tg, fl, .string bo, .bool cs, .int .i64 cn, .int .i64 sq, .int .i64 vr, .string hd, pr, aw, .bool fd, .string tk] 34 ∧ Blk W (w.heap.size + 1) [.int .i64 0, .slice none 0 0, .string ⟨#[]⟩, .bool false] 36 ∧ Upd [] w W ∧ Blk W cb [.string mm, .string tg, fl, .string bo, .bool cs, .int .i64 cn, .int .i64 sq, .int .i64 vr, .string hd, pr, aw, .bool fd, .string tk] 34 ∧ Blk W nb [.int .i64 0] 3 ∧ Blk W rb [.int .i64 k, .slice a n cap, .string bd, .bool cl] 36)) HB.out ?_
  clear HB
  obtain ⟨x2, hx2⟩ : ∃ x, w.heap.size + 1 = x := ⟨_, rfl⟩
  obtain ⟨x1, hx1⟩ : ∃ x, w.heap.size = x := ⟨_, rfl⟩
  rw [hx2, hx1]
  rw [hx1] at HL
  have HX := Hd.mk (And.intro hx1 hx2)
  clear hx1 hx2
  rintro w1 ⟨b1, b2, u1, bc, bn, br⟩
  have HB := Hd.mk (And.intro b1 (And.intro b2 (And.intro u1 (And.intro bc (And.intro bn br)))))
  have c0 := b1.cell 0
  have c1 := b1.cell 1
  have c2 := b1.cell 2
  have c3 := b1.cell 3
  have c4 := b1.cell 4
  have c5 := b1.cell 5
  have c6 := b1.cell 6
  have c7 := b1.cell 7
  have c8 := b1.cell 8
  have c9 := b1.cell 9
  have c10 := b1.cell 10
  have c11 := b1.cell 11
  have c12 := b1.cell 12
  simp only [List.getElem?_cons_zero, List.getElem?_cons_succ] at c0 c1 c2 c3 c4 c5 c6 c7 c8 c9 c10 c11 c12
  have d0 := b2.cell 0
  have d1 := b2.cell 1
  have d2 := b2.cell 2
  have d3 := b2.cell 3
  simp only [List.getElem?_cons_zero, List.getElem?_cons_succ] at d0 d1 d2 d3
  have e0 := bc.cell 0
  have e1 := bc.cell 1
  have e2 := bc.cell 2
  have e3 := bc.cell 3
  have e4 := bc.cell 4
  have e5 := bc.cell 5
  have e6 := bc.cell 6
  have e7 := bc.cell 7
  have e8 := bc.cell 8
  have e9 := bc.cell 9
  have e10 := bc.cell 10
  have e11 := bc.cell 11
  have e12 := bc.cell 12
  simp only [List.getElem?_cons_zero, List.getElem?_cons_succ] at e0 e1 e2 e3 e4 e5 e6 e7 e8 e9 e10 e11 e12
  have n0 := bn.cell 0
  simp only [List.getElem?_cons_zero, List.getElem?_cons_succ] at n0
  have r0 := br.cell 0
  have r1 := br.cell 1
  have r2 := br.cell 2
  have r3 := br.cell 3
  simp only [List.getElem?_cons_zero, List.getElem?_cons_succ] at r0 r1 r2 r3
  have fn := bn.free 0
  have f0 := b2.free 0
  have f1 := b2.free 1
  have f2 := b2.free 2
  have f3 := b2.free 3
  have g1 : nb ≠ x2 := by have := HL.out; have := HX.out; omega
  have g2 : x2 ≠ nb := fun e => g1 e.symm
  have g3 : rb ≠ nb := fun e => by
    rw [e] at br
    exact absurd (br.uniq bn).2 (by decide)
  have g4 : nb ≠ rb := fun e => g3 e.symm
  clear b1 b2 u1 bc bn br
  have y1 := str_yes (rfl : tg = tg)
  have y2 : (cn == cn) = true := by simp
  go_wp2_with fail
  have HN1 := Hd.mk (show w.heap.size ≤ x2 by have := HX.out; omega)
  refine bodyPost_ret (results_cell _ _ _ 5 36 x2 (Pc k a n cap bd cl) 36 rfl rfl (Blk.set4 (HB.out.2.1.set_ne ⟨nb, 0, none⟩ _ g2) rfl _ _ _ _) (by kernel_rfl) (by kernel_rfl)) rfl ⟨rfl, ?_, ?_⟩
  · have h0 : Upd [nb] w w1 := HB.out.2.2.1.mono (by simp)
    have h1 := h0.set ⟨nb, 0, none⟩ (.int .i64 1) (by simp)
    have hx : ∀ j v, ∀ W, Upd [nb] w W → Upd [nb] w (W.setCell ⟨x2, j, none⟩ v) := fun j v W h => h.set _ _ (fun q => by have := HN1.out; simp at q; omega)
    exact hx _ _ _ (hx _ _ _ (hx _ _ _ (hx _ _ _ h1)))
  · exact ((((HB.out.2.2.2.2.1.set 0 (.int .i64 1)).set_ne _ _ g1).set_ne _ _ g1).set_ne _ _ g1).set_ne _ _ g1
def Alw (w : World) (cb rb nb : Nat) (cs ds : List Value) (W : World) : Prop := Blk W cb cs 34 ∧ Blk W rb ds 36 ∧ Blk W nb [.int .i64 0] 3 ∧ Upd [] w W
theorem Alw.up {w W W' : World} {cb rb nb : Nat} {cs ds : List Value} (h : Alw w cb rb nb cs ds W) (hu : Upd [] W W') : Alw w cb rb nb cs ds W' := ⟨hu.blk h.1 (by simp), hu.blk h.2.1 (by simp), hu.blk h.2.2.1 (by simp), h.2.2.2.trans hu (by simp)⟩
/-- Behind the handle: it was called once, both answers stand. -/
def AlE (w : World) (rb nb tb : Nat) (ds : List Value) (W : World) : Prop := Blk W rb ds 36 ∧ Blk W tb ds 36 ∧ Blk W nb [.int .i64 1] 3 ∧ Upd [] w W
theorem Alw.apart {w W : World} {cb rb nb : Nat} {cs ds : List Value} (h : Alw w cb rb nb cs ds W) : rb ≠ nb := fun e => by
  have h1 := h.2.1
  rw [e] at h1
  exact absurd (h1.uniq h.2.2.1).2 (by decide)
theorem fin1 {w w4 w6 : World} {cb rb nb : Nat} {cs ds : List Value} (h : Alw w cb rb nb cs ds w4) (h6 : Upd [nb] w4 w6 ∧ Blk w6 nb [.int .i64 1] 3) (hn : w.heap.size ≤ nb) : AlE w rb nb w6.heap.size ds (w6.alloc (.cells ds.toArray 36)) :=
  ⟨(h6.1.blk h.2.1 (by rw [List.mem_singleton]; exact h.apart)).alloc _, Blk.new w6 ds _ _ rfl, h6.2.alloc _, (h.2.2.2.trans h6.1 (fun k hk e => by rw [List.mem_singleton] at e; omega)).alloc _⟩
theorem fin2 {w w4 w6 : World} {cb rb nb : Nat} {cs zs : List Value} {x y z u : Value} (h : Alw w cb rb nb cs [x, y, z, u] w4) (h6 : Upd [nb] w4 w6 ∧ Blk w6 nb [.int .i64 1] 3) (hn : w.heap.size ≤ nb) (hz : Blk w6 w4.heap.size zs 36) (hl : zs.length = 4) :
    AlE w rb nb w4.heap.size [x, y, z, u] ((((w6.setCell ⟨w4.heap.size, 0, none⟩ x).setCell ⟨w4.heap.size, 1, none⟩ y).setCell ⟨w4.heap.size, 2, none⟩ z).setCell ⟨w4.heap.size, 3, none⟩ u) := by
  have h1 := h.2.1.lt
  have h2 := h.2.2.1.lt
  have h3 := h.2.2.2.size
  have hu : Upd [] w w6 := h.2.2.2.trans h6.1 (fun k hk e => by rw [List.mem_singleton] at e; omega)
  have hr := h6.1.blk h.2.1 (by rw [List.mem_singleton]; exact h.apart)
  have hs : ∀ j : Nat, rb ≠ (⟨w4.heap.size, j, none⟩ : Addr).block := fun j => by show rb ≠ w4.heap.size; omega
  have ht : ∀ j : Nat, nb ≠ (⟨w4.heap.size, j, none⟩ : Addr).block := fun j => by show nb ≠ w4.heap.size; omega
  exact ⟨(((hr.set_ne _ _ (hs 0)).set_ne _ _ (hs 1)).set_ne _ _ (hs 2)).set_ne _ _ (hs 3), hz.set4 hl x y z u, (((h6.2.set_ne _ _ (ht 0)).set_ne _ _ (ht 1)).set_ne _ _ (ht 2)).set_ne _ _ (ht 3), hu.set4 (by omega) x y z u⟩
set_option maxRecDepth 100000 in
set_option maxHeartbeats 4000000 in
theorem alone_walk (c : Cc) (fa aa : Option Addr) (fcap acap : Nat) (fs : List (ByteArray × ByteArray)) (xs : List ByteArray) (k : Int) (a : Option Addr) (n cap : Nat) (bd : ByteArray) (cl : Bool) (w : World) (hn : n ≤ 140737488351232) (h : CameC w c fa fcap fs aa acap xs) (hT : Tab w) :
    Calls Tryd.prog 6 #[.agg c.cells.toArray, .agg (Pc k a n cap bd cl).toArray] w fun e w' => e = .returned (.bool true) ∧ Upd [] w w' := by
  have HC := Hd.mk h
  have HT := Hd.mk hT
  clear h hT
  have hmf := mf
  have B1 := Blk.new w c.cells 34 _ rfl
  have U1 := (Upd.refl [] w).alloc (.cells c.cells.toArray 34)
  have B2 := Blk.new (w.alloc (.cells c.cells.toArray 34)) (Pc k a n cap bd cl) 36 (w.heap.size + 1) (by simp)
  have U2 := U1.alloc (.cells (Pc k a n cap bd cl).toArray 36)
  have D1 := B1.alloc (.cells (Pc k a n cap bd cl).toArray 36)
  have HB := Hd.mk (And.intro D1 (And.intro B2 U2))
  clear B1 B2 U1 U2 D1
  have HLT := Hd.mk (fun (W : World) (hu : Upd [] w W) => light_ok c fa aa fcap acap fs xs W (HC.out.upd hu))
  have HCL := Hd.mk (fun cb nb rb (W : World) => clo_ok c k a n cap bd cl cb nb rb W)
  obtain ⟨mm, tg, fl, bo, cs, cn, sq, vr, hd, pr, aw, fd, tk⟩ := c
  simp only [Cc.cells, Pc] at *
  clear HC
  go_enter Tryd.func6, Tryd.ntmps6
  go_upto_region 1 with (fail)
  refine wp_abs (fun W => (Blk W w.heap.size [.string mm, .string tg, fl, .string bo, .bool cs, .int .i64 cn, .int .i64 sq, .int .i64 vr, .string hd, pr, aw, .bool fd, .string tk] 34 ∧ Blk W (w.heap.size + 1) [.int .i64 k, .slice a n cap, .string bd, .bool cl] 36 ∧ Upd [] w W)) HB.out ?_
  clear HB
  obtain ⟨rb, hx2⟩ : ∃ x, w.heap.size + 1 = x := ⟨_, rfl⟩
  obtain ⟨cb, hx1⟩ : ∃ x, w.heap.size = x := ⟨_, rfl⟩
  rw [hx2, hx1]
  have HX := Hd.mk (And.intro hx1 hx2)
  clear hx1 hx2
  rintro w1 ⟨b1, b2, u1⟩
  have HB := Hd.mk (And.intro b1 (And.intro b2 u1))
  clear b1 b2 u1
  go_wp2_with fail
  refine (fit_ok w1 (HT.out.upd HB.out.2.2)).mono ?_
  rintro e w2 ⟨rfl, u2⟩
  have HB := Hd.mk (And.intro (u2.blk HB.out.1 (by simp)) (And.intro (u2.blk HB.out.2.1 (by simp)) (HB.out.2.2.trans u2 (by simp))))
  have b1 := HB.out.1
  have b2 := HB.out.2.1
  have c0 := b1.cell 0
  have c1 := b1.cell 1
  have c2 := b1.cell 2
  have c3 := b1.cell 3
  have c4 := b1.cell 4
  have c5 := b1.cell 5
  have c6 := b1.cell 6
  have c7 := b1.cell 7
  have c8 := b1.cell 8
  have c9 := b1.cell 9
  have c10 := b1.cell 10
  have c11 := b1.cell 11
  have c12 := b1.cell 12
  simp only [List.getElem?_cons_zero, List.getElem?_cons_succ] at c0 c1 c2 c3 c4 c5 c6 c7 c8 c9 c10 c11 c12
  have r0 := b2.cell 0
  have r1 := b2.cell 1
  have r2 := b2.cell 2
  have r3 := b2.cell 3
  simp only [List.getElem?_cons_zero, List.getElem?_cons_succ] at r0 r1 r2 r3
  clear u2 b1 b2
  go_wp2_with fail
  refine (HLT.out w2 HB.out.2.2).mono ?_
  rintro e w3 ⟨b, rfl, -, u3⟩
  have HB := Hd.mk (And.intro (u3.blk HB.out.1 (by simp)) (And.intro (u3.blk HB.out.2.1 (by simp)) (HB.out.2.2.trans u3 (by simp))))
  clear u3 c0 c1 c2 c3 c4 c5 c6 c7 c8 c9 c10 c11 c12 r0 r1 r2 r3
  cases b with
  | false =>
    go_wp2_with fail
    go_ret
    exact ⟨rfl, HB.out.2.2⟩
  | true =>
    have b2 := HB.out.2.1
    have r0 := b2.cell 0
    have r1 := b2.cell 1
    have r2 := b2.cell 2
    have r3 := b2.cell 3
    simp only [List.getElem?_cons_zero, List.getElem?_cons_succ] at r0 r1 r2 r3
    clear b2
    by_cases hl : 20 < n
    · have hl2 : (20 : Int) < n := by omega
      go_wp2_with fail
      go_ret
      exact ⟨rfl, HB.out.2.2⟩
    have hl2 : ¬ (20 : Int) < n := by omega
    go_upto_region 6 with (fail)
    clear r0 r1 r2 r3
    have hA : Alw w cb rb w3.heap.size [.string mm, .string tg, fl, .string bo, .bool cs, .int .i64 cn, .int .i64 sq, .int .i64 vr, .string hd, pr, aw, .bool fd, .string tk] [.int .i64 k, .slice a n cap, .string bd, .bool cl] (w3.alloc (.cells #[.int .i64 0] 3)) := ⟨HB.out.1.alloc _, HB.out.2.1.alloc _, Blk.new w3 [.int .i64 0] 3 _ rfl, HB.out.2.2.alloc _⟩
    refine wp_abs (fun W => Alw w cb rb w3.heap.size [.string mm, .string tg, fl, .string bo, .bool cs, .int .i64 cn, .int .i64 sq, .int .i64 vr, .string hd, pr, aw, .bool fd, .string tk] [.int .i64 k, .slice a n cap, .string bd, .bool cl] W) hA ?_
    have HNB := Hd.mk (show w.heap.size ≤ w3.heap.size from HB.out.2.2.size)
    clear hA HB
    obtain ⟨nb, hnb⟩ : ∃ x, w3.heap.size = x := ⟨_, rfl⟩
    rw [hnb] at HNB ⊢
    clear hnb
    rintro w4 hA
    have HA := Hd.mk hA
    clear hA
    have b1 := HA.out.1
    have b9 := HA.out.1.alloc (.cells #[.int .i64 0, .slice none 0 0, .string ⟨#[]⟩, .bool false] 36)
    have c0 := b1.cell 0
    have c1 := b1.cell 1
    have c2 := b1.cell 2
    have c3 := b1.cell 3
    have c4 := b1.cell 4
    have c5 := b1.cell 5
    have c6 := b1.cell 6
    have c7 := b1.cell 7
    have c8 := b1.cell 8
    have c9 := b1.cell 9
    have c10 := b1.cell 10
    have c11 := b1.cell 11
    have c12 := b1.cell 12
    simp only [List.getElem?_cons_zero, List.getElem?_cons_succ] at c0 c1 c2 c3 c4 c5 c6 c7 c8 c9 c10 c11 c12
    have e0 := b9.cell 0
    have e1 := b9.cell 1
    have e2 := b9.cell 2
    have e3 := b9.cell 3
    have e4 := b9.cell 4
    have e5 := b9.cell 5
    have e6 := b9.cell 6
    have e7 := b9.cell 7
    have e8 := b9.cell 8
    have e9 := b9.cell 9
    have e10 := b9.cell 10
    have e11 := b9.cell 11
    have e12 := b9.cell 12
    simp only [List.getElem?_cons_zero, List.getElem?_cons_succ] at e0 e1 e2 e3 e4 e5 e6 e7 e8 e9 e10 e11 e12
    clear b1 b9
    have tokA := HA
    have HLTn := Hd.mk (And.intro HA.out.2.2.1.lt (And.intro HA.out.1.lt HA.out.2.1.lt))
    go_region_law (first
      | (have _t := tokA; refine step_func rfl 11 #[.tmp 18, .const (.slice none 0 0)] #[25, 23] rfl #[.func (.func 20) #[] #[.pointer (some ⟨cb, 0, none⟩), .pointer (some ⟨nb, 0, none⟩), .pointer (some ⟨rb, 0, none⟩)], .slice none 0 0] (by go_simp) (by go_simp) (.func (.func 20) #[] #[.pointer (some ⟨cb, 0, none⟩), .pointer (some ⟨nb, 0, none⟩), .pointer (some ⟨rb, 0, none⟩)]) ?_; refine (all_none _ _ _ _ _ _).mono ?_; rintro e w6 ⟨he, rfl⟩; refine ⟨he, ?_⟩; clear tokA _t he)
      | (refine step_fval rfl (.tmp 19) #[.tmp 20] #[34] rfl 20 #[.pointer (some ⟨cb, 0, none⟩), .pointer (some ⟨nb, 0, none⟩), .pointer (some ⟨rb, 0, none⟩)] (by go_simp) #[(.agg #[.string mm, .string tg, fl, .string bo, .bool cs, .int .i64 cn, .int .i64 sq, .int .i64 vr, .string hd, pr, aw, .bool fd, .string tk])] (by go_simp) (by go_simp) (.agg #[.int .i64 k, .slice a n cap, .string bd, .bool cl]) ?_; refine (HCL.out cb nb rb w4.drew HA.out.1.drew HA.out.2.2.1.drew HA.out.2.1.drew).mono ?_; rintro e w6 ⟨he, u6, n6⟩; refine ⟨he, ?_⟩; clear he; have V6 := Hd.mk (And.intro (((Upd.refl [nb] w4).drew).trans u6 (by simp)) n6); clear u6 n6)
      | (refine step_fval rfl (.tmp 19) #[.tmp 20] #[34] rfl 20 #[.pointer (some ⟨cb, 0, none⟩), .pointer (some ⟨nb, 0, none⟩), .pointer (some ⟨rb, 0, none⟩)] (by go_simp) #[(.agg #[.string mm, .string tg, fl, .string bo, .bool cs, .int .i64 cn, .int .i64 sq, .int .i64 vr, .string hd, pr, aw, .bool fd, .string tk])] (by go_simp) (by go_simp) (.agg #[.int .i64 k, .slice a n cap, .string bd, .bool cl]) ?_; refine (HCL.out cb nb rb (w4.alloc (.cells #[.int .i64 0, .slice none 0 0, .string ⟨#[]⟩, .bool false] 36)).drew (HA.out.1.alloc _).drew (HA.out.2.2.1.alloc _).drew (HA.out.2.1.alloc _).drew).mono ?_; rintro e w6 ⟨he, u6, n6⟩; refine ⟨he, ?_⟩; clear he; have V6 := Hd.mk (And.intro ((((Upd.refl [nb] w4).alloc (.cells #[.int .i64 0, .slice none 0 0, .string ⟨#[]⟩, .bool false] 36)).drew).trans u6 (by simp)) n6); have z6 := u6.blk ((Blk.new w4 [.int .i64 0, .slice none 0 0, .string ⟨#[]⟩, .bool false] 36 _ rfl).drew) (by have := HLTn.out.1; simp; omega); have Z6 := Hd.mk z6; have q0 := z6.cell 0; have q1 := z6.cell 1; have q2 := z6.cell 2; have q3 := z6.cell 3; have p0 := z6.free 0; have p1 := z6.free 1; have p2 := z6.free 2; have p3 := z6.free 3; simp only [List.getElem?_cons_zero, List.getElem?_cons_succ] at q0 q1 q2 q3; clear u6 n6 z6))
    all_goals
      first
        | (with_reducible refine wp_abs (AlE w rb nb w6.heap.size [.int .i64 k, .slice a n cap, .string bd, .bool cl]) (fin1 HA.out V6.out HNB.out) ?_; generalize w6.heap.size = tb)
        | (with_reducible refine wp_abs (AlE w rb nb w4.heap.size [.int .i64 k, .slice a n cap, .string bd, .bool cl]) (fin2 HA.out V6.out HNB.out Z6.out rfl) ?_; generalize w4.heap.size = tb)
      rintro w7 h7
      have H7 := Hd.mk h7
      have b1 := h7.1
      have b2 := h7.2.1
      have b3 := h7.2.2.1
      clear h7
      have g0 := b1.cell 0
      have g1 := b1.cell 1
      have g2 := b1.cell 2
      have g3 := b1.cell 3
      simp only [List.getElem?_cons_zero, List.getElem?_cons_succ] at g0 g1 g2 g3
      have j0 := b2.cell 0
      have j1 := b2.cell 1
      have j2 := b2.cell 2
      have j3 := b2.cell 3
      simp only [List.getElem?_cons_zero, List.getElem?_cons_succ] at j0 j1 j2 j3
      have i0 := b3.cell 0
      simp only [List.getElem?_cons_zero, List.getElem?_cons_succ] at i0
      clear b1 b2 b3
      have y1 := str_yes (rfl : bd = bd)
      have y2 : (k == k) = true := by simp
      have y3 : (cl == cl) = true := by simp
      have y4 : ((n : Int) == (n : Int)) = true := by simp
      go_wp2_with fail
      go_ret
      exact ⟨rb_ (by simp), H7.out.2.2.2⟩
theorem alone_row (cs ds : Array Value) (w : World) (hT : Tab w) (hz : Leaf.oks w [.str, .str, .sl [.str, .str], .str, .bool, .int .i64, .int .i64, .int .i64, .str, .sl [.str, .str], .sl [.str], .bool, .str] cs.toList) (hz' : Leaf.oks w [.int .i64, .sl [.str, .str], .str, .bool] ds.toList) :
    Calls Tryd.prog 6 #[.agg cs, .agg ds] w fun e w' => e = .returned (.bool true) ∧ Below w.heap.size w w' := by
  obtain ⟨c, fa, aa, fcap, acap, fs, xs, hcs, hC⟩ := leaf_call hz
  obtain ⟨k, a, n, cap, bd, cl, hds, hn⟩ := leaf_resp hz'
  have h := alone_walk c fa aa fcap acap fs xs k a n cap bd cl w hn hC hT
  rw [← hcs, ← hds] at h
  exact h.mono fun _ _ h => ⟨h.1, h.2.nil_below⟩
end Go.Proofs.YtghjdjbjdjbkkaaDoor
