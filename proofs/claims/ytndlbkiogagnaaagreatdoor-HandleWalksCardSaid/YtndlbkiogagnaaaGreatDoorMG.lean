/- Handles: HandleWalks. (With what it rests on, merged: G7, G8, G9, PL, G10, G11.) -/
import Derived.Test.YtndlbkiogagnaaaGreatDoorMF
import Derived.Test.YtndlbkiogagnaaaGreatDoorMA
import Derived.Test.YtndlbkiogagnaaaGreatDoorME
import Derived.Test.YtndlbkiogagnaaaGreatDoorMC
namespace Go.Proofs.YtndlbkiogagnaaaGreatDoor
set_option linter.unusedSimpArgs false
set_option linter.unusedVariables false
set_option linter.unnecessarySimpa false
open Go.RowKit BigFrame

/-- A call of a function value, as a step of a region. -/
theorem step_fval {P : Program} {ops : Array Oper} {o : Oper} {a : Act} {w : World} {K : Act → World → Prop} {Q : Exit → Act → World → Prop} {E : Prop} (hgd : o.guard = none) (x : Operand) (xs : Array Operand) (ts : Array TypeId)
    (ho : o.op = .call { callee := .value x, args := xs, argTypes := ts }) (g : FuncId) (cap : Array Value) (hx : a.eval x = .func (.func g) #[] cap) (vals : Array Value) (hv : xs.map a.eval = vals) (hcf : (callFunc g (#[] ++ vals ++ cap)).run P w = .ok (.enter g (vals ++ cap)) w) (v : Value) (h : Calls P g (vals ++ cap) w fun e w' => e = .returned v ∧ K (a.put o.dst v) w') :
    if Region.wanted o (yielded ops a.tmps) = true then Oper.wp P o a w K Q else E := by
  have hw : Region.wanted o (yielded ops a.tmps) = true := by simp [Region.wanted, hgd]
  rw [if_pos hw]
  subst hv
  have key : (execOp a.eval o).run P w = .ok (.enter g (xs.map a.eval ++ cap)) w := by
    rw [← hcf]
    unfold execOp
    simp only [ho, resolve, hx, Sem.run_bind, Sem.run_pure, Result.andThen_ok, invoke]
    simp [Deferred.ofValue]
  unfold Oper.wp
  rw [key]
  exact h.mono fun e w' h' => by obtain ⟨rfl, h2⟩ := h'; exact h2
def tokenL : Bs := [116, 111, 107, 101, 110]
set_option maxRecDepth 100000 in
set_option maxHeartbeats 4000000 in
theorem guardF (F : List Nat) (K : World → Prop) (c : Cc) (g b b2 : Nat) (k : Int) (fs : List (ByteArray × ByteArray)) (bd : ByteArray) (cl : Bool) (w : World) (hs : c.token = ⟨#[]⟩) (Fl : List (Bs × Bs)) (fa : Option Addr) (fcap : Nat) (hf : c.fields = .slice fa Fl.length fcap) (hrf : Rf w fa Fl) (hfn : Fl.length ≤ 900000)
    (h : LinkH F K g b b2 w) (hin : Inner F K c g b2 k fs bd cl w) :
    Calls Tryz.prog 107 #[.agg c.cells.toArray, .pointer (some ⟨b, 0, none⟩)] w (HQ F K k fs bd cl w) := by
  have HI := Hd.mk hin
  have HL := Hd.mk h
  have he := h.ent
  have HB := Hd.mk (two_boxes c w)
  have HA := Hd.mk (fun W (hu : Upd [] w W) => all_ok Fl fa fcap tokenL W (hrf.upd hu) hfn)
  have HBL := Hd.mk (And.intro h.blt h.cell)
  have D1 := HB.out.1
  clear hin h hrf hfn
  unfold Inner at HI
  obtain ⟨mm, tg, fl, bo, cs, cn, sq, vr, hd, pr, aw, fd, tk⟩ := c
  simp only at hs hf
  subst hs
  subst hf
  simp only [Cc.cells] at *
  have c0 := D1.cell 0
  have c1 := D1.cell 1
  have c2 := D1.cell 2
  have c3 := D1.cell 3
  have c4 := D1.cell 4
  have c5 := D1.cell 5
  have c6 := D1.cell 6
  have c7 := D1.cell 7
  have c8 := D1.cell 8
  have c9 := D1.cell 9
  have c10 := D1.cell 10
  have c11 := D1.cell 11
  have c12 := D1.cell 12
  simp only [List.getElem?_cons_zero, List.getElem?_cons_succ] at c0 c1 c2 c3 c4 c5 c6 c7 c8 c9 c10 c11 c12
  clear D1
  go_enter Tryz.func107, Tryz.ntmps107
  go_upto_region 1 with (fail)
  clear c0 c1 c2 c3 c4 c5 c6 c7 c8 c9 c10 c11 c12
  refine wp_abs (fun W => Blk W w.heap.size [.string mm, .string tg, .slice fa Fl.length fcap, .string bo, .bool cs, .int .i64 cn, .int .i64 sq, .int .i64 vr, .string hd, pr, aw, .bool fd, .string ⟨#[]⟩] 35 ∧ Blk W (w.heap.size + 1) zR 40 ∧ Upd [] w W) HB.out ?_
  clear HB
  intro w2 hw2
  have HB := Hd.mk hw2
  clear hw2
  have D1 := HB.out.1
  have c0 := D1.cell 0
  have c1 := D1.cell 1
  have c2 := D1.cell 2
  have c3 := D1.cell 3
  have c4 := D1.cell 4
  have c5 := D1.cell 5
  have c6 := D1.cell 6
  have c7 := D1.cell 7
  have c8 := D1.cell 8
  have c9 := D1.cell 9
  have c10 := D1.cell 10
  have c11 := D1.cell 11
  have c12 := D1.cell 12
  simp only [List.getElem?_cons_zero, List.getElem?_cons_succ] at c0 c1 c2 c3 c4 c5 c6 c7 c8 c9 c10 c11 c12
  clear D1
  go_wp2_with fail
  refine (HA.out _ HB.out.2.2).mono ?_
  rintro e w3 ⟨v, rfl, hbl⟩
  obtain ⟨va, vc, rfl⟩ := hbl.sl.form
  have HB := Hd.mk (And.intro (hbl.upd.blk HB.out.1 (by simp)) (And.intro (hbl.upd.blk HB.out.2.1 (by simp)) (HB.out.2.2.trans hbl.upd (by simp))))
  clear hbl c0 c1 c2 c3 c4 c5 c6 c7 c8 c9 c10 c11 c12
  have D1 := HB.out.1
  have c0 := D1.cell 0
  have c1 := D1.cell 1
  have c2 := D1.cell 2
  have c3 := D1.cell 3
  have c4 := D1.cell 4
  have c5 := D1.cell 5
  have c6 := D1.cell 6
  have c7 := D1.cell 7
  have c8 := D1.cell 8
  have c9 := D1.cell 9
  have c10 := D1.cell 10
  have c11 := D1.cell 11
  have c12 := D1.cell 12
  simp only [List.getElem?_cons_zero, List.getElem?_cons_succ] at c0 c1 c2 c3 c4 c5 c6 c7 c8 c9 c10 c11 c12
  have hc2 := (HB.out.2.2.cell (p := ⟨b, 0, none⟩) HBL.out.1 (by simp)).trans HBL.out.2
  clear D1
  go_upto_region 2 with (fail)
  generalize (allL Fl tokenL).length = nn at *

  refine wp_region_quiet_lit (by kernel_rfl) (by kernel_rfl) ?_
  repeat (go_big_quiet_step (fail))
  refine wpQuiet_nil ?_
  (intro _ hw'; obtain ⟨nq, hw''⟩ := hw'; subst hw'')
  have U4 : Upd [] w3 (w3.drewN nq) := (Upd.refl [] w3).drewN nq
  generalize w3.drewN nq = w4 at U4 ⊢
  have HB := Hd.mk (And.intro (U4.blk HB.out.1 (by simp)) (And.intro (U4.blk HB.out.2.1 (by simp)) (HB.out.2.2.trans U4 (by simp))))
  have hc2 := (HB.out.2.2.cell (p := ⟨b, 0, none⟩) HBL.out.1 (by simp)).trans HBL.out.2
  clear U4 c0 c1 c2 c3 c4 c5 c6 c7 c8 c9 c10 c11 c12
  have D1 := HB.out.1
  have c0 := D1.cell 0
  have c1 := D1.cell 1
  have c2 := D1.cell 2
  have c3 := D1.cell 3
  have c4 := D1.cell 4
  have c5 := D1.cell 5
  have c6 := D1.cell 6
  have c7 := D1.cell 7
  have c8 := D1.cell 8
  have c9 := D1.cell 9
  have c10 := D1.cell 10
  have c11 := D1.cell 11
  have c12 := D1.cell 12
  simp only [List.getElem?_cons_zero, List.getElem?_cons_succ] at c0 c1 c2 c3 c4 c5 c6 c7 c8 c9 c10 c11 c12
  clear D1
  go_wp2_with fail
  refine (HI.out _ HB.out.2.2).mono ?_
  rintro e w5 ⟨a, cap, rfl, hrf, hk1, u1⟩
  have dd := u1.blk HB.out.2.1 (fun e => by have := HL.out.lt _ e; omega)
  have HD := Hd.mk (And.intro dd (And.intro ((HB.out.2.2.mono (by simp) : Upd F w _).trans u1 (fun _ _ h => h)) (And.intro hrf hk1)))
  clear u1 hrf hk1 c0 c1 c2 c3 c4 c5 c6 c7 c8 c9 c10 c11 c12
  unfold zR at dd
  have d0 := dd.cell 0
  have d1 := dd.cell 1
  have d2 := dd.cell 2
  have d3 := dd.cell 3
  simp only [List.getElem?_cons_zero, List.getElem?_cons_succ] at d0 d1 d2 d3
  have f0 := dd.free 0
  have f1 := dd.free 1
  have f2 := dd.free 2
  have f3 := dd.free 3
  clear dd
  simp only [Pc]
  go_wp2_with fail
  exact bodyPost_ret (results_cell _ _ _ 3 40 (w.heap.size + 1) (Pc k a fs.length cap bd cl) 40 rfl rfl (HD.out.1.set4 rfl _ _ _ _) (by kernel_rfl) (by kernel_rfl)) rfl ⟨a, cap, rfl, pass_end HL.out.keep HD.out.2.2.2 HD.out.2.2.1 HD.out.1 (by omega) HD.out.2.1 _ _ _ _⟩
end Go.Proofs.YtndlbkiogagnaaaGreatDoor

namespace Go.Proofs.YtndlbkiogagnaaaGreatDoor
set_option linter.unusedSimpArgs false
set_option linter.unusedVariables false
set_option linter.unnecessarySimpa false
open Go.RowKit BigFrame

def InnerD (F : List Nat) (K : World → Prop) (c : Cc) (g b2 b3 : Nat) (k : Int) (fs : List (ByteArray × ByteArray)) (bd : ByteArray) (cl : Bool) (w : World) : Prop :=
  ∀ W, Upd [] w W → Calls Tryz.prog g #[.agg c.cells.toArray, .pointer (some ⟨b2, 0, none⟩), .pointer (some ⟨b3, 0, none⟩)] W (HQ F K k fs bd cl W)
structure LinkD (F : List Nat) (K : World → Prop) (g b b2 b3 : Nat) (w : World) : Prop where
  lt : ∀ j ∈ F, j < w.heap.size
  keep : Keeps w K
  cell : w.cell? ⟨b, 0, none⟩ = some (.func (.func g) #[] #[.pointer (some ⟨b2, 0, none⟩), .pointer (some ⟨b3, 0, none⟩)])
  blt : b < w.heap.size
  ent : ∀ (args : Array Value) (W : World), (callFunc g args).run Tryz.prog W = .ok (.enter g args) W
set_option maxHeartbeats 2000000 in
theorem routedD (F : List Nat) (K : World → Prop) (c : Cc) (g b b2 b3 : Nat) (k : Int) (fs : List (ByteArray × ByteArray)) (bd : ByteArray) (cl : Bool) (w : World) (hs : c.found = true)
    (h : LinkD F K g b b2 b3 w) (hin : InnerD F K c g b2 b3 k fs bd cl w) :
    Calls Tryz.prog 108 #[.agg c.cells.toArray, .pointer (some ⟨b, 0, none⟩)] w (HQ F K k fs bd cl w) := by
  have HI := Hd.mk hin
  have HL := Hd.mk h
  have he := h.ent
  have HB := Hd.mk (two_boxes c w)
  have hc2 := (HB.out.2.2.cell (p := ⟨b, 0, none⟩) h.blt (by simp)).trans h.cell
  have D1 := HB.out.1
  clear hin h
  unfold InnerD at HI
  obtain ⟨mm, tg, fl, bo, cs, cn, sq, vr, hd, pr, aw, fd, tk⟩ := c
  simp only at hs
  subst hs
  simp only [Cc.cells] at *
  have c0 := D1.cell 0
  have c1 := D1.cell 1
  have c2 := D1.cell 2
  have c3 := D1.cell 3
  have c4 := D1.cell 4
  have c5 := D1.cell 5
  have c6 := D1.cell 6
  have c7 := D1.cell 7
  have c8 := D1.cell 8
  have c9 := D1.cell 9
  have c10 := D1.cell 10
  have c11 := D1.cell 11
  have c12 := D1.cell 12
  simp only [List.getElem?_cons_zero, List.getElem?_cons_succ] at c0 c1 c2 c3 c4 c5 c6 c7 c8 c9 c10 c11 c12
  clear D1
  go_enter Tryz.func108, Tryz.ntmps108
  go_wp2_with fail
  refine (HI.out _ HB.out.2.2).mono ?_
  rintro e w1 ⟨a, cap, rfl, hrf, hk1, u1⟩
  have dd := u1.blk HB.out.2.1 (fun e => by have := HL.out.lt _ e; omega)
  have HD := Hd.mk (And.intro dd (And.intro ((HB.out.2.2.mono (by simp) : Upd F w _).trans u1 (fun _ _ h => h)) (And.intro hrf hk1)))
  clear u1 hrf hk1 c0 c1 c2 c3 c4 c5 c6 c7 c8 c9 c10 c11 c12
  unfold zR at dd
  have d0 := dd.cell 0
  have d1 := dd.cell 1
  have d2 := dd.cell 2
  have d3 := dd.cell 3
  simp only [List.getElem?_cons_zero, List.getElem?_cons_succ] at d0 d1 d2 d3
  have f0 := dd.free 0
  have f1 := dd.free 1
  have f2 := dd.free 2
  have f3 := dd.free 3
  clear dd
  simp only [Pc]
  go_wp2_with fail
  exact bodyPost_ret (results_cell _ _ _ 3 40 (w.heap.size + 1) (Pc k a fs.length cap bd cl) 40 rfl rfl (HD.out.1.set4 rfl _ _ _ _) (by kernel_rfl) (by kernel_rfl)) rfl ⟨a, cap, rfl, pass_end HL.out.keep HD.out.2.2.2 HD.out.2.2.1 HD.out.1 (by omega) HD.out.2.1 _ _ _ _⟩
theorem Keeps.mono {w W : World} {K : World → Prop} (h : Keeps w K) (hu : Upd [] w W) : Keeps W K := fun W1 W2 X hk hx hX => h W1 W2 X hk hx (fun k hk => ⟨by have := (hX k hk).1; have := hu.size; omega, (hX k hk).2⟩)
theorem LinkH.of {F : List Nat} {K : World → Prop} {g b b2 : Nat} {w0 w W : World} (hF : ∀ j ∈ F, j < w.heap.size) (hK : Keeps w K) (hu : Upd [] w W) (hc : w.cell? ⟨b, 0, none⟩ = some (.func (.func g) #[] #[.pointer (some ⟨b2, 0, none⟩)])) (hb : b < w.heap.size) (he : ∀ (args : Array Value) (W : World), (callFunc g args).run Tryz.prog W = .ok (.enter g args) W) : LinkH F K g b b2 W where
  lt := fun j hj => by have := hF j hj; have := hu.size; omega
  keep := hK.mono hu
  cell := (hu.cell (p := ⟨b, 0, none⟩) hb (by simp)).trans hc
  blt := by have := hu.size; omega
  ent := he
/-- A call that all links pass. -/
structure Passes (w : World) (c : Cc) : Prop where
  known : c.method = ⟨#[71, 69, 84]⟩ ∨ c.method = ⟨#[80, 85, 84]⟩ ∨ c.method = ⟨#[80, 79, 83, 84]⟩ ∨ c.method = ⟨#[68, 69, 76, 69, 84, 69]⟩
  small : c.body = ⟨#[]⟩ ∨ c.body ≠ ⟨#[]⟩ ∧ c.method ≠ ⟨#[71, 69, 84]⟩ ∧ c.method ≠ ⟨#[68, 69, 76, 69, 84, 69]⟩
  guard : c.token = ⟨#[]⟩ ∧ ∃ (Fl : List (Bs × Bs)) (fa : Option Addr) (fcap : Nat), c.fields = .slice fa Fl.length fcap ∧ Rf w fa Fl ∧ Fl.length ≤ 900000
  found : c.found = true
  i1 : okI c.conn
  i2 : okI c.seq
  i3 : okI c.version
theorem chain_ok (F : List Nat) (K : World → Prop) (c : Cc) (g b2 b3 n : Nat) (k : Int) (fs : List (ByteArray × ByteArray)) (bd : ByteArray) (cl : Bool) (w0 w : World) (hF : ∀ j ∈ F, j < w.heap.size) (hK : Keeps w K) (hT : ∀ W, Upd F w W → Tab W) (hn : fs.length ≤ 100000)
    (hS : Std w0 w n (.func (.func g) #[] #[.pointer (some ⟨b2, 0, none⟩), .pointer (some ⟨b3, 0, none⟩)])) (hp : Passes w c)
    (he : ∀ (args : Array Value) (W : World), (callFunc g args).run Tryz.prog W = .ok (.enter g args) W) (hin : InnerD F K c g b2 b3 k fs bd cl w) :
    Calls Tryz.prog 102 #[.agg c.cells.toArray, .pointer (some ⟨n + 5, 0, none⟩)] w (HQ F K k ((xid, idB c.conn c.seq) :: (xver, itoaB c.version) :: fs) bd (cl || c.close) w) := by
  have hz := hS.sz
  obtain ⟨ht, Fl, fa, fcap, hfl, hrf, hfn⟩ := hp.guard
  refine chmarkF_ok F K c 103 (n + 5) (n + 4) k fs bd cl w hF hK hT hn hp.i1 hp.i2 hp.i3 hS.c5 (by omega) (kenters _ _ _ Tryz.func103 (by kernel_rfl) rfl) ?_
  intro W1 u1
  refine safeF F K c 105 (n + 4) (n + 3) k fs bd cl W1 (LinkH.of (w0 := w) hF hK u1 hS.c4 (by omega) (kenters _ _ _ Tryz.func105 (by kernel_rfl) rfl)) ?_
  intro W2 u2
  have v2 := u1.trans u2 (by simp)
  refine knownF F K c 106 (n + 3) (n + 2) k fs bd cl W2 hp.known (LinkH.of (w0 := w) hF hK v2 hS.c3 (by omega) (kenters _ _ _ Tryz.func106 (by kernel_rfl) rfl)) ?_
  intro W3 u3
  have v3 := v2.trans u3 (by simp)
  refine smallF F K c 107 (n + 2) (n + 1) k fs bd cl W3 hp.small (LinkH.of (w0 := w) hF hK v3 hS.c2 (by omega) (kenters _ _ _ Tryz.func107 (by kernel_rfl) rfl)) ?_
  intro W4 u4
  have v4 := v3.trans u4 (by simp)
  refine guardF F K c 108 (n + 1) n k fs bd cl W4 ht Fl fa fcap hfl (hrf.upd v4) hfn (LinkH.of (w0 := w) hF hK v4 hS.c1 (by omega) (kenters _ _ _ Tryz.func108 (by kernel_rfl) rfl)) ?_
  intro W5 u5
  have v5 := v4.trans u5 (by simp)
  refine routedD F K c g n b2 b3 k fs bd cl W5 hp.found ⟨fun j hj => by have := hF j hj; have := v5.size; omega, hK.mono v5, (v5.cell (p := ⟨n, 0, none⟩) (by show n < _; omega) (by simp)).trans hS.c0, by have := v5.size; omega, he⟩ ?_
  intro W6 u6
  exact hin W6 (v5.trans u6 (by simp))
theorem step_fval_ex {P : Program} {ops : Array Oper} {o : Oper} {a : Act} {w : World} {K : Act → World → Prop} {Q : Exit → Act → World → Prop} {E : Prop} (hgd : o.guard = none) (x : Operand) (xs : Array Operand) (ts : Array TypeId)
    (ho : o.op = .call { callee := .value x, args := xs, argTypes := ts }) (g : FuncId) (cap : Array Value) (hx : a.eval x = .func (.func g) #[] cap) (vals : Array Value) (hv : xs.map a.eval = vals) (hcf : (callFunc g (#[] ++ vals ++ cap)).run P w = .ok (.enter g (vals ++ cap)) w) (h : Calls P g (vals ++ cap) w fun e w' => ∃ v, e = .returned v ∧ K (a.put o.dst v) w') :
    if Region.wanted o (yielded ops a.tmps) = true then Oper.wp P o a w K Q else E := by
  have hw : Region.wanted o (yielded ops a.tmps) = true := by simp [Region.wanted, hgd]
  rw [if_pos hw]
  subst hv
  have key : (execOp a.eval o).run P w = .ok (.enter g (xs.map a.eval ++ cap)) w := by
    rw [← hcf]
    unfold execOp
    simp only [ho, resolve, hx, Sem.run_bind, Sem.run_pure, Result.andThen_ok, invoke]
    simp [Deferred.ofValue]
  unfold Oper.wp
  rw [key]
  exact h.mono fun e w' h' => by obtain ⟨v, rfl, h2⟩ := h'; exact h2
set_option maxHeartbeats 2000000 in
theorem do1_ok (F : List Nat) (K : World → Prop) (c : Cc) (b2 b3 wb : Nat) (ow k : Int) (fs : List (ByteArray × ByteArray)) (bd : ByteArray) (cl : Bool) (w : World) (hF : ∀ j ∈ F, j < w.heap.size) (hK : Keeps w K)
    (h2 : w.cell? ⟨b2, 0, none⟩ = some (.pointer (some ⟨wb, 0, none⟩))) (hb2 : b2 < w.heap.size) (h3 : w.cell? ⟨b3, 0, none⟩ = some (.int .i64 ow)) (hb3 : b3 < w.heap.size)
    (hin : ∀ W, Upd [] w W → Calls Tryz.prog 38 #[.pointer (some ⟨wb, 0, none⟩), .agg c.cells.toArray, .int .i64 ow] W (HQ F K k fs bd cl W)) :
    Calls Tryz.prog 37 #[.agg c.cells.toArray, .pointer (some ⟨b2, 0, none⟩), .pointer (some ⟨b3, 0, none⟩)] w (HQ F K k fs bd cl w) := by
  have HI := Hd.mk hin
  have HL := Hd.mk (And.intro hF hK)
  have HB := Hd.mk (two_boxes c w)
  have hc2 := (HB.out.2.2.cell (p := ⟨b2, 0, none⟩) hb2 (by simp)).trans h2
  have hc3 := (HB.out.2.2.cell (p := ⟨b3, 0, none⟩) hb3 (by simp)).trans h3
  have D1 := HB.out.1
  clear hin hF hK h2 h3 hb2 hb3
  obtain ⟨mm, tg, fl, bo, cs, cn, sq, vr, hd, pr, aw, fd, tk⟩ := c
  simp only [Cc.cells] at *
  have c0 := D1.cell 0
  have c1 := D1.cell 1
  have c2 := D1.cell 2
  have c3 := D1.cell 3
  have c4 := D1.cell 4
  have c5 := D1.cell 5
  have c6 := D1.cell 6
  have c7 := D1.cell 7
  have c8 := D1.cell 8
  have c9 := D1.cell 9
  have c10 := D1.cell 10
  have c11 := D1.cell 11
  have c12 := D1.cell 12
  simp only [List.getElem?_cons_zero, List.getElem?_cons_succ] at c0 c1 c2 c3 c4 c5 c6 c7 c8 c9 c10 c11 c12
  clear D1
  go_enter Tryz.func37, Tryz.ntmps37
  go_wp2_with fail
  refine (HI.out _ HB.out.2.2).mono ?_
  rintro e w1 ⟨a, cap, rfl, hrf, hk1, u1⟩
  have dd := u1.blk HB.out.2.1 (fun e => by have := HL.out.1 _ e; omega)
  have HD := Hd.mk (And.intro dd (And.intro ((HB.out.2.2.mono (by simp) : Upd F w _).trans u1 (fun _ _ h => h)) (And.intro hrf hk1)))
  clear u1 hrf hk1 c0 c1 c2 c3 c4 c5 c6 c7 c8 c9 c10 c11 c12
  unfold zR at dd
  have d0 := dd.cell 0
  have d1 := dd.cell 1
  have d2 := dd.cell 2
  have d3 := dd.cell 3
  simp only [List.getElem?_cons_zero, List.getElem?_cons_succ] at d0 d1 d2 d3
  have f0 := dd.free 0
  have f1 := dd.free 1
  have f2 := dd.free 2
  have f3 := dd.free 3
  clear dd
  simp only [Pc]
  go_wp2_with fail
  exact bodyPost_ret (results_cell _ _ _ 4 40 (w.heap.size + 1) (Pc k a fs.length cap bd cl) 40 rfl rfl (HD.out.1.set4 rfl _ _ _ _) (by kernel_rfl) (by kernel_rfl)) rfl ⟨a, cap, rfl, pass_end HL.out.2 HD.out.2.2.2 HD.out.2.2.1 HD.out.1 (by omega) HD.out.2.1 _ _ _ _⟩
structure DoB (w : World) (c : Cc) (wb : Nat) (ow : Int) (W : World) : Prop where
  b0 : Blk W w.heap.size [.pointer (some ⟨wb, 0, none⟩)] 24
  b1 : Blk W (w.heap.size + 1) c.cells 35
  b2 : Blk W (w.heap.size + 1 + 1) [.int .i64 ow] 3
  b3 : Blk W (w.heap.size + 1 + 1 + 1) zR 40
  u : Upd [] w W
theorem DoB.up {w W W' : World} {c : Cc} {wb : Nat} {ow : Int} (h : DoB w c wb ow W) (hu : Upd [] W W') : DoB w c wb ow W' := ⟨hu.blk h.b0 (by simp), hu.blk h.b1 (by simp), hu.blk h.b2 (by simp), hu.blk h.b3 (by simp), h.u.trans hu (by simp)⟩
theorem DoB.new (w : World) (c : Cc) (wb : Nat) (ow : Int) : DoB w c wb ow ((((w.alloc (.cells #[.pointer (some ⟨wb, 0, none⟩)] 24)).alloc (.cells c.cells.toArray 35)).alloc (.cells #[.int .i64 ow] 3)).alloc (.cells #[.int .i64 0, .slice none 0 0, .string ⟨#[]⟩, .bool false] 40)) where
  b0 := (((Blk.new w [.pointer (some ⟨wb, 0, none⟩)] 24 _ rfl).alloc _).alloc _).alloc _
  b1 := ((Blk.new (w.alloc (.cells #[.pointer (some ⟨wb, 0, none⟩)] 24)) c.cells 35 (w.heap.size + 1) (by simp)).alloc _).alloc _
  b2 := (Blk.new ((w.alloc (.cells #[.pointer (some ⟨wb, 0, none⟩)] 24)).alloc (.cells c.cells.toArray 35)) [.int .i64 ow] 3 (w.heap.size + 1 + 1) (by simp)).alloc _
  b3 := Blk.new (((w.alloc (.cells #[.pointer (some ⟨wb, 0, none⟩)] 24)).alloc (.cells c.cells.toArray 35)).alloc (.cells #[.int .i64 ow] 3)) zR 40 (w.heap.size + 1 + 1 + 1) (by simp)
  u := ((((Upd.refl [] w).alloc _).alloc _).alloc _).alloc _
theorem Passes.up {w W : World} {c : Cc} (h : Passes w c) (hu : Upd [] w W) : Passes W c := ⟨h.known, h.small, ⟨h.guard.1, by obtain ⟨Fl, fa, fcap, h1, h2, h3⟩ := h.guard.2; exact ⟨Fl, fa, fcap, h1, h2.upd hu, h3⟩⟩, h.found, h.i1, h.i2, h.i3⟩
theorem do_chain (F : List Nat) (K : World → Prop) (c : Cc) (wb : Nat) (ow k : Int) (fs : List (ByteArray × ByteArray)) (bd : ByteArray) (cl : Bool) (w : World) (hF : ∀ j ∈ F, j < w.heap.size) (hK : Keeps w K) (hT : ∀ W, Upd F w W → Tab W) (hn : fs.length ≤ 100000) (hp : Passes w c)
    (hin : ∀ W, Upd [] w W → Calls Tryz.prog 38 #[.pointer (some ⟨wb, 0, none⟩), .agg c.cells.toArray, .int .i64 ow] W (HQ F K k fs bd cl W)) (w6 w7 : World) (n : Nat) (hS : Std w6 w7 n (.func (.func 37) #[] #[.pointer (some ⟨w.heap.size, 0, none⟩), .pointer (some ⟨w.heap.size + 1 + 1, 0, none⟩)])) (hB : DoB w c wb ow w7) :
    Calls Tryz.prog 102 #[.agg c.cells.toArray, .pointer (some ⟨n + 5, 0, none⟩)] w7 (HQ F K k ((xid, idB c.conn c.seq) :: (xver, itoaB c.version) :: fs) bd (cl || c.close) w7) := by
  have hF7 : ∀ j ∈ F, j < w7.heap.size := fun j hj => by have := hF j hj; have := hB.u.size; omega
  refine chain_ok F K c 37 w.heap.size (w.heap.size + 1 + 1) n k fs bd cl w6 w7 hF7 (hK.mono hB.u) (fun W hu => hT W ((hB.u.mono (by simp) : Upd F w w7).trans hu (fun _ _ h => h))) hn hS (hp.up hB.u) (kenters _ _ _ Tryz.func37 (by kernel_rfl) rfl) ?_
  intro W hu
  have hB2 := hB.up hu
  exact do1_ok F K c w.heap.size (w.heap.size + 1 + 1) wb ow k fs bd cl W (fun j hj => by have := hF7 j hj; have := hu.size; omega) (hK.mono hB2.u) (hB2.b0.cell 0) hB2.b0.lt (hB2.b2.cell 0) hB2.b2.lt (fun W2 hu2 => hin W2 (hB2.u.trans hu2 (by simp)))
set_option maxRecDepth 100000 in
set_option maxHeartbeats 8000000 in
theorem do_ok (F : List Nat) (K : World → Prop) (c : Cc) (wb : Nat) (ow k : Int) (fs : List (ByteArray × ByteArray)) (bd : ByteArray) (cl : Bool) (w : World) (hF : ∀ j ∈ F, j < w.heap.size) (hK : Keeps w K) (hT : ∀ W, Upd F w W → Tab W) (hn : fs.length ≤ 100000) (hp : Passes w c)
    (hin : ∀ W, Upd [] w W → Calls Tryz.prog 38 #[.pointer (some ⟨wb, 0, none⟩), .agg c.cells.toArray, .int .i64 ow] W (HQ F K k fs bd cl W)) :
    Calls Tryz.prog 13 #[.pointer (some ⟨wb, 0, none⟩), .agg c.cells.toArray, .int .i64 ow] w (HQ F K k ((xid, idB c.conn c.seq) :: (xver, itoaB c.version) :: fs) bd (cl || c.close) w) := by
  have HCH := Hd.mk (do_chain F K c wb ow k fs bd cl w hF hK hT hn hp hin)
  have HFK := Hd.mk (And.intro hF hK)
  have HB := Hd.mk (DoB.new w c wb ow)
  clear hF hK hT hn hp hin
  obtain ⟨cc, hcc⟩ : ∃ cc, cc = c := ⟨_, rfl⟩
  have HCC := Hd.mk hcc
  rw [show DoB w c wb ow = DoB w cc wb ow by rw [hcc]] at HB
  clear hcc
  obtain ⟨mm, tg, fl, bo, cs, cn, sq, vr, hd, pr, aw, fd, tk⟩ := c
  have hcl : cc.cells = [.string mm, .string tg, fl, .string bo, .bool cs, .int .i64 cn, .int .i64 sq, .int .i64 vr, .string hd, pr, aw, .bool fd, .string tk] := by rw [HCC.out]; rfl
  have HCL := Hd.mk hcl
  rw [← HCC.out, hcl] at HCH
  clear hcl
  simp only [Cc.cells] at HB ⊢
  go_enter Tryz.func13, Tryz.ntmps13
  go_upto_region 1 with (fail)
  obtain ⟨y0, hy0⟩ : ∃ y, w.heap.size = y := ⟨_, rfl⟩
  obtain ⟨y1, hy1⟩ : ∃ y, w.heap.size + 1 = y := ⟨_, rfl⟩
  obtain ⟨y2, hy2⟩ : ∃ y, w.heap.size + 1 + 1 = y := ⟨_, rfl⟩
  obtain ⟨y3, hy3⟩ : ∃ y, w.heap.size + 1 + 1 + 1 = y := ⟨_, rfl⟩
  have HY := Hd.mk (And.intro hy0 (And.intro hy1 (And.intro hy2 hy3)))
  refine wp_abs (DoB w cc wb ow) HB.out ?_
  clear HB
  intro w5 hw5
  have tokA := Hd.mk hw5
  have HA := Hd.mk hw5
  clear hw5
  have BK := Hd.mk (fun W (h : DoB w cc wb ow W) => show Blk W y1 [.string mm, .string tg, fl, .string bo, .bool cs, .int .i64 cn, .int .i64 sq, .int .i64 vr, .string hd, pr, aw, .bool fd, .string tk] 35 ∧ Blk W y3 zR 40 from ⟨by have := h.b1; rwa [HCL.out, HY.out.2.1] at this, by have := h.b3; rwa [HY.out.2.2.2] at this⟩)
  rw [hy2, hy0, show cc.conn = cn by rw [HCC.out], show cc.seq = sq by rw [HCC.out], show cc.version = vr by rw [HCC.out], show cc.close = cs by rw [HCC.out]] at HCH
  rw [hy3, hy2, hy1, hy0]
  clear hy0 hy1 hy2 hy3
  have hmf := mf
  have b5 := (BK.out _ HA.out).1
  have c0 := b5.cell 0
  have c1 := b5.cell 1
  have c2 := b5.cell 2
  have c3 := b5.cell 3
  have c4 := b5.cell 4
  have c5 := b5.cell 5
  have c6 := b5.cell 6
  have c7 := b5.cell 7
  have c8 := b5.cell 8
  have c9 := b5.cell 9
  have c10 := b5.cell 10
  have c11 := b5.cell 11
  have c12 := b5.cell 12
  simp only [List.getElem?_cons_zero, List.getElem?_cons_succ] at c0 c1 c2 c3 c4 c5 c6 c7 c8 c9 c10 c11 c12
  clear b5
  go_region_law (first
    | (have _t := tokA
       refine step_func rfl 39 #[] #[] rfl #[] (by go_simp) (by go_simp) (.slice (some ⟨w5.heap.size, 0, none⟩) 6 6) ?_
       refine (std_ok w5.drew).mono ?_
       rintro e w6 ⟨he, hw6⟩
       refine ⟨by rw [he]; rfl, ?_⟩
       have V6 : Hd (DoB w cc wb ow w6 ∧ Blk w6 w5.heap.size linksL 135) := Hd.mk (by
         have hu : Upd [] w5 w6 := by rw [hw6]; exact ((Upd.refl [] w5).drew).alloc _
         exact ⟨HA.out.up hu, by rw [hw6]; exact Blk.new w5.drew _ _ _ rfl⟩)
       have b6 := (BK.out _ V6.out.1).1
       have d0 := b6.cell 0
       have d1 := b6.cell 1
       have d2 := b6.cell 2
       have d3 := b6.cell 3
       have d4 := b6.cell 4
       have d5 := b6.cell 5
       have d6 := b6.cell 6
       have d7 := b6.cell 7
       have d8 := b6.cell 8
       have d9 := b6.cell 9
       have d10 := b6.cell 10
       have d11 := b6.cell 11
       have d12 := b6.cell 12
       simp only [List.getElem?_cons_zero, List.getElem?_cons_succ] at d0 d1 d2 d3 d4 d5 d6 d7 d8 d9 d10 d11 d12
       clear tokA _t he hw6 b6)
    | (have _t := V6
       refine step_func rfl 36 #[.tmp 7, .tmp 8] #[96, 98] rfl #[.func (.func 37) #[] #[.pointer (some ⟨y0, 0, none⟩), .pointer (some ⟨y2, 0, none⟩)], .slice (some ⟨w5.heap.size, 0, none⟩) 6 6] (by go_simp) (by go_simp) (.func (.func 102) #[] #[.pointer (some ⟨w6.heap.size + 5, 0, none⟩)]) ?_
       refine (all_std _ _ _ w5.heap.size 6 w6 w6.heap.size rfl V6.out.2).mono ?_
       rintro e w7 ⟨he, hS⟩
       refine ⟨he, ?_⟩
       have V7 := Hd.mk (And.intro hS (V6.out.1.up hS.upd))
       have b7 := (BK.out _ V7.out.2).1
       have e0 := b7.cell 0
       have e1 := b7.cell 1
       have e2 := b7.cell 2
       have e3 := b7.cell 3
       have e4 := b7.cell 4
       have e5 := b7.cell 5
       have e6 := b7.cell 6
       have e7 := b7.cell 7
       have e8 := b7.cell 8
       have e9 := b7.cell 9
       have e10 := b7.cell 10
       have e11 := b7.cell 11
       have e12 := b7.cell 12
       simp only [List.getElem?_cons_zero, List.getElem?_cons_succ] at e0 e1 e2 e3 e4 e5 e6 e7 e8 e9 e10 e11 e12
       clear V6 _t he hS b7)
    | (have _t := V7
       refine step_fval_ex rfl (.tmp 9) #[.tmp 10] #[35] rfl 102 #[.pointer (some ⟨w6.heap.size + 5, 0, none⟩)] (by go_simp) #[(.agg #[.string mm, .string tg, fl, .string bo, .bool cs, .int .i64 cn, .int .i64 sq, .int .i64 vr, .string hd, pr, aw, .bool fd, .string tk])] (by go_simp) (by go_simp) ?_
       refine (HCH.out w6 w7 _ V7.out.1 V7.out.2).mono ?_
       rintro e w8 ⟨a, cap, he, hrf, hk, hu⟩
       refine ⟨_, he, ?_⟩
       clear he
       simp only [Pc, List.length_cons]
       have hyb := (BK.out _ V7.out.2).2
       have dd := hu.blk hyb (fun e => by have := HFK.out.1 _ e; have := HY.out.1; have := HY.out.2.2.2; omega)
       have V8 := Hd.mk (And.intro dd (And.intro hrf (And.intro hk ((V7.out.2.u.mono (by simp) : Upd F w w7).trans hu (fun _ _ h => h)))))
       clear hyb hrf hk hu
       have q0 := dd.cell 0
       have q1 := dd.cell 1
       have q2 := dd.cell 2
       have q3 := dd.cell 3
       have p0 := dd.free 0
       have p1 := dd.free 1
       have p2 := dd.free 2
       have p3 := dd.free 3
       simp only [zR, List.getElem?_cons_zero, List.getElem?_cons_succ] at q0 q1 q2 q3
       clear dd V7 _t))
  all_goals
    clear c0 c1 c2 c3 c4 c5 c6 c7 c8 c9 c10 c11 c12
    go_wp2_with fail
    exact bodyPost_ret (results_cell _ _ _ 6 40 y3 (Pc k a (fs.length + 1 + 1) cap bd (cl || cs)) 40 rfl rfl (V8.out.1.set4 rfl _ _ _ _) (by kernel_rfl) (by kernel_rfl)) rfl ⟨a, cap, rfl, pass_end HFK.out.2 V8.out.2.2.1 V8.out.2.1 V8.out.1 (by have := HY.out.1; have := HY.out.2.2.2; omega) V8.out.2.2.2 _ _ _ _⟩
end Go.Proofs.YtndlbkiogagnaaaGreatDoor

namespace Go.Proofs.YtndlbkiogagnaaaGreatDoor
set_option linter.unusedSimpArgs false
set_option linter.unusedVariables false
set_option linter.unnecessarySimpa false
open Go.RowKit BigFrame

def Ws.new (wb p hb : Nat) (r : Nat → Nat) (tv rv : Value) (L : List Rt) (tok : ByteArray) : Ws := ⟨wb, p, hb, r, fun _ => 0, fun _ => none, fun _ => 0, tv, rv, 1, L, tok, false⟩
def HNewQ (tok : ByteArray) (L : List Rt) (w : World) (e : Ending) (w' : World) : Prop := ∃ wb p hb r tv rv, e = .returned (.pointer (some ⟨wb, 0, none⟩)) ∧ Hw w w' (Ws.new wb p hb r tv rv L tok)
set_option maxHeartbeats 2000000 in
theorem hnew_ok (tok : ByteArray) (la : Option Addr) (lc : Nat) (L : List Rt) (w : World) (hT : HTab w) (hl : Sl w 90 3 (.slice la L.length lc) L.length (L.flatMap Rt.cells)) (hm : L.length ≤ 200000) (hz : ∀ r ∈ L, r.p.length ≤ 800000 ∧ r.m.length ≤ 800000) :
    Calls Tryz.prog 9 #[.string tok, .slice la L.length lc] w (HNewQ tok (fixL L) w) := by
  have HL := Hd.mk (And.intro hT hl)
  have HZ := Hd.mk (And.intro hm hz)
  clear hT hl hm hz
  go_enter Tryz.func9, Tryz.ntmps9
  go_wp2_with fail
  refine (snew_ok w).mono ?_
  rintro e w1 ⟨p, r, rfl, hs⟩
  have HS := Hd.mk hs
  clear hs
  go_wp2_with fail
  refine (new_ok _ L w1 (HL.out.1.upd HS.out.upd) (HL.out.2.upd HS.out.upd (by simp)) HZ.out.1 HZ.out.2).mono ?_
  rintro e w2 ⟨hb, tv, rv, rfl, hh, hu, hge⟩
  have HH := Hd.mk (And.intro hh (And.intro hu hge))
  clear hh hu hge
  go_wp2_with fail
  go_ret
  have h2 : Upd [] w2 (w2.alloc (.cells #[.pointer (some ⟨p, 0, none⟩), .pointer (some ⟨hb, 0, none⟩), .string tok, .bool false] 52)) := (Upd.refl [] w2).alloc _
  have h0 : Upd [] w w2 := HS.out.upd.trans HH.out.2.1 (by simp)
  have hz1 := HS.out.upd.size
  have hz2 := h0.size
  have hg := HH.out.2.2
  exact ⟨w2.heap.size, p, hb, r, tv, rv, rfl, ⟨Blk.new w2 [.pointer (some ⟨p, 0, none⟩), .pointer (some ⟨hb, 0, none⟩), .string tok, .bool false] 52 _ rfl, HS.out.beside (HH.out.2.1.trans h2 (by simp)) (by simp), HH.out.1.up h2, hz2, by show w.heap.size ≤ hb; omega⟩⟩
theorem Upd.setS {S : List Nat} {a w : World} (h : Upd S a w) (b i : Nat) (v : Value) (hb : b ∈ S) : Upd S a (w.setCell ⟨b, i, none⟩ v) := h.set _ _ (fun _ => hb)
def zCall : List Value := [.string ⟨#[]⟩, .string ⟨#[]⟩, .slice none 0 0, .string ⟨#[]⟩, .bool false, .int .i64 0, .int .i64 0, .int .i64 0, .string ⟨#[]⟩, .slice none 0 0, .slice none 0 0, .bool false, .string ⟨#[]⟩]
structure RtW (w0 w : World) (s : Ws) (x5 x8 x9 : Nat) (mb tb : ByteArray) (fl : Value) (bo : ByteArray) (cl : Bool) (W : World) : Prop where
  b5 : Blk W x5 [.string mb, .string tb, fl, .string bo, .bool cl] 30
  b8 : Blk W x8 zCall 35
  b9 : Blk W x9 [s.tv, .int .i64 s.ver, s.rv] 48
  h : Hw w0 W s
  u : Upd [] w W
theorem RtW.up {w0 w : World} {s : Ws} {x5 x8 x9 : Nat} {mb tb : ByteArray} {fl : Value} {bo : ByteArray} {cl : Bool} {W W' : World} (h : RtW w0 w s x5 x8 x9 mb tb fl bo cl W) (hu : Upd [] W W') : RtW w0 w s x5 x8 x9 mb tb fl bo cl W' := ⟨hu.blk h.b5 (by simp), hu.blk h.b8 (by simp), hu.blk h.b9 (by simp), h.h.up hu, h.u.trans hu (by simp)⟩
def MowQ (R : Mt × Bool) (w : World) (e : Ending) (w' : World) : Prop := ∃ (pa : Option Addr) (pn pc : Nat) (aa : Option Addr) (an ac : Nat), e = .returned (.tuple #[.agg #[.string ⟨R.1.h.toArray⟩, .slice pa pn pc, .slice aa an ac], .bool R.2]) ∧ (R.2 = true → pn = R.1.P.length ∧ Bld w w' 94 2 (.slice pa pn pc) R.1.P.length (pcells R.1.P)) ∧ Upd [] w w'
theorem Tr.match_own (v lv : Value) (L : List Rt) (mth : Bs) (l : List Bs) (w : World) (ht : Tr w v L) (hl : RdS w 1 lv l.length (l.map S)) (hz : sumL l ≤ 4503599627370496) (hn : l.length ≤ 12) (hk : L.length ≤ 100) :
    Calls Tryz.prog 31 #[v, S mth, lv] w (MowQ (mtL L mth l) w) := by
  obtain ⟨⟨n, h1, h2⟩, h3⟩ := ht
  have hf := h2.flat l
  refine (match_ok v lv n L.length mth l w h1 h2.ok hl hz ?_ ?_).mono ?_
  · intro en he r hr
    have hm : r ∈ (visit n l).flatten := List.mem_flatten.2 ⟨en, he, hr⟩
    rw [hf] at hm
    have := flatL_mem hm
    refine ⟨h3 r this.1, ?_⟩
    have h4 := cands_len l _ this.2
    simpa [shp] using h4
  · rw [hf]
    have h4 := flatL_len L l
    have h5 := cands_count l
    have h6 : 2 ^ (l.length + 1) ≤ 2 ^ 13 := Nat.pow_le_pow_right (by omega) (by omega)
    have h7 : (cands l).length ≤ 8191 := by omega
    have h8 : (cands l).length * L.length ≤ 8191 * 100 := Nat.mul_le_mul h7 hk
    omega
  · rw [hf]
    rintro e w' (⟨r, pv, hr, rfl, hb⟩ | ⟨av, hr, rfl, hb, hu⟩)
    · unfold mtL
      rw [hr]
      obtain ⟨pa, pc, rfl⟩ := hb.sl.form
      exact ⟨pa, _, pc, none, 0, 0, rfl, fun _ => ⟨rfl, hb⟩, hb.upd⟩
    · unfold mtL
      rw [hr]
      obtain ⟨aa, ac, rfl, -⟩ := hb
      exact ⟨none, 0, 0, aa, _, ac, rfl, fun h => by simp at h, hu⟩
def RouteQ (s : Ws) (mb tb : ByteArray) (fl : Value) (bo : ByteArray) (cl : Bool) (cn sq : Int) (R : Mt × Bool) (w : World) (e : Ending) (w' : World) : Prop :=
  ∃ (pa : Option Addr) (pn pc : Nat) (aa : Option Addr) (an ac : Nat), e = .returned (.agg (Cc.cells ⟨mb, tb, fl, bo, cl, cn, sq, s.ver, ⟨R.1.h.toArray⟩, .slice pa pn pc, .slice aa an ac, R.2, s.tok⟩).toArray) ∧ (R.2 = true → RdP w' (.slice pa pn pc) R.1.P) ∧ Upd [] w w'
set_option maxRecDepth 100000 in
set_option maxHeartbeats 8000000 in
theorem route_ok (w0 w : World) (s : Ws) (h : Hw w0 w s) (mb tb : ByteArray) (fa : Option Addr) (fn fc : Nat) (bo : ByteArray) (cl : Bool) (cn sq : Int) (l : List Bs) (ht : (37 : UInt8) ∉ tb.data.toList) (htz : tb.data.toList.length ≤ 100000) (hl : splitT tb.data.toList = some l) (hn : l.length ≤ 12) (hz : sumL l ≤ 4503599627370496) :
    Calls Tryz.prog 11 #[.pointer (some ⟨s.wb, 0, none⟩), .agg #[.string mb, .string tb, .slice fa fn fc, .string bo, .bool cl], .int .i64 cn, .int .i64 sq] w (RouteQ s mb tb (.slice fa fn fc) bo cl cn sq (mtL s.L mb.data.toList l) w) := by
  have HH := Hd.mk h
  have HSP := Hd.mk (fun W => split_plain tb.data.toList W htz ht)
  rw [hl, show S tb.data.toList = .string tb by simp [S]] at HSP
  have HM := Hd.mk (fun W (hW : Hw w0 W s) lv (hlv : RdS W 1 lv l.length (l.map S)) => Tr.match_own s.tv lv s.L mb.data.toList l W hW.hol.sn.tr hlv hz hn (by have := hW.hol.sn.len; omega))
  rw [show S mb.data.toList = .string mb by simp [S]] at HM
  have c0 := fun Z1 Z2 => ((h.blk.alloc Z1).alloc Z2).cell 1
  clear h ht htz hl hn hz
  simp only [List.getElem?_cons_zero, List.getElem?_cons_succ] at c0
  generalize mtL s.L mb.data.toList l = R at *
  obtain ⟨tb2, htv⟩ := HH.out.hol.sn.ptr
  obtain ⟨ra, rc, hrv⟩ := HH.out.hol.sn.rs.form
  go_enter Tryz.func11, Tryz.ntmps11
  go_upto_region 1 with (fail)
  have U0 := ((Upd.refl [] w).alloc (.cells #[.string mb, .string tb, .slice fa fn fc, .string bo, .bool cl] 30)).alloc (.cells zCall.toArray 35)
  have B5 := (Blk.new w [.string mb, .string tb, .slice fa fn fc, .string bo, .bool cl] 30 _ rfl).alloc (.cells zCall.toArray 35)
  have B8 := Blk.new (w.alloc (.cells #[.string mb, .string tb, .slice fa fn fc, .string bo, .bool cl] 30)) zCall 35 (w.heap.size + 1) (by simp)
  have HB := Hd.mk (And.intro B5 (And.intro B8 U0))
  clear U0 B5 B8
  have HLD := Hd.mk (fun W (hW : Hw w0 W s) => load_ok s.hb s.ver s.tv s.rv s.L W hW.hol)
  rw [htv, hrv] at HLD
  rw [htv] at HM
  go_wp2_with fail
  refine (HLD.out _ (HH.out.up HB.out.2.2)).mono ?_
  rintro e w1 ⟨rfl, u1⟩
  have HB := Hd.mk (And.intro (u1.blk HB.out.1 (by simp)) (And.intro (u1.blk HB.out.2.1 (by simp)) (HB.out.2.2.trans u1 (by simp))))
  clear u1 c0
  go_upto_region 2 with (fail)
  obtain ⟨x5, hx5⟩ : ∃ x, w.heap.size = x := ⟨_, rfl⟩
  obtain ⟨x8, hx8⟩ : ∃ x, w.heap.size + 1 = x := ⟨_, rfl⟩
  obtain ⟨x9, hx9⟩ : ∃ x, w1.heap.size = x := ⟨_, rfl⟩
  have HX := Hd.mk (And.intro hx5 (And.intro hx8 (show x8 < x9 by have := HB.out.2.1.lt; omega)))
  have HS := Hd.mk (show RtW w0 w s x5 x8 x9 mb tb (.slice fa fn fc) bo cl (w1.alloc (.cells #[.pointer (some ⟨tb2, 0, none⟩), .int .i64 s.ver, .slice ra s.L.length rc] 48)) from by
    have ua := (Upd.refl [] w1).alloc (.cells #[.pointer (some ⟨tb2, 0, none⟩), .int .i64 s.ver, .slice ra s.L.length rc] 48)
    refine ⟨by rw [← hx5]; exact ua.blk HB.out.1 (by simp), by rw [← hx8]; exact ua.blk HB.out.2.1 (by simp), ?_, HH.out.up (HB.out.2.2.trans ua (by simp)), HB.out.2.2.trans ua (by simp)⟩
    rw [htv, hrv]
    exact Blk.new w1 _ _ _ hx9.symm)
  rw [hx8, hx5, hx9]
  clear hx5 hx8 hx9 HB
  refine wp_abs (RtW w0 w s x5 x8 x9 mb tb (.slice fa fn fc) bo cl) HS.out ?_
  clear HS
  intro w2 hw2
  obtain ⟨w4, hw4⟩ : ∃ w4, w2.drew = w4 := ⟨_, rfl⟩
  have HS := Hd.mk (show RtW w0 w s x5 x8 x9 mb tb (.slice fa fn fc) bo cl w4 by rw [← hw4]; exact hw2.up ((Upd.refl [] w2).drew))
  clear hw2
  refine wp_mk_tail (fun X => X = w4 ∨ X = w4.alloc (.cells #[.string ⟨#[]⟩, .string ⟨#[]⟩, .slice none 0 0, .string ⟨#[]⟩, .bool false, .int .i64 0, .int .i64 0, .int .i64 0, .string ⟨#[]⟩, .slice none 0 0, .slice none 0 0, .bool false, .string ⟨#[]⟩] 35)) 10 11 _ (fun _ => by rw [hw4]) (by kernel_rfl) (by kernel_rfl) (by decide) rfl (by decide +kernel) (fun _ => ?_)
  have kk : ∀ (x : Cls (fun X => X = w4 ∨ X = w4.alloc (.cells #[.string ⟨#[]⟩, .string ⟨#[]⟩, .slice none 0 0, .string ⟨#[]⟩, .bool false, .int .i64 0, .int .i64 0, .int .i64 0, .string ⟨#[]⟩, .slice none 0 0, .slice none 0 0, .bool false, .string ⟨#[]⟩] 35))) (a : Addr) (v : Value), w4.cell? a = some v → x.w.cell? a = some v := by
    rintro ⟨_, rfl | rfl⟩ a v h
    · exact h
    · exact (((Upd.refl [] _).alloc _).cell (block_lt_of_cell h) (by simp)).trans h
  have e0 := fun x => kk x _ _ (HS.out.b5.cell 0)
  have e1 := fun x => kk x _ _ (HS.out.b5.cell 1)
  have e2 := fun x => kk x _ _ (HS.out.b5.cell 2)
  have e3 := fun x => kk x _ _ (HS.out.b5.cell 3)
  have e4 := fun x => kk x _ _ (HS.out.b5.cell 4)
  have e5 := fun x => kk x _ _ (HS.out.b9.cell 1)
  have e6 := fun x => kk x _ _ (HS.out.h.blk.cell 2)
  rw [hw4]
  clear hw4 kk
  simp only [List.take_succ_cons, List.take_zero, List.drop_succ_cons, List.drop_zero]
  repeat (go_big_quiet_step (fail))
  refine wpQuiet_nil ?_
  refine ⟨.pointer (some ⟨w4.heap.size, 0, none⟩), by go_simp, by go_simp, ?_⟩
  refine wpQuiet_nil ?_
  clear e0 e1 e2 e3 e4 e5 e6
  go_upto_region 3 with (fail)
  obtain ⟨x10, hx10⟩ : ∃ x, w4.heap.size = x := ⟨_, rfl⟩
  rw [hx10]
  have HX3 := Hd.mk (And.intro hx10 (show x9 < x10 by have := HS.out.b9.lt; omega))
  refine wp_abs (fun W => Blk W x10 [.string mb, .string tb, .slice fa fn fc, .string bo, .bool cl, .int .i64 cn, .int .i64 sq, .int .i64 (s.ver : Int), .string ⟨#[]⟩, .slice none 0 0, .slice none 0 0, .bool false, .string s.tok] 35 ∧ RtW w0 w s x5 x8 x9 mb tb (.slice fa fn fc) bo cl W) ⟨Blk.new w4 [.string mb, .string tb, .slice fa fn fc, .string bo, .bool cl, .int .i64 cn, .int .i64 sq, .int .i64 (s.ver : Int), .string ⟨#[]⟩, .slice none 0 0, .slice none 0 0, .bool false, .string s.tok] 35 _ hx10.symm, HS.out.up ((Upd.refl [] w4).alloc _)⟩ ?_
  clear HS hx10
  intro w6 hw6
  have HS := Hd.mk hw6
  have d1 := hw6.2.b5.cell 1
  simp only [List.getElem?_cons_zero, List.getElem?_cons_succ] at d1
  clear hw6
  go_wp2_with fail
  refine (HSP.out w6).mono ?_
  rintro e w7 ⟨v, rfl, hv⟩
  simp only [Option.isSome_some, Option.getD_some] at hv ⊢
  obtain ⟨va, vc, rfl⟩ := hv.sl.form
  have HV := Hd.mk hv.sl.rs
  have HS := Hd.mk (And.intro (hv.upd.blk HS.out.1 (by simp)) (HS.out.2.up hv.upd))
  clear hv d1
  have d0 := HS.out.2.b5.cell 0
  have d1 := HS.out.2.b9.cell 0
  rw [htv] at d1
  simp only [List.getElem?_cons_zero, List.getElem?_cons_succ] at d0 d1
  go_wp2_with fail
  refine (HM.out w7 HS.out.2.h _ HV.out).mono ?_
  rintro e w8 ⟨pa, pn, pc, aa, an, ac, rfl, hb, hu⟩
  obtain ⟨hbt, hhb⟩ : ∃ t : ByteArray, (⟨R.1.h.toArray⟩ : ByteArray) = t := ⟨_, rfl⟩
  have HHB := Hd.mk hhb
  rw [hhb]
  clear hhb d0 d1
  have HLT7 := Hd.mk (And.intro HS.out.1.lt HS.out.2.b8.lt)
  have HS := Hd.mk (And.intro (hu.blk HS.out.1 (by simp)) (HS.out.2.up hu))
  have HPA := Hd.mk hb
  clear hb hu
  have D1 := HS.out.1
  have c0 := D1.cell 0
  have c1 := D1.cell 1
  have c2 := D1.cell 2
  have c3 := D1.cell 3
  have c4 := D1.cell 4
  have c5 := D1.cell 5
  have c6 := D1.cell 6
  have c7 := D1.cell 7
  have c8 := D1.cell 8
  have c9 := D1.cell 9
  have c10 := D1.cell 10
  have c11 := D1.cell 11
  have c12 := D1.cell 12
  simp only [List.getElem?_cons_zero, List.getElem?_cons_succ] at c0 c1 c2 c3 c4 c5 c6 c7 c8 c9 c10 c11 c12
  have g8 := D1.free 8
  have g9 := D1.free 9
  have g10 := D1.free 10
  have g11 := D1.free 11
  clear D1
  go_upto_region 6 with (fail)
  clear c0 c1 c2 c3 c4 c5 c6 c7 c8 c9 c10 c11 c12 g8 g9 g10 g11
  have hne : x8 ≠ x10 := by have := HX.out.2.2; have := HX3.out.2; omega
  refine wp_abs (fun W => Blk W x10 [.string mb, .string tb, .slice fa fn fc, .string bo, .bool cl, .int .i64 cn, .int .i64 sq, .int .i64 (s.ver : Int), .string hbt, .slice pa pn pc, .slice aa an ac, .bool R.2, .string s.tok] 35 ∧ Blk W x8 zCall 35 ∧ Upd [x10] w8 W) ⟨((((HS.out.1.set 8 _).set 9 _).set 10 _).set 11 _).as rfl, (((HS.out.2.b8.set_ne ⟨x10, 8, none⟩ _ hne).set_ne ⟨x10, 9, none⟩ _ hne).set_ne ⟨x10, 10, none⟩ _ hne).set_ne ⟨x10, 11, none⟩ _ hne, ((((Upd.refl [x10] w8).set _ _ (by simp)).set _ _ (by simp)).set _ _ (by simp)).set _ _ (by simp)⟩ ?_
  intro w9 hw9
  have HB := Hd.mk hw9
  have D1 := hw9.1
  have c0 := D1.cell 0
  have c1 := D1.cell 1
  have c2 := D1.cell 2
  have c3 := D1.cell 3
  have c4 := D1.cell 4
  have c5 := D1.cell 5
  have c6 := D1.cell 6
  have c7 := D1.cell 7
  have c8 := D1.cell 8
  have c9 := D1.cell 9
  have c10 := D1.cell 10
  have c11 := D1.cell 11
  have c12 := D1.cell 12
  simp only [List.getElem?_cons_zero, List.getElem?_cons_succ] at c0 c1 c2 c3 c4 c5 c6 c7 c8 c9 c10 c11 c12
  have D2 := hw9.2.1
  unfold zCall at D2
  have z0 := D2.cell 0
  have z1 := D2.cell 1
  have z2 := D2.cell 2
  have z3 := D2.cell 3
  have z4 := D2.cell 4
  have z5 := D2.cell 5
  have z6 := D2.cell 6
  have z7 := D2.cell 7
  have z8 := D2.cell 8
  have z9 := D2.cell 9
  have z10 := D2.cell 10
  have z11 := D2.cell 11
  have z12 := D2.cell 12
  simp only [List.getElem?_cons_zero, List.getElem?_cons_succ] at z0 z1 z2 z3 z4 z5 z6 z7 z8 z9 z10 z11 z12
  have f0 := D2.free 0
  have f1 := D2.free 1
  have f2 := D2.free 2
  have f3 := D2.free 3
  have f4 := D2.free 4
  have f5 := D2.free 5
  have f6 := D2.free 6
  have f7 := D2.free 7
  have f8 := D2.free 8
  have f9 := D2.free 9
  have f10 := D2.free 10
  have f11 := D2.free 11
  have f12 := D2.free 12
  clear D1 D2 hw9
  go_wp2_with fail
  exact bodyPost_ret (results_cell _ _ _ 8 35 x8 [.string mb, .string tb, .slice fa fn fc, .string bo, .bool cl, .int .i64 cn, .int .i64 sq, .int .i64 (s.ver : Int), .string hbt, .slice pa pn pc, .slice aa an ac, .bool R.2, .string s.tok] 35 rfl rfl ((((((((((((((HB.out.2.1.set 0 _).set 1 _).set 2 _).set 3 _).set 4 _).set 5 _).set 6 _).set 7 _).set 8 _).set 9 _).set 10 _).set 11 _).set 12 _).as rfl) (by kernel_rfl) (by kernel_rfl)) rfl (by
    rw [← HHB.out]
    have hu1 : Upd [x10, x8] w8 w9 := HB.out.2.2.mono (by intro k _ h; simp at h; simp [h])
    have hu2 := fun (v0 v1 v2 v3 v4 v5 v6 v7 v8 v9 v10 v11 v12 : Value) => (((((((((((((hu1.setS x8 0 v0 (by simp)).setS x8 1 v1 (by simp)).setS x8 2 v2 (by simp)).setS x8 3 v3 (by simp)).setS x8 4 v4 (by simp)).setS x8 5 v5 (by simp)).setS x8 6 v6 (by simp)).setS x8 7 v7 (by simp)).setS x8 8 v8 (by simp)).setS x8 9 v9 (by simp)).setS x8 10 v10 (by simp)).setS x8 11 v11 (by simp)).setS x8 12 v12 (by simp))
    have h1 := HX.out.1
    have h2 := HX.out.2.1
    have h3 := HX.out.2.2
    have h4 := HX3.out.2
    refine ⟨pa, pn, pc, aa, an, ac, rfl, fun hR => ?_, (HS.out.2.u.trans (hu2 _ _ _ _ _ _ _ _ _ _ _ _ _) (fun k hlt hk => by simp only [List.mem_cons, List.not_mem_nil, or_false] at hk; omega))⟩
    obtain ⟨e1, hbl⟩ := HPA.out hR
    subst e1
    exact (hbl.sl.upd (hu2 _ _ _ _ _ _ _ _ _ _ _ _ _) (fun k hk hm => by
      have h5 := hbl.own k hk
      have h6 := HLT7.out.1
      have h7 := HLT7.out.2
      simp only [List.mem_cons, List.not_mem_nil, or_false] at hm
      omega)).rdp)
end Go.Proofs.YtndlbkiogagnaaaGreatDoor

namespace Go.Proofs.YtndlbkiogagnaaaGreatDoor
set_option linter.unusedSimpArgs false
set_option linter.unusedVariables false
set_option linter.unnecessarySimpa false
open Go.RowKit

theorem splitL_non (c : UInt8) : ∀ (t : Bs), c ∉ t → splitL c t = [t]
  | [], _ => rfl
  | x :: r, h => by
    have h1 : x ≠ c := fun e => h (by simp [e])
    rw [splitL, if_neg h1, splitL_non c r (fun e => h (by simp [e]))]
def walkL : Bs := [119, 97, 108, 107]
def movesL : Bs := [109, 111, 118, 101, 115]
def kvL : Bs := [107, 118]
def keyL : Bs := [107, 101, 121]
def gETL : Bs := [71, 69, 84]
def pUTL : Bs := [80, 85, 84]
def dELL : Bs := [68, 69, 76, 69, 84, 69]
def pOSTL : Bs := [80, 79, 83, 84]
theorem split_walk (x : Bs) (h1 : (47 : UInt8) ∉ x) (h2 : (63 : UInt8) ∉ x) : splitT ([47, 119, 97, 108, 107, 47] ++ x) = some [walkL, x] := by
  unfold splitT
  rw [splitL_non 63 _ (by simp [h2])]
  simp [splitU, splitL, splitL_non 47 x h1, walkL]
theorem split_kv (x : Bs) (h1 : (47 : UInt8) ∉ x) (h2 : (63 : UInt8) ∉ x) : splitT ([47, 107, 118, 47] ++ x) = some [kvL, x] := by
  unfold splitT
  rw [splitL_non 63 _ (by simp [h2])]
  simp [splitU, splitL, splitL_non 47 x h1, kvL]
theorem frs_shp : frsL.map shp = [[.word [104, 101, 97, 108, 116, 104]], [.word [97, 100, 109, 105, 110], .word [114, 111, 117, 116, 101, 115]], [.word [97, 100, 109, 105, 110], .word [115, 116, 111, 112]], [.word kvL, .any], [.word kvL, .any], [.word kvL, .any], [.word [108, 105, 115, 116], .all], [.word walkL, .any]] := by decide +kernel
theorem zip_filter (f : Rt → List Sg) (pat : List Sg) : ∀ L : List Rt, L.filter (fun r => decide (f r = pat)) = ((L.zip (L.map f)).filter fun p => decide (p.2 = pat)).map Prod.fst
  | [] => rfl
  | r :: L => by
    rw [List.map_cons, List.zip_cons_cons, List.filter_cons, List.filter_cons, zip_filter f pat L]
    by_cases h : f r = pat <;> simp [h]
theorem frs_flat (l : List Bs) : flatL frsL l = (cands l).flatMap fun pat => ((frsL.zip (frsL.map shp)).filter fun p => decide (p.2 = pat)).map Prod.fst := by
  unfold flatL
  congr 1
  funext pat
  exact zip_filter shp pat frsL
theorem mt_walk (x : Bs) (hx : x ≠ []) : mtL frsL gETL [walkL, x] = (⟨walkL, [(movesL, x)], []⟩, true) := by
  unfold mtL
  rw [frs_flat, frs_shp]
  simp [frsL, cands, hx, walkL, kvL, byM, gETL, List.filter_cons]
  rw [show segsL [47, 119, 97, 108, 107, 47, 58, 109, 111, 118, 101, 115] = [[119, 97, 108, 107], [58, 109, 111, 118, 101, 115]] by decide +kernel]
  simp [parL, parI, pone, kindL, movesL]
end Go.Proofs.YtndlbkiogagnaaaGreatDoor

namespace Go.Proofs.YtndlbkiogagnaaaGreatDoor
set_option linter.unusedSimpArgs false
set_option linter.unusedVariables false
set_option linter.unnecessarySimpa false
open Go.RowKit BigFrame

theorem Hw.ge {w0 w : World} {s : Ws} (h : Hw w0 w s) : ∀ k ∈ s.foot, w0.heap.size ≤ k := by
  intro k hk
  unfold Ws.foot at hk
  rcases List.mem_cons.1 hk with rfl | hk
  · exact h.wge
  · rcases List.mem_cons.1 hk with rfl | hk
    · exact h.hge
    · exact h.sto.new k hk
theorem Hw.trans0 {w0 w W : World} {s : Ws} (h : Hw w0 w s) (hu : Upd s.foot w W) : Upd [] w0 W := h.upd0.trans hu (fun k hlt hk => by have := h.ge k hk; omega)
theorem walkM_size {x : Bs} : True := trivial
theorem do_walk (w0 w : World) (s : Ws) (h : Hw w0 w s) (hT : Tab w0) (c : Cc) (x : Bs) (ow : Int) (hh : c.handler = walkB) (hp : RdP w c.params [(movesL, x)]) (hP : Passes w c) (hx : x.length ≤ 1000000) :
    Calls Tryz.prog 13 #[.pointer (some ⟨s.wb, 0, none⟩), .agg c.cells.toArray, .int .i64 ow] w (HQ s.foot (fun W => Hw w0 W s) (wkK (walkM x)) [(xid, idB c.conn c.seq), (xver, itoaB c.version)] (wkB (walkM x)) (false || c.close) w) := by
  refine do_ok s.foot (fun W => Hw w0 W s) c s.wb ow (wkK (walkM x)) [] (wkB (walkM x)) false w h.lt (Hw.keeps h.upd0 s) (fun W hu => hT.upd (h.trans0 hu)) (by simp) hP ?_
  intro W hu
  refine ans_oth_walk c ow (fun W => Hw w0 W s) _ _ w0 W s (h.up hu) hh ((Hw.keeps h.upd0 s).mono hu) ?_
  intro W2 hu2 hW2
  have := oth_walk c [(movesL, x)] ⟨x.toArray⟩ w0 W2 s hW2 (hT.upd hW2.upd0) hh ((hp.upd hu).upd hu2) rfl (by simp [ByteArray.size]; omega)
  simpa using this
set_option maxRecDepth 100000 in
set_option maxHeartbeats 4000000 in
theorem needs_walk (c : Cc) (w : World) (hh : c.handler = walkB) (hf : c.found = true) : Calls Tryz.prog 19 #[.agg c.cells.toArray] w fun e w' => e = .returned (.slice none 0 0) ∧ Upd [] w w' := by
  have HU := Hd.mk ((Upd.refl [] w).alloc (.cells c.cells.toArray 35))
  have D1 := Blk.new w c.cells 35 _ rfl
  obtain ⟨mm, tg, fl, bo, cs, cn, sq, vr, hd, pr, aw, fd, tk⟩ := c
  simp only at hh hf
  subst hh
  subst hf
  simp only [Cc.cells] at *
  have c0 := D1.cell 0
  have c1 := D1.cell 1
  have c2 := D1.cell 2
  have c3 := D1.cell 3
  have c4 := D1.cell 4
  have c5 := D1.cell 5
  have c6 := D1.cell 6
  have c7 := D1.cell 7
  have c8 := D1.cell 8
  have c9 := D1.cell 9
  have c10 := D1.cell 10
  have c11 := D1.cell 11
  have c12 := D1.cell 12
  simp only [List.getElem?_cons_zero, List.getElem?_cons_succ] at c0 c1 c2 c3 c4 c5 c6 c7 c8 c9 c10 c11 c12
  clear D1
  unfold walkB at *
  go_enter Tryz.func19, Tryz.ntmps19
  go_wp2_with fail
  go_ret
  exact ⟨rfl, HU.out⟩
def gETB : ByteArray := ⟨#[71, 69, 84]⟩
theorem route_walk (w0 w : World) (s : Ws) (h : Hw w0 w s) (hL : s.L = frsL) (x : Bs) (cn sq : Int) (tb : ByteArray) (htb : tb.data.toList = [47, 119, 97, 108, 107, 47] ++ x) (h0 : x ≠ []) (h1 : (47 : UInt8) ∉ x) (h2 : (63 : UInt8) ∉ x) (h3 : (37 : UInt8) ∉ x) (hx : x.length ≤ 1000) :
    Calls Tryz.prog 11 #[.pointer (some ⟨s.wb, 0, none⟩), .agg #[.string gETB, .string tb, .slice none 0 0, .string ⟨#[]⟩, .bool false], .int .i64 cn, .int .i64 sq] w (RouteQ s gETB tb (.slice none 0 0) ⟨#[]⟩ false cn sq (⟨walkL, [(movesL, x)], []⟩, true) w) := by
  have := route_ok w0 w s h gETB tb none 0 0 ⟨#[]⟩ false cn sq [walkL, x] (by rw [htb]; simp [h3]) (by rw [htb]; simp; omega) (by rw [htb]; exact split_walk x h1 h2) (by simp) (by simp [sumL, walkL]; omega)
  rw [hL, show gETB.data.toList = gETL from rfl, mt_walk x h0] at this
  exact this
theorem ok_i (n : Nat) (h : n ≤ 1000000) : okI (n : Int) := ⟨by omega, by omega⟩
theorem ff_k : wkK (walkM [70, 70]) = 200 := by decide +kernel
theorem ff_b : (wkB (walkM [70, 70])).data.toList = [50, 32, 48, 32, 49, 32, 48] := by decide +kernel
theorem fixL_nil : fixL [] = [] := by decide +kernel
/-- A new state, of the first table. -/
def FstQ (tok : ByteArray) (w : World) (e : Ending) (w' : World) : Prop := ∃ s : Ws, e = .returned (.pointer (some ⟨s.wb, 0, none⟩)) ∧ Hw w w' s ∧ s.L = frsL ∧ s.ver = 1 ∧ s.tok = tok ∧ s.m = (fun _ => none) ∧ s.n = (fun _ => 0) ∧ s.o = (fun _ => 0)
theorem hfirst_ok (tok : ByteArray) (a : Option Addr) (c : Nat) (w : World) (hT : HTab w) (hl : Sl w 90 3 (.slice a frsL.length c) frsL.length (frsL.flatMap Rt.cells)) :
    Calls Tryz.prog 9 #[.string tok, .slice a 8 c] w (FstQ tok w) := by
  refine (hnew_ok tok a c frsL w hT hl (by decide) (by decide)).mono ?_
  rintro e w' ⟨wb, p, hb, r, tv, rv, rfl, h⟩
  rw [first_fix] at h
  exact ⟨_, rfl, h, rfl, rfl, rfl, rfl, rfl, rfl⟩
set_option maxRecDepth 100000 in
set_option maxHeartbeats 8000000 in
theorem gfit_ok (w : World) (hT : Tab w ∧ HTab w) : Calls Tryz.prog 8 #[] w fun e w' => e = .returned (.bool true) ∧ Upd [] w w' := by
  have HT := Hd.mk hT
  clear hT
  have sf2 := snap_f2
  go_enter Tryz.func8, Tryz.ntmps8
  go_wp2_with fail
  refine (first_ok w HT.out.2).mono ?_
  rintro e w1 ⟨fa, fc, rfl, hb⟩
  have HB := Hd.mk hb
  clear hb
  go_wp2_with fail
  refine (hfirst_ok ⟨#[]⟩ fa fc w1 (HT.out.2.upd HB.out.upd) HB.out.sl).mono ?_
  rintro e w2 ⟨s, rfl, hs, e1, e2, e3, -⟩
  have HS := Hd.mk hs
  have HE := Hd.mk (And.intro e1 (And.intro e2 e3))
  have HU := Hd.mk (HB.out.upd.trans hs.upd0 (by simp) : Upd [] w w2)
  have HT1 := Hd.mk (show Tab w1 ∧ HTab w1 from ⟨HT.out.1.upd HB.out.upd, HT.out.2.upd HB.out.upd⟩)
  have HW1 := Hd.mk HB.out.upd.size
  clear hs e1 e2 e3 HB
  obtain ⟨tb, htb⟩ : ∃ tb : ByteArray, tb = ⟨#[47, 119, 97, 108, 107, 47, 70, 70]⟩ := ⟨_, rfl⟩
  have HR := Hd.mk (route_walk w1 w2 s HS.out HE.out.1 [70, 70] 0 0 tb (by rw [htb]; rfl) (by decide) (by decide) (by decide) (by decide) (by decide))
  rw [htb] at HR
  unfold gETB at HR
  clear htb
  go_wp2_with fail
  refine HR.out.mono ?_
  rintro e w3 ⟨pa, pn, pc, aa, an, ac, rfl, hp, hu⟩
  rw [HE.out.2.1, HE.out.2.2]
  have HS3 := Hd.mk (HS.out.up hu)
  have HPA := Hd.mk (hp rfl)
  simp only [Cc.cells] at *
  have HU := Hd.mk (HU.out.trans hu (by simp))
  clear hp hu HR
  obtain ⟨cc, hcc⟩ : ∃ cc : Cc, cc = ⟨⟨#[71, 69, 84]⟩, ⟨#[47, 119, 97, 108, 107, 47, 70, 70]⟩, .slice none 0 0, ⟨#[]⟩, false, 0, 0, ((1 : Nat) : Int), ⟨#[119, 97, 108, 107]⟩, .slice pa pn pc, .slice aa an ac, true, ⟨#[]⟩⟩ := ⟨_, rfl⟩
  have hcl : cc.cells = [.string ⟨#[71, 69, 84]⟩, .string ⟨#[47, 119, 97, 108, 107, 47, 70, 70]⟩, .slice none 0 0, .string ⟨#[]⟩, .bool false, .int .i64 0, .int .i64 0, .int .i64 1, .string ⟨#[119, 97, 108, 107]⟩, .slice pa pn pc, .slice aa an ac, .bool true, .string ⟨#[]⟩] := by rw [hcc]; rfl
  have HD := Hd.mk (fun W (hu : Upd [] w3 W) => do_walk w1 W s (HS3.out.up hu) HT1.out.1 cc [70, 70] 1 (by rw [hcc]; rfl) (by rw [hcc]; exact HPA.out.upd hu) ⟨by rw [hcc]; exact .inl rfl, by rw [hcc]; exact .inl rfl, ⟨by rw [hcc], [], none, 0, by rw [hcc]; rfl, fun h => by simp at h, by simp⟩, by rw [hcc], by rw [hcc]; exact ok_i 0 (by decide), by rw [hcc]; exact ok_i 0 (by decide), by rw [hcc]; exact ok_i 1 (by decide)⟩ (by decide))
  have HN := Hd.mk (fun W => needs_walk cc W (by rw [hcc]; rfl) (by rw [hcc]))
  rw [hcl, ff_k] at HD
  rw [hcl] at HN
  clear hcc hcl
  generalize hwb : wkB (walkM [70, 70]) = wb4 at *
  have y1 := lit_yes (show wb4.data.toList = [50, 32, 48, 32, 49, 32, 48] by rw [← hwb]; exact ff_b)
  clear hwb
  go_upto_region 5 with (fail)
  obtain ⟨x2, hx2⟩ : ∃ x, w3.heap.size = x := ⟨_, rfl⟩
  refine wp_abs (fun W => Blk W x2 [.string ⟨#[71, 69, 84]⟩, .string ⟨#[47, 119, 97, 108, 107, 47, 70, 70]⟩, .slice none 0 0, .string ⟨#[]⟩, .bool false, .int .i64 0, .int .i64 0, .int .i64 1, .string ⟨#[119, 97, 108, 107]⟩, .slice pa pn pc, .slice aa an ac, .bool true, .string ⟨#[]⟩] 35 ∧ Upd [] w3 W) ⟨Blk.new w3 _ _ _ hx2.symm, (Upd.refl [] w3).alloc _⟩ ?_
  rw [hx2]
  intro w4 hw4
  have HX := Hd.mk hw4
  have D1 := hw4.1
  have c0 := D1.cell 0
  have c1 := D1.cell 1
  have c2 := D1.cell 2
  have c3 := D1.cell 3
  have c4 := D1.cell 4
  have c5 := D1.cell 5
  have c6 := D1.cell 6
  have c7 := D1.cell 7
  have c8 := D1.cell 8
  have c9 := D1.cell 9
  have c10 := D1.cell 10
  have c11 := D1.cell 11
  have c12 := D1.cell 12
  simp only [List.getElem?_cons_zero, List.getElem?_cons_succ] at c0 c1 c2 c3 c4 c5 c6 c7 c8 c9 c10 c11 c12
  clear D1 hw4
  go_wp2_with fail
  refine (HD.out w4 HX.out.2).mono ?_
  rintro e w5 ⟨ra, rc, rfl, -, hk, hu⟩
  have hx : x2 ∉ s.foot := fun hm => by have := (HS3.out).lt _ hm; omega
  have D1 := hu.blk HX.out.1 hx
  have HK := Hd.mk hk
  have HU := Hd.mk (show Upd [] w w5 from (HU.out.trans HX.out.2 (by simp)).trans hu (fun k hlt hk => by have := HS3.out.ge k hk; have := HW1.out; omega))
  clear c0 c1 c2 c3 c4 c5 c6 c7 c8 c9 c10 c11 c12 hk hu hx
  simp only [Pc, List.length_cons, List.length_nil, Nat.zero_add, Nat.reduceAdd]
  generalize (false || cc.close) = qq
  go_upto_region 6 with (fail)
  obtain ⟨x3, hx3⟩ : ∃ x, w5.heap.size = x := ⟨_, rfl⟩
  rw [hx3]
  refine wp_abs (fun W => Blk W x2 [.string ⟨#[71, 69, 84]⟩, .string ⟨#[47, 119, 97, 108, 107, 47, 70, 70]⟩, .slice none 0 0, .string ⟨#[]⟩, .bool false, .int .i64 0, .int .i64 0, .int .i64 1, .string ⟨#[119, 97, 108, 107]⟩, .slice pa pn pc, .slice aa an ac, .bool true, .string ⟨#[]⟩] 35 ∧ Blk W x3 [.int .i64 200, .slice ra 2 rc, .string wb4, .bool qq] 40 ∧ Upd [] w W) ⟨D1.alloc _, Blk.new w5 _ _ _ hx3.symm, HU.out.alloc _⟩ ?_
  clear D1 hx3 HK HU
  intro w6 hw6
  have HU := Hd.mk hw6.2.2
  have D1 := hw6.1
  have D2 := hw6.2.1
  have c0 := D1.cell 0
  have c1 := D1.cell 1
  have c2 := D1.cell 2
  have c3 := D1.cell 3
  have c4 := D1.cell 4
  have c5 := D1.cell 5
  have c6 := D1.cell 6
  have c7 := D1.cell 7
  have c8 := D1.cell 8
  have c9 := D1.cell 9
  have c10 := D1.cell 10
  have c11 := D1.cell 11
  have c12 := D1.cell 12
  simp only [List.getElem?_cons_zero, List.getElem?_cons_succ] at c0 c1 c2 c3 c4 c5 c6 c7 c8 c9 c10 c11 c12
  have d0 := D2.cell 0
  have d1 := D2.cell 1
  have d2 := D2.cell 2
  have d3 := D2.cell 3
  simp only [List.getElem?_cons_zero, List.getElem?_cons_succ] at d0 d1 d2 d3
  clear D1 D2 hw6
  go_wp2_with fail
  refine (HN.out w6).mono ?_
  rintro e w7 ⟨rfl, u7⟩
  have HU := Hd.mk (HU.out.trans u7 (by simp))
  clear u7 c0 c1 c2 c3 c4 c5 c6 c7 c8 c9 c10 c11 c12 d0 d1 d2 d3
  go_wp2_with fail
  refine (new_ok (.slice none 0 0) [] w7 (HT.out.2.upd HU.out) (Sl.nil _ _ _) (by decide) (by simp)).mono ?_
  rintro e w8 ⟨hb, tv, rv, rfl, hh, hu, hge⟩
  rw [fixL_nil] at hh
  have HU := Hd.mk (HU.out.trans hu (by simp))
  have HLD := Hd.mk (load_ok hb 1 tv rv [] w8 hh)
  obtain ⟨tb2, rfl⟩ := hh.sn.ptr
  obtain ⟨ra2, rc2, rfl⟩ := hh.sn.rs.form
  clear hh hu hge
  go_wp2_with fail
  refine HLD.out.mono ?_
  rintro e w9 ⟨rfl, u9⟩
  have HU := Hd.mk (HU.out.trans u9 (by simp))
  clear u9
  simp only [List.length_nil]
  go_wp2_with fail
  refine (word_ok 200 w9).mono ?_
  rintro e w10 ⟨rfl, u10⟩
  have HU := Hd.mk (HU.out.trans u10 (by simp))
  have y3 := lit_yes (show (⟨(wordL (200 : Int).toNat).toArray⟩ : ByteArray).data.toList = [79, 75] by decide)
  simp only [S]
  obtain ⟨t3, ht3⟩ : ∃ t : ByteArray, (⟨(wordL (200 : Int).toNat).toArray⟩ : ByteArray) = t := ⟨_, rfl⟩
  rw [ht3] at y3 ⊢
  clear ht3 u10
  go_wp2_with fail
  go_ret
  exact ⟨rfl, HU.out⟩
end Go.Proofs.YtndlbkiogagnaaaGreatDoor

namespace Go.Proofs.YtndlbkiogagnaaaGreatDoor
set_option linter.unusedSimpArgs false
set_option linter.unusedVariables false
set_option linter.unnecessarySimpa false
open Go.RowKit BigFrame

theorem rng_not {s : Bs} (h : ∀ c ∈ s, 65 ≤ c.toNat) (k : UInt8) (hk : k.toNat < 65) : k ∉ s := fun hm => by have := h k hm; omega
structure WkF (w5 : World) (x5 x6 rb ro rc : Nat) (t : ByteArray) (q : Bool) (a b x y : Nat) (W : World) : Prop where
  b5 : Blk W x5 [.int .i64 200, .slice (some ⟨rb, ro, none⟩) 2 rc, .string t, .bool q] 40
  b6 : Blk W x6 [.complex .f64 a b, .complex .f64 x y] 57
  u : Upd [] w5 W
theorem WkF.up {w5 : World} {x5 x6 rb ro rc : Nat} {t : ByteArray} {q : Bool} {a b x y : Nat} {W W' : World} (h : WkF w5 x5 x6 rb ro rc t q a b x y W) (hu : Upd [] W W') : WkF w5 x5 x6 rb ro rc t q a b x y W' := ⟨hu.blk h.b5 (by simp), hu.blk h.b6 (by simp), h.u.trans hu (by simp)⟩
set_option maxRecDepth 100000 in
set_option maxHeartbeats 8000000 in
theorem walks_row (s : ByteArray) (w : World) (hT : Tab w ∧ HTab w) (hz : s.size ≤ 140737488351232) :
    Calls Tryz.prog 4 #[.string s] w fun e w' => e = .returned (.bool true) ∧ Below w.heap.size w w' := by
  have HT := Hd.mk hT
  clear hT
  have hlen : s.data.toList.length = s.size := by simp
  have HL := Hd.mk hlen
  clear hlen
  go_enter Tryz.func4, Tryz.ntmps4
  go_wp2_with fail
  refine (gfit_ok w HT.out).mono ?_
  rintro e w1 ⟨rfl, u1⟩
  have HU := Hd.mk u1
  clear u1
  by_cases h60 : 60 < s.size
  · have d0 : decide ((60 : Int) < s.size) = true := decide_eq_true (by omega)
    go_wp2_with fail
    go_ret
    exact ⟨rfl, HU.out.below _ (Nat.le_refl _) (by simp)⟩
  have d0 : decide ((60 : Int) < s.size) = false := decide_eq_false (by omega)
  by_cases h0 : s = ⟨#[]⟩
  · have hem := str_eq0 h0
    clear h0
    go_wp2_with fail
    go_ret
    exact ⟨rfl, HU.out.below _ (Nat.le_refl _) (by simp)⟩
  have hem := str_ne0 h0
  have HZ := Hd.mk (And.intro h60 h0)
  clear h0 h60
  go_wp2_with fail
  go_loopg [3, 19] s.size (fun g s3 ii wr => ∃ j : Nat, j + g = s.size ∧ ii = .int .i64 j ∧ wr = w1 ∧ Hd (∀ c ∈ s.data.toList.take j, 65 ≤ c.toNat))
  case atStart => exact ⟨0, by omega, rfl, rfl, Hd.mk (by simp)⟩
  case round =>
    obtain ⟨j, hj, rfl, rfl, HS⟩ := hrel
    by_cases hlt : j < s.size
    · have HTK : Hd (s.data.toList.take (j + 1) = s.data.toList.take j ++ [s[j]]) := Hd.mk (by rw [List.take_succ_eq_append_getElem (by simpa using hlt)]; rfl)
      by_cases d1 : s[j].toNat < 65
      · have D1 : decide ((s[j].toNat : Int) < 65) = true := decide_eq_true (by omega)
        clear d1
        go_wp2_with fail
        go_ret
        exact ⟨rfl, HU.out.below _ (Nat.le_refl _) (by simp)⟩
      · have D1 : decide ((s[j].toNat : Int) < 65) = false := decide_eq_false (by omega)
        have HD1 := Hd.mk d1
        clear d1
        by_cases d2 : 122 < s[j].toNat
        · have D2 : decide ((122 : Int) < s[j].toNat) = true := decide_eq_true (by omega)
          clear d2
          go_wp2_with fail
          go_ret
          exact ⟨rfl, HU.out.below _ (Nat.le_refl _) (by simp)⟩
        · have D2 : decide ((122 : Int) < s[j].toNat) = false := decide_eq_false (by omega)
          clear d2
          go_wp2_with fail
          go_roundg (gk - 1)
          case measure => omega
          case rel => exact ⟨j + 1, by omega, by go_num, rfl, Hd.mk (by
            rw [HTK.out]
            intro c hc
            rcases List.mem_append.1 hc with h | h
            · exact HS.out c h
            · rw [List.mem_singleton] at h
              subst h
              have := HD1.out
              omega)⟩
    · obtain rfl : j = s.size := by omega
      have HR := Hd.mk (show ∀ c ∈ s.data.toList, 65 ≤ c.toNat by have := HS.out; rw [← HL.out, List.take_length] at this; exact this)
      clear HS hj hem d0
      go_upto_region 11 with (fail)
      clear hlt
      go_wp2_with fail
      refine (first_ok wr (HT.out.2.upd HU.out)).mono ?_
      rintro e w2 ⟨fa, fc, rfl, hb⟩
      have HB := Hd.mk hb
      clear hb
      have HU := Hd.mk (HU.out.trans HB.out.upd (by simp))
      go_wp2_with fail
      refine (hfirst_ok ⟨#[]⟩ fa fc w2 (HT.out.2.upd HU.out) HB.out.sl).mono ?_
      rintro e w3 ⟨s0, rfl, hs, e1, e2, e3, -⟩
      have HS := Hd.mk hs
      have HE := Hd.mk (And.intro e1 (And.intro e2 e3))
      have HW := Hd.mk (And.intro HU.out.size (HT.out.1.upd HU.out))
      have HU := Hd.mk (HU.out.trans hs.upd0 (by simp) : Upd [] w w3)
      clear hs e1 e2 e3 HB
      have hxl : s.data.toList.length ≤ 60 := by rw [HL.out]; have := HZ.out.1; omega
      have hx0 : s.data.toList ≠ [] := fun e => HZ.out.2 (ByteArray.ext (Array.toList_inj.1 (by rw [e])))
      have HRT := Hd.mk (fun tb htb => route_walk w2 w3 s0 HS.out HE.out.1 s.data.toList 3 4 tb htb hx0 (rng_not HR.out 47 (by decide)) (rng_not HR.out 63 (by decide)) (rng_not HR.out 37 (by decide)) (by omega))
      have HXL := Hd.mk hxl
      clear hxl hx0
      unfold gETB at HRT
      go_wp2_with fail
      obtain ⟨tb, htb⟩ : ∃ tb : ByteArray, ⟨#[47, 119, 97, 108, 107, 47]⟩ ++ s = tb := ⟨_, rfl⟩
      rw [htb]
      refine (HRT.out tb (by rw [← htb]; simp)).mono ?_
      rintro e w4 ⟨pa, pn, pc, aa, an, ac, rfl, hp, hu⟩
      rw [HE.out.2.1, HE.out.2.2]
      have HS := Hd.mk (HS.out.up hu)
      have HPA := Hd.mk (hp rfl)
      have HU := Hd.mk (HU.out.trans hu (by simp))
      simp only [Cc.cells, walkL] at *
      clear hp hu HRT htb
      obtain ⟨cc, hcc⟩ : ∃ cc : Cc, cc = ⟨⟨#[71, 69, 84]⟩, tb, .slice none 0 0, ⟨#[]⟩, false, 3, 4, ((1 : Nat) : Int), ⟨#[119, 97, 108, 107]⟩, .slice pa pn pc, .slice aa an ac, true, ⟨#[]⟩⟩ := ⟨_, rfl⟩
      have hcl : cc.cells = [.string ⟨#[71, 69, 84]⟩, .string tb, .slice none 0 0, .string ⟨#[]⟩, .bool false, .int .i64 3, .int .i64 4, .int .i64 1, .string ⟨#[119, 97, 108, 107]⟩, .slice pa pn pc, .slice aa an ac, .bool true, .string ⟨#[]⟩] := by rw [hcc]; rfl
      have HD := Hd.mk (do_walk w2 w4 s0 HS.out HW.out.2 cc s.data.toList 1 (by rw [hcc]; rfl) (by rw [hcc]; exact HPA.out) ⟨by rw [hcc]; exact .inl rfl, by rw [hcc]; exact .inl rfl, ⟨by rw [hcc], [], none, 0, by rw [hcc]; rfl, fun h => by simp at h, by simp⟩, by rw [hcc], by rw [hcc]; exact ok_i 3 (by decide), by rw [hcc]; exact ok_i 4 (by decide), by rw [hcc]; exact ok_i 1 (by decide)⟩ (by have := HXL.out; omega))
      rw [hcl, show idB cc.conn cc.seq = idB 3 4 by rw [hcc]] at HD
      clear hcc hcl HPA
      have HWK := Hd.mk (fun W => walk_ok s W (by omega))
      have HO := Hd.mk (fun k (hm : walkM s.data.toList = some k) => show k.ok 41 by
        unfold walkM at hm
        split at hm
        · exact (steps_ok _ _ hm).more (by omega)
        · cases hm)
      generalize walkM s.data.toList = o at *
      go_wp2_with fail
      refine HD.out.mono ?_
      rintro e w5 ⟨ra, rc, rfl, hrf, hk, hu⟩
      have HU := Hd.mk (show Upd [] w w5 from HU.out.trans hu (fun k hlt hk => by have := HS.out.ge k hk; have := HW.out.1; omega))
      clear hk hu HD
      obtain ⟨rb, ro, rfl, hrb, hrc⟩ := hrf (by simp)
      have r0 := (hrc 0 (by simp)).2
      have R0 := Hd.mk (And.intro hrb r0)
      clear hrf hrc r0
      simp only [Pc, List.length_cons, List.length_nil, Nat.zero_add, Nat.reduceAdd]
      generalize (false || cc.close) = qq
      go_upto_region 13 with (fail)
      obtain ⟨x5, hx5⟩ : ∃ x, w5.heap.size = x := ⟨_, rfl⟩
      rw [hx5]
      refine wp_abs (fun W => Blk W x5 [.int .i64 (wkK o), .slice (some ⟨rb, ro, none⟩) 2 rc, .string (wkB o), .bool qq] 40 ∧ Upd [] w5 W) ⟨Blk.new w5 _ _ _ hx5.symm, (Upd.refl [] w5).alloc _⟩ ?_
      clear hx5
      intro w6 hw6
      have HB := Hd.mk hw6
      clear hw6
      go_wp2_with fail
      refine (HWK.out w6).mono ?_
      rintro e w7 ⟨u7, hr⟩
      have HB := Hd.mk (And.intro (u7.blk HB.out.1 (by simp)) (HB.out.2.trans u7 (by simp)))
      clear u7
      cases o with
      | none =>
        simp only at hr
        subst hr
        simp only [zeroW]
        have b1 := HB.out.1.alloc (.cells zeroW.toArray 57)
        unfold zeroW at b1
        simp only [wkK] at b1
        have c0 := b1.cell 0
        have c1 := b1.cell 1
        have c2 := b1.cell 2
        have c3 := b1.cell 3
        simp only [List.getElem?_cons_zero, List.getElem?_cons_succ] at c0 c1 c2 c3
        clear b1
        go_wp2_with fail
        go_ret
        exact ⟨rfl, (HU.out.trans (HB.out.2.alloc _) (by simp)).below _ (Nat.le_refl _) (by simp)⟩
      | some k =>
        simp only at hr
        obtain ⟨cs, hcs, rfl⟩ := hr
        have HC := Hd.mk (And.intro hcs (HO.out k rfl))
        obtain ⟨a, b, x, y, rfl, -⟩ := hcs
        simp only
        go_upto_region 14 with (fail)
        obtain ⟨x6, hx6⟩ : ∃ x, w7.heap.size = x := ⟨_, rfl⟩
        rw [hx6]
        refine wp_abs (fun W => Blk W x5 [.int .i64 200, .slice (some ⟨rb, ro, none⟩) 2 rc, .string (k.upto 4), .bool qq] 40 ∧ Blk W x6 [.complex .f64 a b, .complex .f64 x y] 57 ∧ Upd [] w5 W) ⟨HB.out.1.alloc _, Blk.new w7 _ _ _ hx6.symm, HB.out.2.alloc _⟩ ?_
        clear HB hx6
        intro w8 hw8
        have HB := Hd.mk hw8
        clear hw8
        go_upto_region 16 with (fail)
        have r1 : w5.cell? ⟨rb, ro + 1, none⟩ = some (.string (idB 3 4)) := R0.out.2
        have y2 := lit_yes id34
        generalize idB 3 4 = idb at r1 y2
        have q0 : ∀ X : Cls (WkF w5 x5 x6 rb ro rc (k.upto 4) qq a b x y), X.w.cell? ⟨x5, 0, none⟩ = some (.int .i64 200) := fun X => X.ok.b5.cell 0
        have q1 : ∀ X : Cls (WkF w5 x5 x6 rb ro rc (k.upto 4) qq a b x y), X.w.cell? ⟨x5, 1, none⟩ = some (.slice (some ⟨rb, ro, none⟩) 2 rc) := fun X => X.ok.b5.cell 1
        have q2 : ∀ X : Cls (WkF w5 x5 x6 rb ro rc (k.upto 4) qq a b x y), X.w.cell? ⟨x5, 2, none⟩ = some (.string (k.upto 4)) := fun X => X.ok.b5.cell 2
        have q3 : ∀ X : Cls (WkF w5 x5 x6 rb ro rc (k.upto 4) qq a b x y), X.w.cell? ⟨x6, 0, none⟩ = some (.complex .f64 a b) := fun X => X.ok.b6.cell 0
        have q4 : ∀ X : Cls (WkF w5 x5 x6 rb ro rc (k.upto 4) qq a b x y), X.w.cell? ⟨x6, 1, none⟩ = some (.complex .f64 x y) := fun X => X.ok.b6.cell 1
        have q5 : ∀ X : Cls (WkF w5 x5 x6 rb ro rc (k.upto 4) qq a b x y), X.w.cell? ⟨rb, ro + 1, none⟩ = some (.string idb) := fun X => (X.ok.u.cell (p := ⟨rb, ro + 1, none⟩) R0.out.1 (by simp)).trans r1
        have HTX := Hd.mk (fun W (hu : Upd [] w5 W) => wtext_ok k [.complex .f64 a b, .complex .f64 x y] W HC.out.1 HC.out.2 ((HT.out.1.upd HU.out).upd hu))
        clear r1
        refine wp_region_cls (WkF w5 x5 x6 rb ro rc (k.upto 4) qq a b x y) (WkF.up ⟨HB.out.1, HB.out.2.1, HB.out.2.2⟩ (Upd.refl [] w8).drew) (by kernel_rfl) (by kernel_rfl) (fun _ => ?_)
        repeat (go_big_quiet_step (first | (go_at_call 17; rename_i X; with_reducible exact Calls.cls (HTX.out X.w X.ok.u) (fun e w' h => ⟨h.1, WkF.up X.ok h.2⟩))))
        refine wpQuiet_nil ?_
        intro _ hw'
        obtain ⟨nq, hw''⟩ := hw'
        subst hw''
        have HN := Hd.mk nq.ok
        generalize nq.w = w9 at HN ⊢
        clear q0 q1 q2 q3 q4 q5
        go_wp2_with fail
        go_ret
        exact ⟨rfl, (HU.out.trans HN.out.u (by simp)).below _ (Nat.le_refl _) (by simp)⟩
end Go.Proofs.YtndlbkiogagnaaaGreatDoor
