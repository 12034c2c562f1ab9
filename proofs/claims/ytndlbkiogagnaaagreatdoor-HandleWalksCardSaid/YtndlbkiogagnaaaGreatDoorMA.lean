/- Chain: links that let a call through, whose inner handle writes memory of its own. (With what it rests on, merged: K1, K2, K3, K4, G1, G2.) -/
import Derived.Test.YtndlbkiogagnaaaGreatDoorA5
import Derived.Test.YtndlbkiogagnaaaGreatDoorIt
import Derived.Test.YtndlbkiogagnaaaGreatDoorCq
import Derived.Recover
import Derived.Defers
import Derived.Test.YtndlbkiogagnaaaGreatDoorSl
import Derived.Deep.RegionLaw
import Derived.Deep.DeepCutAuto
import Derived.Deep.CutBlock
import Derived.Deep.LoopGhost
import Derived.LoopN
import Derived.Shelf.Abstract
namespace Go.Proofs.YtndlbkiogagnaaaGreatDoor
set_option linter.unusedSimpArgs false
set_option linter.unusedVariables false
set_option linter.unnecessarySimpa false
open Go.RowKit BigFrame

end Go.Proofs.YtndlbkiogagnaaaGreatDoor

namespace Go.Proofs.YtndlbkiogagnaaaGreatDoor
set_option linter.unusedSimpArgs false
set_option linter.unusedVariables false
set_option linter.unnecessarySimpa false
open Go.RowKit BigFrame

theorem mf (fn : Fn) (first cap : Array Value) (w : World) : (Instr.makeFunc fn first cap).run Tryz.prog w = .ok (.func fn first cap) w := rfl
theorem link_mark (f : Fn) (a b : Array Value) (w : World) : Calls Tryz.prog 68 #[.func f a b] w fun e w' => e = .returned (.func (.func 102) #[] #[.pointer (some ⟨w.heap.size, 0, none⟩)]) ∧ w' = w.alloc (.cells #[.func f a b] 96) := by
  have hmf := mf
  go_enter Tryz.func68, Tryz.ntmps68
  go_wp2_with fail
  go_ret
  exact ⟨rfl, rfl⟩
theorem link_safe (f : Fn) (a b : Array Value) (w : World) : Calls Tryz.prog 69 #[.func f a b] w fun e w' => e = .returned (.func (.func 103) #[] #[.pointer (some ⟨w.heap.size, 0, none⟩)]) ∧ w' = w.alloc (.cells #[.func f a b] 96) := by
  have hmf := mf
  go_enter Tryz.func69, Tryz.ntmps69
  go_wp2_with fail
  go_ret
  exact ⟨rfl, rfl⟩
theorem link_known (f : Fn) (a b : Array Value) (w : World) : Calls Tryz.prog 70 #[.func f a b] w fun e w' => e = .returned (.func (.func 105) #[] #[.pointer (some ⟨w.heap.size, 0, none⟩)]) ∧ w' = w.alloc (.cells #[.func f a b] 96) := by
  have hmf := mf
  go_enter Tryz.func70, Tryz.ntmps70
  go_wp2_with fail
  go_ret
  exact ⟨rfl, rfl⟩
theorem link_small (f : Fn) (a b : Array Value) (w : World) : Calls Tryz.prog 71 #[.func f a b] w fun e w' => e = .returned (.func (.func 106) #[] #[.pointer (some ⟨w.heap.size, 0, none⟩)]) ∧ w' = w.alloc (.cells #[.func f a b] 96) := by
  have hmf := mf
  go_enter Tryz.func71, Tryz.ntmps71
  go_wp2_with fail
  go_ret
  exact ⟨rfl, rfl⟩
theorem link_guard (f : Fn) (a b : Array Value) (w : World) : Calls Tryz.prog 72 #[.func f a b] w fun e w' => e = .returned (.func (.func 107) #[] #[.pointer (some ⟨w.heap.size, 0, none⟩)]) ∧ w' = w.alloc (.cells #[.func f a b] 96) := by
  have hmf := mf
  go_enter Tryz.func72, Tryz.ntmps72
  go_wp2_with fail
  go_ret
  exact ⟨rfl, rfl⟩
theorem link_routed (f : Fn) (a b : Array Value) (w : World) : Calls Tryz.prog 73 #[.func f a b] w fun e w' => e = .returned (.func (.func 108) #[] #[.pointer (some ⟨w.heap.size, 0, none⟩)]) ∧ w' = w.alloc (.cells #[.func f a b] 96) := by
  have hmf := mf
  go_enter Tryz.func73, Tryz.ntmps73
  go_wp2_with fail
  go_ret
  exact ⟨rfl, rfl⟩
/-- A call's cells. -/
structure Cc where
  method : ByteArray
  target : ByteArray
  fields : Value
  body : ByteArray
  close : Bool
  conn : Int
  seq : Int
  version : Int
  handler : ByteArray
  params : Value
  allow : Value
  found : Bool
  token : ByteArray
def Cc.cells (c : Cc) : List Value := [.string c.method, .string c.target, c.fields, .string c.body, .bool c.close, .int .i64 c.conn, .int .i64 c.seq, .int .i64 c.version, .string c.handler, c.params, c.allow, .bool c.found, .string c.token]
/-- A response's cells. -/
def Pc (k : Int) (a : Option Addr) (n cap : Nat) (body : ByteArray) (cl : Bool) : List Value := [.int .i64 k, .slice a n cap, .string body, .bool cl]
def w501 : ByteArray := ⟨(wordL 501 ++ [10]).toArray⟩
theorem Blk.set4 {w : World} {b : Nat} {cs : List Value} {t : TypeId} (h : Blk w b cs t) (hl : cs.length = 4) (x y z u : Value) : Blk ((((w.setCell ⟨b, 0, none⟩ x).setCell ⟨b, 1, none⟩ y).setCell ⟨b, 2, none⟩ z).setCell ⟨b, 3, none⟩ u) b [x, y, z, u] t := by
  refine Blk.as ((((h.set 0 x).set 1 y).set 2 z).set 3 u) ?_
  match cs, hl with
  | [_, _, _, _], _ => rfl
theorem Upd.set4 {a w : World} (h : Upd [] a w) {b : Nat} (hb : a.heap.size ≤ b) (x y z u : Value) : Upd [] a ((((w.setCell ⟨b, 0, none⟩ x).setCell ⟨b, 1, none⟩ y).setCell ⟨b, 2, none⟩ z).setCell ⟨b, 3, none⟩ u) :=
  (((h.set _ _ (by simp; omega)).set _ _ (by simp; omega)).set _ _ (by simp; omega)).set _ _ (by simp; omega)
theorem known_no (m : ByteArray) (c : Cc) (hm : c.method = m) (h1 : (m.toList == [71, 69, 84]) = false) (h2 : (m.toList == [80, 85, 84]) = false) (h3 : (m.toList == [80, 79, 83, 84]) = false) (h4 : (m.toList == [68, 69, 76, 69, 84, 69]) = false) (b : Nat) (w : World)
    (hf : c.fields = .slice none 0 0) (hp : c.params = .slice none 0 0) (ha : c.allow = .slice none 0 0) :
    Calls Tryz.prog 105 #[.agg c.cells.toArray, .pointer (some ⟨b, 0, none⟩)] w fun e w' => e = .returned (.agg (Pc 501 none 0 0 w501 false).toArray) ∧ Upd [] w w' := by
  obtain ⟨mm, tg, fl, bd, cl, cn, sq, vr, hd, pr, aw, fd, tk⟩ := c
  simp only at hm hf hp ha
  subst hm hf hp ha
  simp only [Cc.cells]
  go_enter Tryz.func105, Tryz.ntmps105
  go_wp2_with fail
  have hb := Blk.new (w.alloc (.cells #[.string mm, .string tg, .slice none 0 0, .string bd, .bool cl, .int .i64 cn, .int .i64 sq, .int .i64 vr, .string hd, .slice none 0 0, .slice none 0 0, .bool fd, .string tk] 35)) [.int .i64 0, .slice none 0 0, .string ⟨#[]⟩, .bool false] 40 (w.heap.size + 1) (by simp)
  have HU := Hd.mk (((Upd.refl [] w).alloc (.cells #[.string mm, .string tg, .slice none 0 0, .string bd, .bool cl, .int .i64 cn, .int .i64 sq, .int .i64 vr, .string hd, .slice none 0 0, .slice none 0 0, .bool fd, .string tk] 35)).alloc (.cells #[.int .i64 0, .slice none 0 0, .string ⟨#[]⟩, .bool false] 40))
  refine (plain_ok 501 false _ (by omega)).mono ?_
  rintro e w1 ⟨rfl, u1⟩
  have HB := Hd.mk (u1.blk hb (by simp))
  have HU := Hd.mk (HU.out.trans u1 (by simp))
  clear hb u1
  simp only [Rs.plain, Rs.cells, S, List.length_nil]
  have HW := Hd.mk (show (⟨(wordL 501 ++ [10]).toArray⟩ : ByteArray) = w501 from rfl)
  rw [HW.out, show ((501 : Nat) : Int) = 501 from rfl]
  have hb := HB.out
  have c0 := hb.cell 0
  have c1 := hb.cell 1
  have c2 := hb.cell 2
  have c3 := hb.cell 3
  simp only [List.getElem?_cons_zero, List.getElem?_cons_succ] at c0 c1 c2 c3
  have f0 := hb.free 0
  have f1 := hb.free 1
  have f2 := hb.free 2
  have f3 := hb.free 3
  clear hb
  go_wp2_with fail
  refine bodyPost_ret (results_cell _ _ _ 3 40 (w.heap.size + 1) (Pc 501 none 0 0 w501 false) 40 rfl rfl (HB.out.set4 rfl _ _ _ _) (by kernel_rfl) (by kernel_rfl)) rfl ⟨rfl, HU.out.set4 (by omega) _ _ _ _⟩
theorem idle (b : Nat) (w : World) : CallsD Tryz.prog 104 #[.pointer (some ⟨b, 0, none⟩)] .returning w fun e u' w' => e = .returned (.tuple #[]) ∧ u' = .returning ∧ w' = w := by
  refine callsD_of_wpS Tryz.func104 rfl fun c₀ cs hu => ?_
  apply wpS_seq
  apply wpS_region
  simp [wpOpsS, go_sem, recoverD, hu, Tryz.ntmps104, Exit.thenS]
  refine wpS_cond (t := false) (by simp [Act.eval, Array.replicate]) ?_
  simp only [Bool.false_eq_true, if_false]
  refine wpS_of_wp (wp_skip ?_)
  cases c₀
  simp_all [bodyPostS, results, Tryz.results104]
set_option maxHeartbeats 1000000 in
theorem safe_ret (c : Cc) (g b b2 : Nat) (k : Int) (a : Option Addr) (n cap : Nat) (bd : ByteArray) (cl : Bool) (w : World) (hc : w.cell? ⟨b, 0, none⟩ = some (.func (.func g) #[] #[.pointer (some ⟨b2, 0, none⟩)])) (hb : b < w.heap.size)
    (he : ∀ (args : Array Value) (W : World), (callFunc g args).run Tryz.prog W = .ok (.enter g args) W)
    (hin : ∀ W, Upd [] w W → Calls Tryz.prog g #[.agg c.cells.toArray, .pointer (some ⟨b2, 0, none⟩)] W fun e w' => e = .returned (.agg (Pc k a n cap bd cl).toArray) ∧ Upd [] W w') :
    Calls Tryz.prog 103 #[.agg c.cells.toArray, .pointer (some ⟨b, 0, none⟩)] w fun e w' => e = .returned (.agg (Pc k a n cap bd cl).toArray) ∧ Upd [] w w' := by
  have hmf := mf
  have HI := Hd.mk hin
  clear hin
  have B1 := Blk.new w c.cells 35 _ rfl
  have U1 := (Upd.refl [] w).alloc (.cells c.cells.toArray 35)
  have B2 := Blk.new (w.alloc (.cells c.cells.toArray 35)) [.int .i64 0, .slice none 0 0, .string ⟨#[]⟩, .bool false] 40 (w.heap.size + 1) (by simp)
  have U2 := U1.alloc (.cells #[.int .i64 0, .slice none 0 0, .string ⟨#[]⟩, .bool false] 40)
  have D1 := B1.alloc (.cells #[.int .i64 0, .slice none 0 0, .string ⟨#[]⟩, .bool false] 40)
  have hc2 := (U2.cell (p := ⟨b, 0, none⟩) hb (by simp)).trans hc
  have HB := Hd.mk (And.intro D1 (And.intro B2 U2))
  clear B1 B2 U1 U2 hc
  obtain ⟨mm, tg, fl, bo, cs, cn, sq, vr, hd, pr, aw, fd, tk⟩ := c
  simp only [Cc.cells] at *
  have c0 := D1.cell 0
  have c1 := D1.cell 1
  have c2 := D1.cell 2
  have c3 := D1.cell 3
  have c4 := D1.cell 4
  have c5 := D1.cell 5
  have c6 := D1.cell 6
  have c7 := D1.cell 7
  have c8 := D1.cell 8
  have c9 := D1.cell 9
  have c10 := D1.cell 10
  have c11 := D1.cell 11
  have c12 := D1.cell 12
  simp only [List.getElem?_cons_zero, List.getElem?_cons_succ] at c0 c1 c2 c3 c4 c5 c6 c7 c8 c9 c10 c11 c12
  clear D1
  go_enter_defers Tryz.func103, Tryz.ntmps103
  go_wp2_with fail
  refine (HI.out _ HB.out.2.2).mono ?_
  rintro e w1 ⟨rfl, u1⟩
  have HD := Hd.mk (And.intro (u1.blk HB.out.2.1 (by simp)) (HB.out.2.2.trans u1 (by simp)))
  have dd := HD.out.1
  clear u1
  have d0 := dd.cell 0
  have d1 := dd.cell 1
  have d2 := dd.cell 2
  have d3 := dd.cell 3
  simp only [List.getElem?_cons_zero, List.getElem?_cons_succ] at d0 d1 d2 d3
  have f0 := dd.free 0
  have f1 := dd.free 1
  have f2 := dd.free 2
  have f3 := dd.free 3
  clear dd
  simp only [Pc]
  go_wp2_with fail
  refine leaves_cons (f := 104) (args := #[.pointer (some ⟨w.heap.size + 1, 0, none⟩)]) (by simp) (by simp [go_sem]) ?_
  refine (idle _ _).mono ?_
  rintro e u' w'' ⟨rfl, rfl, rfl⟩
  exact ⟨_, results_cell _ _ _ 3 40 (w.heap.size + 1) (Pc k a n cap bd cl) 40 rfl rfl (HD.out.1.set4 rfl _ _ _ _) (by kernel_rfl) (by kernel_rfl), rfl, HD.out.2.set4 (by omega) _ _ _ _⟩
end Go.Proofs.YtndlbkiogagnaaaGreatDoor

namespace Go.Proofs.YtndlbkiogagnaaaGreatDoor
set_option linter.unusedSimpArgs false
set_option linter.unusedVariables false
set_option linter.unnecessarySimpa false
open Go.RowKit BigFrame

/-- Fields that can be read at a. -/
def RfB (w : World) (a : Option Addr) (fs : List (ByteArray × ByteArray)) : Prop := 0 < fs.length → ∃ b off, a = some ⟨b, off, none⟩ ∧ b < w.heap.size ∧ ∀ i (h : i < fs.length), w.cell? ⟨b, off + i * 2, none⟩ = some (.string fs[i].1) ∧ w.cell? ⟨b, off + i * 2 + 1, none⟩ = some (.string fs[i].2)
theorem RfB.upd {w w' : World} {a : Option Addr} {fs : List (ByteArray × ByteArray)} (h : RfB w a fs) (hu : Upd [] w w') : RfB w' a fs := by
  intro h0
  obtain ⟨b, off, ha, hb, hc⟩ := h h0
  have hsz := hu.size
  exact ⟨b, off, ha, by omega, fun i hi => ⟨(hu.cell (p := ⟨b, _, none⟩) hb (by simp)).trans (hc i hi).1, (hu.cell (p := ⟨b, _, none⟩) hb (by simp)).trans (hc i hi).2⟩⟩
theorem RfB.nil (w : World) (a : Option Addr) : RfB w a [] := fun h => by simp at h
def fcellsB (fs : List (ByteArray × ByteArray)) : List Value := fs.flatMap fun f => [.string f.1, .string f.2]
theorem fcellsB_len (fs : List (ByteArray × ByteArray)) : (fcellsB fs).length = fs.length * 2 := by
  unfold fcellsB
  induction fs with
  | nil => rfl
  | cons f t ih => rw [List.flatMap_cons, List.length_append, ih]; simp; omega
theorem fcellsB_at : ∀ (fs : List (ByteArray × ByteArray)) (i : Nat) (h : i < fs.length), (fcellsB fs)[i * 2]? = some (.string fs[i].1) ∧ (fcellsB fs)[i * 2 + 1]? = some (.string fs[i].2)
  | [], i, h => by simp at h
  | f :: t, 0, h => by simp [fcellsB]
  | f :: t, i + 1, h => by
    have := fcellsB_at t i (by simpa using h)
    unfold fcellsB at *
    rw [List.flatMap_cons]
    have e1 : (i + 1) * 2 = i * 2 + 1 + 1 := by omega
    rw [e1]
    simpa using this
theorem fcellsB_one (fs : List (ByteArray × ByteArray)) : (fcellsB fs).all (·.oneCell') = true := by
  rw [List.all_eq_true]
  intro v hv
  unfold fcellsB at hv
  rw [List.mem_flatMap] at hv
  obtain ⟨f, -, hv⟩ := hv
  simp at hv
  rcases hv with rfl | rfl <;> rfl
/-- append(two fields, some fields...). -/
theorem run_app_f (w : World) (ty : TypeId) (f1 f2 : ByteArray × ByteArray) (a : Option Addr) (n cap : Nat) (fs : List (ByteArray × ByteArray)) (hn : fs.length = n) (hs : n ≤ 100000) (h : RfB w a fs) :
    ∃ a' c' w', (Builtin.append_ #[28, 28] ty #[.slice (some ⟨w.heap.size, 0, none⟩) 2 2, .slice a n cap]).run Tryz.prog (w.alloc (.cells #[.string f1.1, .string f1.2, .string f2.1, .string f2.2] 62)) = .ok (.slice a' (n + 2) c') w' ∧ RfB w' a' (f1 :: f2 :: fs) ∧ (∀ b off, a' = some ⟨b, off, none⟩ → w.heap.size ≤ b) ∧ Upd [] w w' := by
  have hb := Blk.new w (fcellsB [f1, f2]) 62 _ rfl
  have hsl := hb.sl 2 2 rfl (by unfold maxLen; omega)
  by_cases h0 : n = 0
  · have hf : fs = [] := List.eq_nil_of_length_eq_zero (by omega)
    subst hf
    subst h0
    refine ⟨some ⟨w.heap.size, 0, none⟩, 2, w.alloc (.cells #[.string f1.1, .string f1.2, .string f2.1, .string f2.2] 62), ?_, fun _ => ⟨w.heap.size, 0, rfl, by simp, fun i hi => ?_⟩, fun b off e => by cases e; exact Nat.le_refl _, (Upd.refl _ _).alloc _⟩
    · obtain ⟨i, hi2, hz, hs2, hby⟩ := info_parts (show (Tryz.prog.info? 62).map (fun i => (i.zero, i.size, i.bytes)) = some (some (.agg #[.string ⟨#[]⟩, .string ⟨#[]⟩]), 2, 32) by kernel_rfl)
      cases a <;> simp [Builtin.append_, run_underlying Tryz.underlying28, sizeOf, typeInfo, hi2, Builtin.lenOf, Builtin.firstCells, loadCells, loadCellsFrom, storeCells]
    · have := fcellsB_at [f1, f2] i hi
      have c1 := hb.cell (0 + i * 2)
      have c2 := hb.cell (0 + i * 2 + 1)
      rw [Nat.zero_add] at c1 c2
      rw [Nat.zero_add]
      exact ⟨c1.trans this.1, c2.trans this.2⟩
  · obtain ⟨b, off, rfl, hbw, hc⟩ := h (by omega)
    obtain ⟨g, o, c', w', hr, h2, h3, h4, h5⟩ := run_append_sl (P := Tryz.prog) (w.alloc (.cells (fcellsB [f1, f2]).toArray 62)) 28 ty 62 (.agg #[.string ⟨#[]⟩, .string ⟨#[]⟩]) 2 32 Tryz.underlying28 (by kernel_rfl) rfl
      (.slice (some ⟨w.heap.size, 0, none⟩) 2 2) 2 (fcellsB [f1, f2]) hsl ⟨b, off, none⟩ n cap (fcellsB fs) (by rw [fcellsB_len, hn]) (fun j u hu => by
        rw [Addr.add_lit]
        have hj : j < n * 2 := by
          have := (List.getElem?_eq_some_iff.1 hu).1
          rw [fcellsB_len, hn] at this
          exact this
        have hcell : ∀ p : Addr, p.block = b → (w.alloc (.cells (fcellsB [f1, f2]).toArray 62)).cell? p = w.cell? p := fun p hp => ((Upd.refl [] w).alloc _).cell (by rw [hp]; exact hbw) (by simp)
        rw [hcell _ rfl]
        have hq := fcellsB_at fs (j / 2) (by omega)
        have hq2 := hc (j / 2) (by omega)
        rcases Nat.mod_two_eq_zero_or_one j with e | e
        · have ej : j = j / 2 * 2 := by omega
          rw [ej] at hu ⊢
          rw [hq.1] at hu
          rw [hq2.1]
          exact hu
        · have ej : j = j / 2 * 2 + 1 := by omega
          rw [ej] at hu ⊢
          rw [hq.2] at hu
          rw [← Nat.add_assoc, hq2.2]
          exact hu) (fcellsB_one fs) (by omega) (by unfold maxLen; omega) (by omega)
    refine ⟨some ⟨g, o, none⟩, c', w', ?_, fun _ => ⟨g, o, rfl, h5, fun i hi => ?_⟩, fun b off e => ?_, ?_⟩
    · rw [show n + 2 = 2 + n by omega]
      exact hr
    · simp only [List.length_cons] at hi
      have e : fcellsB [f1, f2] ++ fcellsB fs = fcellsB (f1 :: f2 :: fs) := by unfold fcellsB; simp
      rw [e] at h2
      have hq := fcellsB_at (f1 :: f2 :: fs) i (by simpa using hi)
      have k1 := h2.cell (i * 2) (by omega)
      have k2 := h2.cell (i * 2 + 1) (by omega)
      rw [← Nat.add_assoc] at k2
      exact ⟨k1.trans hq.1, k2.trans hq.2⟩
    · cases e
      rcases h4 with h4 | h4
      · simp [ownB] at h4
        omega
      · simp at h4
        omega
    · refine ((Upd.refl [] w).alloc _).trans h3 (fun k hk h => ?_)
      simp [ownB] at h
      omega
theorem step_func {P : Program} {ops : Array Oper} {o : Oper} {a : Act} {w : World} {K : Act → World → Prop} {Q : Exit → Act → World → Prop} {E : Prop} (hgd : o.guard = none) (f : FuncId) (xs : Array Operand) (ts : Array TypeId)
    (ho : o.op = .call { callee := .value (.func f), args := xs, argTypes := ts }) (vals : Array Value) (hv : xs.map a.eval = vals) (hcf : (callFunc f (#[] ++ vals ++ #[])).run P w = .ok (.enter f vals) w) (v : Value) (h : Calls P f vals w fun e w' => e = .returned v ∧ K (a.put o.dst v) w') :
    if Region.wanted o (yielded ops a.tmps) = true then Oper.wp P o a w K Q else E := by
  have hw : Region.wanted o (yielded ops a.tmps) = true := by simp [Region.wanted, hgd]
  rw [if_pos hw]
  subst hv
  have key : (execOp a.eval o).run P w = .ok (.enter f (xs.map a.eval)) w := by
    rw [← hcf]
    cases o
    simp only at ho
    subst ho
    rfl
  unfold Oper.wp
  rw [key]
  exact h.mono fun e w' h' => by obtain ⟨rfl, h2⟩ := h'; exact h2
theorem step_app_f {ops : Array Oper} {o : Oper} {act : Act} {w : World} {K : Act → World → Prop} {Q : Exit → Act → World → Prop} {E : Prop} (hgd : o.guard = none) (s x : Operand)
    (ho : o.op = .call { callee := .builtin .append, args := #[s, x], argTypes := #[28, 28] }) (f1 f2 : ByteArray × ByteArray) (a : Option Addr) (n cap : Nat) (fs : List (ByteArray × ByteArray)) (hn : fs.length = n) (hz : n ≤ 100000) (hr : RfB w a fs)
    (hs : act.eval s = .slice (some ⟨w.heap.size, 0, none⟩) 2 2) (hx : act.eval x = .slice a n cap)
    (h : ∀ a' c' w', RfB w' a' (f1 :: f2 :: fs) → (∀ b off, a' = some ⟨b, off, none⟩ → w.heap.size ≤ b) → Upd [] w w' → K (act.put o.dst (.slice a' (n + 2) c')) w') :
    if Region.wanted o (yielded ops act.tmps) = true then Oper.wp Tryz.prog o act (w.alloc (.cells #[.string f1.1, .string f1.2, .string f2.1, .string f2.2] 62)) K Q else E := by
  have hw : Region.wanted o (yielded ops act.tmps) = true := by simp [Region.wanted, hgd]
  rw [if_pos hw]
  obtain ⟨a', c', w', hq, h2, h4, h3⟩ := run_app_f w o.type f1 f2 a n cap fs hn hz hr
  unfold Oper.wp execOp
  simp only [ho, resolve, invoke, builtin, Sem.run_bind, Sem.run_pure, Result.andThen_ok, List.map_toArray, List.map_cons, List.map_nil, hs, hx, hq]
  exact h a' c' w' h2 h4 h3
/-- Worlds behind the inner handle: the boxes stand. -/
def Mk3 (w : World) (x1 x2 x3 : Nat) (cs zs ds : List Value) (W : World) : Prop := Blk W x1 cs 35 ∧ Blk W x2 zs 40 ∧ Blk W x3 ds 40 ∧ Upd [] w W
theorem Mk3.up {w W W' : World} {x1 x2 x3 : Nat} {cs zs ds : List Value} (h : Mk3 w x1 x2 x3 cs zs ds W) (hu : Upd [] W W') : Mk3 w x1 x2 x3 cs zs ds W' := ⟨hu.blk h.1 (by simp), hu.blk h.2.1 (by simp), hu.blk h.2.2.1 (by simp), h.2.2.2.trans hu (by simp)⟩
/-- Worlds behind the inner handle: the call's box and the answer's stand. -/
def MkW (w : World) (b1 b2 : Nat) (cs ds : List Value) (W : World) : Prop := Blk W b1 cs 35 ∧ Blk W b2 ds 40 ∧ Upd [] w W
theorem MkW.up {w W W' : World} {b1 b2 : Nat} {cs ds : List Value} (h : MkW w b1 b2 cs ds W) (hu : Upd [] W W') : MkW w b1 b2 cs ds W' := ⟨hu.blk h.1 (by simp), hu.blk h.2.1 (by simp), h.2.2.trans hu (by simp)⟩
theorem RfB.set {w : World} {a : Option Addr} {fs : List (ByteArray × ByteArray)} (h : RfB w a fs) (p : Addr) (v : Value) (hne : ∀ b off, a = some ⟨b, off, none⟩ → b ≠ p.block) : RfB (w.setCell p v) a fs := by
  intro h0
  obtain ⟨b, off, ha, hb, hc⟩ := h h0
  have hu : Upd [p.block] w (w.setCell p v) := (Upd.refl _ _).set _ _ (by simp)
  have hn : b ∉ [p.block] := by rw [List.mem_singleton]; exact hne b off ha
  have hsz := hu.size
  exact ⟨b, off, ha, by omega, fun i hi => ⟨(hu.cell (p := ⟨b, _, none⟩) hb hn).trans (hc i hi).1, (hu.cell (p := ⟨b, _, none⟩) hb hn).trans (hc i hi).2⟩⟩
/-- The answer's own box is written: the others stand. -/
theorem mark_set {w w3 w6 : World} {x1 x2 x3 : Nat} {cs zs : List Value} {k v bd cl : Value} (h : Mk3 w x1 x2 x3 cs zs [k, v, bd, cl] w3) (hu : Upd [] w3 w6) (h1 : w.heap.size = x1) (h2 : w.heap.size + 1 = x2) (h3 : x2 < x3) (v' : Value) :
    Mk3 w x1 x2 x3 cs zs [k, v', bd, cl] (w6.setCell ⟨x3, 1, none⟩ v') := by
  have h' := h.up hu
  exact ⟨h'.1.set_ne _ _ (by simp; omega), h'.2.1.set_ne _ _ (by simp; omega), h'.2.2.1.set 1 v', h'.2.2.2.set _ _ (by simp; omega)⟩
theorem mark_end {w w7 : World} {x1 x2 x3 : Nat} {cs zs ds : List Value} (h : Mk3 w x1 x2 x3 cs zs ds w7) (hz : zs.length = 4) (h1 : w.heap.size = x1) (h2 : w.heap.size + 1 = x2) (h3 : x2 < x3) (c x y z u : Value) :
    Blk (((((w7.setCell ⟨x3, 3, none⟩ c).setCell ⟨x2, 0, none⟩ x).setCell ⟨x2, 1, none⟩ y).setCell ⟨x2, 2, none⟩ z).setCell ⟨x2, 3, none⟩ u) x2 [x, y, z, u] 40 ∧ Upd [] w (((((w7.setCell ⟨x3, 3, none⟩ c).setCell ⟨x2, 0, none⟩ x).setCell ⟨x2, 1, none⟩ y).setCell ⟨x2, 2, none⟩ z).setCell ⟨x2, 3, none⟩ u) :=
  ⟨Blk.set4 (h.2.1.set_ne ⟨x3, 3, none⟩ c (by simp; omega)) hz x y z u, (h.2.2.2.set ⟨x3, 3, none⟩ c (by simp; omega)).set4 (by omega) x y z u⟩
theorem mark_rf {w7 : World} {a : Option Addr} {fs : List (ByteArray × ByteArray)} {x2 x3 n : Nat} (h : RfB w7 a fs) (h3 : x2 < x3) (hx : x3 < n) (hn : ∀ b off, a = some ⟨b, off, none⟩ → n ≤ b) (c x y z u : Value) :
    RfB (((((w7.setCell ⟨x3, 3, none⟩ c).setCell ⟨x2, 0, none⟩ x).setCell ⟨x2, 1, none⟩ y).setCell ⟨x2, 2, none⟩ z).setCell ⟨x2, 3, none⟩ u) a fs := by
  have h3' : ∀ b off, a = some ⟨b, off, none⟩ → b ≠ x3 := fun b off e q => by have := hn b off e; omega
  have h2' : ∀ b off, a = some ⟨b, off, none⟩ → b ≠ x2 := fun b off e q => by have := hn b off e; omega
  exact ((((h.set ⟨x3, 3, none⟩ c h3').set ⟨x2, 0, none⟩ x h2').set ⟨x2, 1, none⟩ y h2').set ⟨x2, 2, none⟩ z h2').set ⟨x2, 3, none⟩ u h2'
def okI (k : Int) : Prop := -9223372036854775808 ≤ k ∧ k ≤ 9223372036854775807
def idB (x y : Int) : ByteArray := itoaB x ++ ⟨#[45]⟩ ++ itoaB y
def xid : ByteArray := ⟨#[120, 45, 105, 100]⟩
def xver : ByteArray := ⟨#[120, 45, 118, 101, 114, 115, 105, 111, 110]⟩
/-- What a marked answer is. -/
def MarkQ (w : World) (k : Int) (fs : List (ByteArray × ByteArray)) (bd : ByteArray) (cl : Bool) (e : Ending) (w' : World) : Prop :=
  ∃ a cap, e = .returned (.agg (Pc k a fs.length cap bd cl).toArray) ∧ RfB w' a fs ∧ Upd [] w w'
set_option maxRecDepth 100000 in
set_option maxHeartbeats 2000000 in
theorem chmark_ok (c : Cc) (g b b2 : Nat) (k : Int) (fs : List (ByteArray × ByteArray)) (bd : ByteArray) (cl : Bool) (w : World) (hT : Tab w) (hn : fs.length ≤ 100000) (hi1 : okI c.conn) (hi2 : okI c.seq) (hi3 : okI c.version)
    (hc : w.cell? ⟨b, 0, none⟩ = some (.func (.func g) #[] #[.pointer (some ⟨b2, 0, none⟩)])) (hb : b < w.heap.size)
    (he : ∀ (args : Array Value) (W : World), (callFunc g args).run Tryz.prog W = .ok (.enter g args) W)
    (hin : ∀ W, Upd [] w W → Calls Tryz.prog g #[.agg c.cells.toArray, .pointer (some ⟨b2, 0, none⟩)] W (MarkQ W k fs bd cl)) :
    Calls Tryz.prog 102 #[.agg c.cells.toArray, .pointer (some ⟨b, 0, none⟩)] w (MarkQ w k ((xid, idB c.conn c.seq) :: (xver, itoaB c.version) :: fs) bd (cl || c.close)) := by
  have HI := Hd.mk hin
  have HT := Hd.mk hT
  clear hin hT
  have B1 := Blk.new w c.cells 35 _ rfl
  have U1 := (Upd.refl [] w).alloc (.cells c.cells.toArray 35)
  have B2 := Blk.new (w.alloc (.cells c.cells.toArray 35)) [.int .i64 0, .slice none 0 0, .string ⟨#[]⟩, .bool false] 40 (w.heap.size + 1) (by simp)
  have U2 := U1.alloc (.cells #[.int .i64 0, .slice none 0 0, .string ⟨#[]⟩, .bool false] 40)
  have D1 := B1.alloc (.cells #[.int .i64 0, .slice none 0 0, .string ⟨#[]⟩, .bool false] 40)
  have hc2 := (U2.cell (p := ⟨b, 0, none⟩) hb (by simp)).trans hc
  have HB := Hd.mk (And.intro D1 (And.intro B2 U2))
  clear B1 B2 U1 U2 hc
  obtain ⟨mm, tg, fl, bo, cs, cn, sq, vr, hd, pr, aw, fd, tk⟩ := c
  simp only [Cc.cells] at *
  have HI1 := Hd.mk hi1
  have HI2 := Hd.mk hi2
  have HI3 := Hd.mk hi3
  clear hi1 hi2 hi3
  have c0 := D1.cell 0
  have c1 := D1.cell 1
  have c2 := D1.cell 2
  have c3 := D1.cell 3
  have c4 := D1.cell 4
  have c5 := D1.cell 5
  have c6 := D1.cell 6
  have c7 := D1.cell 7
  have c8 := D1.cell 8
  have c9 := D1.cell 9
  have c10 := D1.cell 10
  have c11 := D1.cell 11
  have c12 := D1.cell 12
  simp only [List.getElem?_cons_zero, List.getElem?_cons_succ] at c0 c1 c2 c3 c4 c5 c6 c7 c8 c9 c10 c11 c12
  clear D1
  go_enter Tryz.func102, Tryz.ntmps102
  go_wp2_with fail
  refine (HI.out _ HB.out.2.2).mono ?_
  rintro e w1 ⟨a, cap, rfl, hrf, u1⟩
  have HB := Hd.mk (And.intro (u1.blk HB.out.1 (by simp)) (And.intro (u1.blk HB.out.2.1 (by simp)) (HB.out.2.2.trans u1 (by simp))))
  have HR := Hd.mk hrf
  clear u1 hrf c0 c1 c2 c3 c4 c5 c6 c7 c8 c9 c10 c11 c12
  simp only [Pc]
  go_upto_region 2 with (fail)
  obtain ⟨cc, hcc⟩ : ∃ l : List Value, [.string mm, .string tg, fl, .string bo, .bool cs, .int .i64 cn, .int .i64 sq, .int .i64 vr, .string hd, pr, aw, .bool fd, .string tk] = l := ⟨_, rfl⟩
  have HCC := Hd.mk hcc
  have m3 : Mk3 w w.heap.size (w.heap.size + 1) w1.heap.size cc [.int .i64 0, .slice none 0 0, .string ⟨#[]⟩, .bool false] [.int .i64 k, .slice a fs.length cap, .string bd, .bool cl] (w1.alloc (.cells #[.int .i64 k, .slice a fs.length cap, .string bd, .bool cl] 40)) :=
    ⟨by rw [← hcc]; exact HB.out.1.alloc _, HB.out.2.1.alloc _, Blk.new w1 _ _ _ rfl, HB.out.2.2.alloc _⟩
  have HR := Hd.mk (HR.out.upd ((Upd.refl [] w1).alloc (.cells #[.int .i64 k, .slice a fs.length cap, .string bd, .bool cl] 40)))
  refine wp_abs (fun W => Mk3 w w.heap.size (w.heap.size + 1) w1.heap.size cc [.int .i64 0, .slice none 0 0, .string ⟨#[]⟩, .bool false] [.int .i64 k, .slice a fs.length cap, .string bd, .bool cl] W ∧ RfB W a fs) ⟨m3, HR.out⟩ ?_
  have HN3 := Hd.mk (show w.heap.size + 1 < w1.heap.size from HB.out.2.1.lt)
  have hcd : cc[5]? = some (.int .i64 cn) ∧ cc[6]? = some (.int .i64 sq) ∧ cc[7]? = some (.int .i64 vr) ∧ cc[4]? = some (.bool cs) := by rw [← hcc]; exact ⟨rfl, rfl, rfl, rfl⟩
  have HCD := Hd.mk hcd
  clear m3 HB HR hcc hc2 hcd HCC
  obtain ⟨x2, hx2⟩ : ∃ x, w.heap.size + 1 = x := ⟨_, rfl⟩
  obtain ⟨x1, hx1⟩ : ∃ x, w.heap.size = x := ⟨_, rfl⟩
  obtain ⟨x3, hx3⟩ : ∃ x, w1.heap.size = x := ⟨_, rfl⟩
  rw [hx2, hx1, hx3]
  rw [hx2, hx3] at HN3
  have HX := Hd.mk (And.intro hx1 hx2)
  clear hx1 hx2 hx3
  rintro w2 ⟨m2, r2⟩
  have HM := Hd.mk m2
  have HR := Hd.mk r2
  clear m2 r2
  obtain ⟨R, hR⟩ : ∃ R : World → Prop, R = fun W => Mk3 w x1 x2 x3 cc [.int .i64 0, .slice none 0 0, .string ⟨#[]⟩, .bool false] [.int .i64 k, .slice a fs.length cap, .string bd, .bool cl] W ∧ RfB W a fs := ⟨_, rfl⟩
  have hRW : ∀ W, R W → Mk3 w x1 x2 x3 cc [.int .i64 0, .slice none 0 0, .string ⟨#[]⟩, .bool false] [.int .i64 k, .slice a fs.length cap, .string bd, .bool cl] W ∧ RfB W a fs := fun W h => by rw [hR] at h; exact h
  have hRM : ∀ x : Cls R, Mk3 w x1 x2 x3 cc [.int .i64 0, .slice none 0 0, .string ⟨#[]⟩, .bool false] [.int .i64 k, .slice a fs.length cap, .string bd, .bool cl] x.w ∧ RfB x.w a fs := fun x => hRW x.w x.ok
  have HRW := Hd.mk hRW
  have c1 : ∀ x : Cls R, x.w.cell? ⟨x1, 5, none⟩ = some (.int .i64 cn) := fun x => ((hRM x).1.1.cell 5).trans HCD.out.1
  have c2 : ∀ x : Cls R, x.w.cell? ⟨x1, 6, none⟩ = some (.int .i64 sq) := fun x => ((hRM x).1.1.cell 6).trans HCD.out.2.1
  have hR0 : R w2.drew := by rw [hR]; exact ⟨HM.out.up ((Upd.refl [] w2).drew), HR.out.upd ((Upd.refl [] w2).drew)⟩
  have hup : ∀ (x : Cls R) w', Upd [] x.w w' → R w' := fun x w' hu => by rw [hR]; exact ⟨(hRM x).1.up hu, (hRM x).2.upd hu⟩
  have htab : ∀ x : Cls R, Tab x.w := fun x => HT.out.upd (hRM x).1.2.2.2
  obtain ⟨i1, hi1⟩ : ∃ t, itoaB cn = t := ⟨_, rfl⟩
  obtain ⟨i2, hi2⟩ : ∃ t, itoaB sq = t := ⟨_, rfl⟩
  have z1 := itoaB_size cn HI1.out.1 HI1.out.2
  have z2 := itoaB_size sq HI2.out.1 HI2.out.2
  rw [hi1] at z1
  rw [hi2] at z2
  have HIT1 := Hd.mk (show ∀ x : Cls R, Calls Tryz.prog 44 #[.int .i64 cn] x.w fun e w'' => e = .returned (.string i1) ∧ ∃ y : Cls R, w'' = y.w from fun x => Calls.cls (itoa_ok cn x.w HI1.out.1 HI1.out.2 (htab x)) (fun e w' h => ⟨h.1.trans (by rw [hi1]), hup x w' h.2⟩))
  have HIT2 := Hd.mk (show ∀ x : Cls R, Calls Tryz.prog 44 #[.int .i64 sq] x.w fun e w'' => e = .returned (.string i2) ∧ ∃ y : Cls R, w'' = y.w from fun x => Calls.cls (itoa_ok sq x.w HI2.out.1 HI2.out.2 (htab x)) (fun e w' h => ⟨h.1.trans (by rw [hi2]), hup x w' h.2⟩))
  have HID := Hd.mk (show idB cn sq = i1 ++ ⟨#[45]⟩ ++ i2 by unfold idB; rw [hi1, hi2])
  clear hup htab hi1 hi2 hRM hRW hR HM HR
  refine wp_region_cls R hR0 (by kernel_rfl) (by kernel_rfl) (fun _ => ?_)
  repeat (go_big_quiet_step (first | (go_at_call 44; rename_i x; with_reducible exact HIT1.out x) | (go_at_call 44; rename_i x; with_reducible exact HIT2.out x)))
  refine wpQuiet_nil ?_
  intro _ hw'
  obtain ⟨nq, hw''⟩ := hw'
  subst hw''
  have HQ := Hd.mk (show Mk3 w x1 x2 x3 cc [.int .i64 0, .slice none 0 0, .string ⟨#[]⟩, .bool false] [.int .i64 k, .slice a fs.length cap, .string bd, .bool cl] nq.w ∧ RfB nq.w a fs from HRW.out _ nq.ok)
  clear c1 c2 hR0
  generalize nq.w = w3 at HQ ⊢
  go_upto_region 3 with (fail)
  rw [← HID.out]
  have hidz : (idB cn sq).size ≤ 100 := by
    rw [HID.out]
    simp only [ByteArray.size_append]
    have : (⟨#[45]⟩ : ByteArray).size = 1 := rfl
    omega
  clear z1 z2 HID HIT1 HIT2
  obtain ⟨idb, hidb⟩ : ∃ t, idB cn sq = t := ⟨_, rfl⟩
  rw [hidb] at hidz ⊢
  have HIDE := Hd.mk hidb
  obtain ⟨i3, hi3⟩ : ∃ t, itoaB vr = t := ⟨_, rfl⟩
  have z3 := itoaB_size vr HI3.out.1 HI3.out.2
  rw [hi3] at z3
  have HI3' := Hd.mk hi3
  clear hidb hi3
  have c7 := (HQ.out.1.1.cell 7).trans HCD.out.2.2.1
  have e1 := HQ.out.1.2.2.1.cell 1
  have f1 := HQ.out.1.2.2.1.free 1
  simp only [List.getElem?_cons_zero, List.getElem?_cons_succ] at e1
  have tok1 := HI3'
  go_region_law (first
    | (have _t := tok1; refine step_func rfl 44 #[.tmp 20] #[3] rfl #[.int .i64 vr] (by go_simp) (by go_simp) (.string i3) ?_; refine (itoa_ok vr _ HI3.out.1 HI3.out.2 (HT.out.upd (HQ.out.1.2.2.2.drew))).mono ?_; rintro e w4 ⟨he, u4⟩; rw [HI3'.out] at he; refine ⟨he, ?_⟩; clear he; have v4 : Upd [] w3 w4 := ((Upd.refl [] w3).drew).trans u4 (by simp); have U4 : Hd (True ∧ Upd [] w3 w4) := Hd.mk ⟨trivial, v4⟩; have R4 : Hd (RfB w4 a fs) := Hd.mk (HQ.out.2.upd v4); have e4 := (v4.blk HQ.out.1.2.2.1 (by simp)).cell 1; have e5 := ((v4.alloc (.cells #[.string ⟨#[120, 45, 105, 100]⟩, .string idb, .string ⟨#[120, 45, 118, 101, 114, 115, 105, 111, 110]⟩, .string i3] 62)).blk HQ.out.1.2.2.1 (by simp)).cell 1; simp only [List.getElem?_cons_zero, List.getElem?_cons_succ] at e4 e5; clear u4 v4 tok1 _t c7 e1 f1)
    | (have _t := R4; clear _t; refine step_app_f rfl (.tmp 23) (.tmp 25) rfl (⟨#[120, 45, 105, 100]⟩, idb) (⟨#[120, 45, 118, 101, 114, 115, 105, 111, 110]⟩, i3) a fs.length cap fs rfl hn R4.out (by go_simp) (by go_simp) ?_; intro a6 p6 w6 r6 n6 u6; have U6 : Hd (RfB w6 a6 ((⟨#[120, 45, 105, 100]⟩, idb) :: (⟨#[120, 45, 118, 101, 114, 115, 105, 111, 110]⟩, i3) :: fs) ∧ (∀ b off, a6 = some ⟨b, off, none⟩ → w3.heap.size ≤ b) ∧ Upd [] w3 w6) := Hd.mk ⟨r6, fun b off e => Nat.le_trans U4.out.2.size (n6 b off e), U4.out.2.trans u6 (by simp)⟩; have k6 := (U6.out.2.2.blk HQ.out.1.2.2.1 (by simp)).cell 1; have l6 := (U6.out.2.2.blk HQ.out.1.2.2.1 (by simp)).free 1; simp only [List.getElem?_cons_zero, List.getElem?_cons_succ] at k6; clear r6 n6 u6 e4 e5))
  all_goals
    have hz6 := HQ.out.1.2.2.1.lt
    have hu7 : Upd [x3] w6 (w6.setCell ⟨x3, 1, none⟩ (.slice a6 (fs.length + 2) p6)) := (Upd.refl _ _).set _ _ (by simp)
    have h7 := mark_set HQ.out.1 U6.out.2.2 HX.out.1 HX.out.2 HN3.out (.slice a6 (fs.length + 2) p6)
    have r7 := U6.out.1.set ⟨x3, 1, none⟩ (.slice a6 (fs.length + 2) p6) (fun b off e q => by have := U6.out.2.1 b off e; simp only at q; omega)
    refine wp_abs (fun W => Mk3 w x1 x2 x3 cc [.int .i64 0, .slice none 0 0, .string ⟨#[]⟩, .bool false] [.int .i64 k, .slice a6 (fs.length + 2) p6, .string bd, .bool cl] W ∧ RfB W a6 ((⟨#[120, 45, 105, 100]⟩, idb) :: (⟨#[120, 45, 118, 101, 114, 115, 105, 111, 110]⟩, i3) :: fs)) ⟨h7, r7⟩ ?_
    have HA6 := Hd.mk U6.out.2.1
    clear k6 l6 hu7 h7 r7 U6 hz6
    rintro w7 ⟨m7, r7⟩
    have HM := Hd.mk m7
    have HR7 := Hd.mk r7
    have b3 := m7.2.2.1
    have b2 := m7.2.1
    have hn23 : x2 ≠ x3 := by have := HN3.out; omega
    have hn32 : x3 ≠ x2 := fun e => hn23 e.symm
    have l3 := b3.free 3
    have g0 := b2.free 0
    have g1 := b2.free 1
    have g2 := b2.free 2
    have g3 := b2.free 3
    have a4 := (m7.1.cell 4).trans HCD.out.2.2.2
    have d0 := b3.cell 0
    have d1 := b3.cell 1
    have d2 := b3.cell 2
    have d3 := b3.cell 3
    simp only [List.getElem?_cons_zero, List.getElem?_cons_succ] at d0 d1 d2 d3
    have n0 := b2.cell 0
    have n1 := b2.cell 1
    have n2 := b2.cell 2
    have n3 := b2.cell 3
    simp only [List.getElem?_cons_zero, List.getElem?_cons_succ] at n0 n1 n2 n3
    clear m7 r7 b3 b2
    have HLT := Hd.mk HQ.out.1.2.2.1.lt
    cases cl with
    | false =>
      go_wp2_with fail
      have hq := mark_end HM.out rfl HX.out.1 HX.out.2 HN3.out (.bool cs) (.int .i64 k) (.slice a6 (fs.length + 2) p6) (.string bd) (.bool cs)
      have hr := mark_rf HR7.out HN3.out HLT.out HA6.out (.bool cs) (.int .i64 k) (.slice a6 (fs.length + 2) p6) (.string bd) (.bool cs)
      refine bodyPost_ret (results_cell _ _ _ 3 40 x2 (Pc k a6 (fs.length + 2) p6 bd cs) 40 rfl rfl hq.1 (by kernel_rfl) (by kernel_rfl)) rfl ⟨a6, p6, rfl, ?_, hq.2⟩
      rw [HIDE.out, HI3'.out]
      exact hr
    | true =>
      go_wp2_with fail
      have hq := mark_end HM.out rfl HX.out.1 HX.out.2 HN3.out (.bool true) (.int .i64 k) (.slice a6 (fs.length + 2) p6) (.string bd) (.bool true)
      have hr := mark_rf HR7.out HN3.out HLT.out HA6.out (.bool true) (.int .i64 k) (.slice a6 (fs.length + 2) p6) (.string bd) (.bool true)
      refine bodyPost_ret (results_cell _ _ _ 3 40 x2 (Pc k a6 (fs.length + 2) p6 bd true) 40 rfl rfl hq.1 (by kernel_rfl) (by kernel_rfl)) rfl ⟨a6, p6, rfl, ?_, hq.2⟩
      rw [HIDE.out, HI3'.out]
      exact hr
end Go.Proofs.YtndlbkiogagnaaaGreatDoor

namespace Go.Proofs.YtndlbkiogagnaaaGreatDoor
set_option linter.unusedSimpArgs false
set_option linter.unusedVariables false
set_option linter.unnecessarySimpa false
open Go.RowKit BigFrame

theorem all_none (f : Fn) (a b : Array Value) (p : Option Addr) (cap : Nat) (w : World) : Calls Tryz.prog 36 #[.func f a b, .slice p 0 cap] w fun e w' => e = .returned (.func f a b) ∧ w' = w := by
  go_enter Tryz.func36, Tryz.ntmps36
  go_upto_region 2 with (fail)
  refine wp_loop_rounds 1 ?_
  rw [rounds_succ]
  go_wp2_with fail
  go_ret
  exact ⟨rfl, rfl⟩
/-- What All makes of the six links. -/
structure Std (w w' : World) (n : Nat) (f : Value) : Prop where
  c5 : w'.cell? ⟨n + 5, 0, none⟩ = some (.func (.func 103) #[] #[.pointer (some ⟨n + 4, 0, none⟩)])
  c4 : w'.cell? ⟨n + 4, 0, none⟩ = some (.func (.func 105) #[] #[.pointer (some ⟨n + 3, 0, none⟩)])
  c3 : w'.cell? ⟨n + 3, 0, none⟩ = some (.func (.func 106) #[] #[.pointer (some ⟨n + 2, 0, none⟩)])
  c2 : w'.cell? ⟨n + 2, 0, none⟩ = some (.func (.func 107) #[] #[.pointer (some ⟨n + 1, 0, none⟩)])
  c1 : w'.cell? ⟨n + 1, 0, none⟩ = some (.func (.func 108) #[] #[.pointer (some ⟨n, 0, none⟩)])
  c0 : w'.cell? ⟨n, 0, none⟩ = some f
  sz : n + 5 < w'.heap.size
  upd : Upd [] w w'
set_option maxRecDepth 100000 in
theorem all_std (f : Fn) (a b : Array Value) (sb cap : Nat) (w : World) (n : Nat) (hn : w.heap.size = n) (h : Blk w sb [.func (.func 68) #[] #[], .func (.func 69) #[] #[], .func (.func 70) #[] #[], .func (.func 71) #[] #[], .func (.func 72) #[] #[], .func (.func 73) #[] #[]] 135) :
    Calls Tryz.prog 36 #[.func f a b, .slice (some ⟨sb, 0, none⟩) 6 cap] w fun e w' => e = .returned (.func (.func 102) #[] #[.pointer (some ⟨n + 5, 0, none⟩)]) ∧ Std w w' n (.func f a b) := by
  subst hn
  have HB := Hd.mk h
  clear h
  go_enter Tryz.func36, Tryz.ntmps36
  go_upto_region 2 with (fail)
  refine wp_loop_rounds 7 ?_
  have b0 := HB.out
  have c0 := b0.cell 0
  have c1 := b0.cell 1
  have c2 := b0.cell 2
  have c3 := b0.cell 3
  have c4 := b0.cell 4
  have c5 := b0.cell 5
  simp only [List.getElem?_cons_zero, List.getElem?_cons_succ] at c0 c1 c2 c3 c4 c5
  rw [rounds_succ]
  go_wp2_with fail
  refine (link_routed _ _ _ _).mono ?_
  rintro e w1 ⟨rfl, rfl⟩
  go_wp2_with fail
  clear c0 c1 c2 c3 c4 c5
  have b1 := b0.alloc (.cells #[.func f a b] 96)
  have d0 := b1.cell 0
  have d1 := b1.cell 1
  have d2 := b1.cell 2
  have d3 := b1.cell 3
  have d4 := b1.cell 4
  have d5 := b1.cell 5
  simp only [List.getElem?_cons_zero, List.getElem?_cons_succ] at d0 d1 d2 d3 d4 d5
  rw [rounds_succ]
  go_wp2_with fail
  refine (link_guard _ _ _ _).mono ?_
  rintro e w2 ⟨rfl, rfl⟩
  go_wp2_with fail
  clear d0 d1 d2 d3 d4 d5
  have b2 := b1.alloc (.cells #[.func (.func 108) #[] #[.pointer (some ⟨w.heap.size, 0, none⟩)]] 96)
  have e0 := b2.cell 0
  have e1 := b2.cell 1
  have e2 := b2.cell 2
  have e3 := b2.cell 3
  have e4 := b2.cell 4
  have e5 := b2.cell 5
  simp only [List.getElem?_cons_zero, List.getElem?_cons_succ] at e0 e1 e2 e3 e4 e5
  rw [rounds_succ]
  go_wp2_with fail
  refine (link_small _ _ _ _).mono ?_
  rintro e w3 ⟨rfl, rfl⟩
  go_wp2_with fail
  clear e0 e1 e2 e3 e4 e5
  have b3 := b2.alloc (.cells #[.func (.func 107) #[] #[.pointer (some ⟨w.heap.size + 1, 0, none⟩)]] 96)
  have f0 := b3.cell 0
  have f1 := b3.cell 1
  have f2 := b3.cell 2
  have f3 := b3.cell 3
  have f4 := b3.cell 4
  have f5 := b3.cell 5
  simp only [List.getElem?_cons_zero, List.getElem?_cons_succ] at f0 f1 f2 f3 f4 f5
  rw [rounds_succ]
  go_wp2_with fail
  refine (link_known _ _ _ _).mono ?_
  rintro e w4 ⟨rfl, rfl⟩
  go_wp2_with fail
  clear f0 f1 f2 f3 f4 f5
  have b4 := b3.alloc (.cells #[.func (.func 106) #[] #[.pointer (some ⟨w.heap.size + 1 + 1, 0, none⟩)]] 96)
  have g0 := b4.cell 0
  have g1 := b4.cell 1
  have g2 := b4.cell 2
  have g3 := b4.cell 3
  have g4 := b4.cell 4
  have g5 := b4.cell 5
  simp only [List.getElem?_cons_zero, List.getElem?_cons_succ] at g0 g1 g2 g3 g4 g5
  rw [rounds_succ]
  go_wp2_with fail
  refine (link_safe _ _ _ _).mono ?_
  rintro e w5 ⟨rfl, rfl⟩
  go_wp2_with fail
  clear g0 g1 g2 g3 g4 g5
  have b5 := b4.alloc (.cells #[.func (.func 105) #[] #[.pointer (some ⟨w.heap.size + 1 + 1 + 1, 0, none⟩)]] 96)
  have h0 := b5.cell 0
  have h1 := b5.cell 1
  have h2 := b5.cell 2
  have h3 := b5.cell 3
  have h4 := b5.cell 4
  have h5 := b5.cell 5
  simp only [List.getElem?_cons_zero, List.getElem?_cons_succ] at h0 h1 h2 h3 h4 h5
  rw [rounds_succ]
  go_wp2_with fail
  refine (link_mark _ _ _ _).mono ?_
  rintro e w6 ⟨rfl, rfl⟩
  go_wp2_with fail
  clear h0 h1 h2 h3 h4 h5
  have b6 := b5.alloc (.cells #[.func (.func 103) #[] #[.pointer (some ⟨w.heap.size + 1 + 1 + 1 + 1, 0, none⟩)]] 96)
  rw [rounds_succ]
  go_wp2_with fail
  go_ret
  refine ⟨rfl, ?_, ?_, ?_, ?_, ?_, ?_, by simp, ?_⟩
  · exact (Blk.new _ [.func (.func 103) #[] #[.pointer (some ⟨w.heap.size + 4, 0, none⟩)]] 96 (w.heap.size + 5) (by simp)).cell 0
  · exact ((Blk.new _ [.func (.func 105) #[] #[.pointer (some ⟨w.heap.size + 3, 0, none⟩)]] 96 (w.heap.size + 4) (by simp)).alloc _).cell 0
  · exact (((Blk.new _ [.func (.func 106) #[] #[.pointer (some ⟨w.heap.size + 2, 0, none⟩)]] 96 (w.heap.size + 3) (by simp)).alloc _).alloc _).cell 0
  · exact ((((Blk.new _ [.func (.func 107) #[] #[.pointer (some ⟨w.heap.size + 1, 0, none⟩)]] 96 (w.heap.size + 2) (by simp)).alloc _).alloc _).alloc _).cell 0
  · exact (((((Blk.new _ [.func (.func 108) #[] #[.pointer (some ⟨w.heap.size, 0, none⟩)]] 96 (w.heap.size + 1) (by simp)).alloc _).alloc _).alloc _).alloc _).cell 0
  · exact ((((((Blk.new _ [.func f a b] 96 w.heap.size rfl).alloc _).alloc _).alloc _).alloc _).alloc _).cell 0
  · exact (((((((Upd.refl [] w).alloc _).alloc _).alloc _).alloc _).alloc _).alloc _)
def linksL : List Value := [.func (.func 68) #[] #[], .func (.func 69) #[] #[], .func (.func 70) #[] #[], .func (.func 71) #[] #[], .func (.func 72) #[] #[], .func (.func 73) #[] #[]]
theorem std_ok (w : World) : Calls Tryz.prog 39 #[] w fun e w' => e = .returned (.slice (some ⟨w.heap.size, 0, none⟩) 6 6) ∧ w' = w.alloc (.cells linksL.toArray 135) := by
  go_enter Tryz.func39, Tryz.ntmps39
  go_wp2_with fail
  go_ret
  exact ⟨rfl, rfl⟩
theorem head_nil (k : ByteArray) (w : World) : Calls Tryz.prog 95 #[.slice none 0 0, .string k] w fun e w' => e = .returned (.slice none 0 0) ∧ w' = w := by
  go_enter Tryz.func95, Tryz.ntmps95
  go_upto_region 3 with (fail)
  refine wp_loop_rounds 1 ?_
  rw [rounds_succ]
  go_wp2_with fail
  go_ret
  exact ⟨rfl, rfl⟩
theorem kenters (g : Nat) (fn : Func) (c : Code) (hf : Tryz.prog.funcs[g]? = some fn) (hn : (fn.name == "runtime.NumGoroutine") = false) (hb : fn.body = some c) : ∀ (args : Array Value) (W : World), (callFunc g args).run Tryz.prog W = .ok (.enter g args) W := enters_of hf hn hb
def cHead : Cc := ⟨⟨#[72, 69, 65, 68]⟩, ⟨#[]⟩, .slice none 0 0, ⟨#[]⟩, false, 3, 4, 5, ⟨#[]⟩, .slice none 0 0, .slice none 0 0, false, ⟨#[]⟩⟩
theorem dec1 (n : Nat) (h : n < 10) : Lib.decDigits n = [UInt8.ofNat (48 + n)] := by
  rw [Lib.decDigits, dif_pos h]
theorem id34 : (idB 3 4).data.toList = [51, 45, 52] := by
  unfold idB itoaB
  rw [show (3 : Int) = ((3 : Nat) : Int) from rfl, show (4 : Int) = ((4 : Nat) : Int) from rfl, Lib.itoa_nonneg, Lib.itoa_nonneg, dec1 3 (by omega), dec1 4 (by omega)]
  rfl
theorem it5 : (itoaB 5).data.toList = [53] := by
  unfold itoaB
  rw [show (5 : Int) = ((5 : Nat) : Int) from rfl, Lib.itoa_nonneg, dec1 5 (by omega)]
  rfl
theorem func_nil (f : Fn) (a b : Array Value) (w : World) : (binOp .eql 96 (.func f a b) .nilFunc).run Tryz.prog w = .ok (.bool false) w := by kernel_rfl
end Go.Proofs.YtndlbkiogagnaaaGreatDoor

namespace Go.Proofs.YtndlbkiogagnaaaGreatDoor
set_option linter.unusedSimpArgs false
set_option linter.unusedVariables false
set_option linter.unnecessarySimpa false
open Go.RowKit BigFrame

/-- What holds stays where a response's own block, or a new one, is written. -/
def Keeps (w : World) (K : World → Prop) : Prop := ∀ W W' X, K W → Upd X W W' → (∀ k ∈ X, w.heap.size ≤ k ∧ ∃ cs, Blk W k cs 40) → K W'
theorem Keeps.up {w : World} {K : World → Prop} (h : Keeps w K) {W W' : World} (hk : K W) (hu : Upd [] W W') : K W' := h W W' [] hk hu (by simp)
/-- What a handle leaves: an answer; K holds; but for the blocks F, and new ones, memory is as it was. -/
def HQ (F : List Nat) (K : World → Prop) (k : Int) (fs : List (ByteArray × ByteArray)) (bd : ByteArray) (cl : Bool) (w : World) (e : Ending) (w' : World) : Prop :=
  ∃ a cap, e = .returned (.agg (Pc k a fs.length cap bd cl).toArray) ∧ RfB w' a fs ∧ K w' ∧ Upd F w w'
def Mk3F (F : List Nat) (w : World) (x1 x2 x3 : Nat) (cs zs ds : List Value) (W : World) : Prop := Blk W x1 cs 35 ∧ Blk W x2 zs 40 ∧ Blk W x3 ds 40 ∧ Upd F w W
theorem Mk3F.up {F : List Nat} {w W W' : World} {x1 x2 x3 : Nat} {cs zs ds : List Value} (h : Mk3F F w x1 x2 x3 cs zs ds W) (hu : Upd [] W W') : Mk3F F w x1 x2 x3 cs zs ds W' := ⟨hu.blk h.1 (by simp), hu.blk h.2.1 (by simp), hu.blk h.2.2.1 (by simp), h.2.2.2.trans hu (by simp)⟩
theorem Upd.set4F {F : List Nat} {a w : World} (h : Upd F a w) {b : Nat} (hb : a.heap.size ≤ b) (x y z u : Value) : Upd F a ((((w.setCell ⟨b, 0, none⟩ x).setCell ⟨b, 1, none⟩ y).setCell ⟨b, 2, none⟩ z).setCell ⟨b, 3, none⟩ u) :=
  (((h.set _ _ (by simp; omega)).set _ _ (by simp; omega)).set _ _ (by simp; omega)).set _ _ (by simp; omega)
theorem mark_setF {F : List Nat} {w w3 w6 : World} {x1 x2 x3 : Nat} {cs zs : List Value} {k v bd cl : Value} (h : Mk3F F w x1 x2 x3 cs zs [k, v, bd, cl] w3) (hu : Upd [] w3 w6) (h1 : w.heap.size = x1) (h2 : w.heap.size + 1 = x2) (h3 : x2 < x3) (v' : Value) :
    Mk3F F w x1 x2 x3 cs zs [k, v', bd, cl] (w6.setCell ⟨x3, 1, none⟩ v') := by
  have h' := h.up hu
  exact ⟨h'.1.set_ne _ _ (by simp; omega), h'.2.1.set_ne _ _ (by simp; omega), h'.2.2.1.set 1 v', h'.2.2.2.set _ _ (by simp; omega)⟩
theorem mark_endF {F : List Nat} {w w7 : World} {x1 x2 x3 : Nat} {cs zs ds : List Value} (h : Mk3F F w x1 x2 x3 cs zs ds w7) (hz : zs.length = 4) (h1 : w.heap.size = x1) (h2 : w.heap.size + 1 = x2) (h3 : x2 < x3) (c x y z u : Value) :
    Blk (((((w7.setCell ⟨x3, 3, none⟩ c).setCell ⟨x2, 0, none⟩ x).setCell ⟨x2, 1, none⟩ y).setCell ⟨x2, 2, none⟩ z).setCell ⟨x2, 3, none⟩ u) x2 [x, y, z, u] 40 ∧ Upd F w (((((w7.setCell ⟨x3, 3, none⟩ c).setCell ⟨x2, 0, none⟩ x).setCell ⟨x2, 1, none⟩ y).setCell ⟨x2, 2, none⟩ z).setCell ⟨x2, 3, none⟩ u) :=
  ⟨Blk.set4 (h.2.1.set_ne ⟨x3, 3, none⟩ c (by simp; omega)) hz x y z u, (h.2.2.2.set ⟨x3, 3, none⟩ c (by simp; omega)).set4F (by omega) x y z u⟩
theorem mark_keep {F : List Nat} {K : World → Prop} {w w7 : World} {x1 x2 x3 : Nat} {cs zs ds : List Value} (hK : Keeps w K) (hk : K w7) (h : Mk3F F w x1 x2 x3 cs zs ds w7) (h1 : w.heap.size = x1) (h2 : w.heap.size + 1 = x2) (h3 : x2 < x3) (c x y z u : Value) :
    K (((((w7.setCell ⟨x3, 3, none⟩ c).setCell ⟨x2, 0, none⟩ x).setCell ⟨x2, 1, none⟩ y).setCell ⟨x2, 2, none⟩ z).setCell ⟨x2, 3, none⟩ u) := by
  refine hK w7 _ [x2, x3] hk ?_ ?_
  · exact (((((Upd.refl [x2, x3] w7).set _ _ (by simp)).set _ _ (by simp)).set _ _ (by simp)).set _ _ (by simp)).set _ _ (by simp)
  · intro j hj
    simp only [List.mem_cons, List.not_mem_nil, or_false] at hj
    rcases hj with rfl | rfl
    · exact ⟨by omega, _, h.2.1⟩
    · exact ⟨by omega, _, h.2.2.1⟩
set_option maxRecDepth 100000 in
set_option maxHeartbeats 2000000 in
theorem chmarkF_ok (F : List Nat) (K : World → Prop) (c : Cc) (g b b2 : Nat) (k : Int) (fs : List (ByteArray × ByteArray)) (bd : ByteArray) (cl : Bool) (w : World) (hF : ∀ j ∈ F, j < w.heap.size) (hK : Keeps w K) (hT : ∀ W, Upd F w W → Tab W) (hn : fs.length ≤ 100000) (hi1 : okI c.conn) (hi2 : okI c.seq) (hi3 : okI c.version)
    (hc : w.cell? ⟨b, 0, none⟩ = some (.func (.func g) #[] #[.pointer (some ⟨b2, 0, none⟩)])) (hb : b < w.heap.size)
    (he : ∀ (args : Array Value) (W : World), (callFunc g args).run Tryz.prog W = .ok (.enter g args) W)
    (hin : ∀ W, Upd [] w W → Calls Tryz.prog g #[.agg c.cells.toArray, .pointer (some ⟨b2, 0, none⟩)] W (HQ F K k fs bd cl W)) :
    Calls Tryz.prog 102 #[.agg c.cells.toArray, .pointer (some ⟨b, 0, none⟩)] w (HQ F K k ((xid, idB c.conn c.seq) :: (xver, itoaB c.version) :: fs) bd (cl || c.close) w) := by
  have HI := Hd.mk hin
  have HFF := Hd.mk hF
  have HKK := Hd.mk hK
  clear hF hK
  have HT := Hd.mk hT
  clear hin hT
  have B1 := Blk.new w c.cells 35 _ rfl
  have U1 := (Upd.refl [] w).alloc (.cells c.cells.toArray 35)
  have B2 := Blk.new (w.alloc (.cells c.cells.toArray 35)) [.int .i64 0, .slice none 0 0, .string ⟨#[]⟩, .bool false] 40 (w.heap.size + 1) (by simp)
  have U2 := U1.alloc (.cells #[.int .i64 0, .slice none 0 0, .string ⟨#[]⟩, .bool false] 40)
  have D1 := B1.alloc (.cells #[.int .i64 0, .slice none 0 0, .string ⟨#[]⟩, .bool false] 40)
  have hc2 := (U2.cell (p := ⟨b, 0, none⟩) hb (by simp)).trans hc
  have HB := Hd.mk (And.intro D1 (And.intro B2 U2))
  clear B1 B2 U1 U2 hc
  obtain ⟨mm, tg, fl, bo, cs, cn, sq, vr, hd, pr, aw, fd, tk⟩ := c
  simp only [Cc.cells] at *
  have HI1 := Hd.mk hi1
  have HI2 := Hd.mk hi2
  have HI3 := Hd.mk hi3
  clear hi1 hi2 hi3
  have c0 := D1.cell 0
  have c1 := D1.cell 1
  have c2 := D1.cell 2
  have c3 := D1.cell 3
  have c4 := D1.cell 4
  have c5 := D1.cell 5
  have c6 := D1.cell 6
  have c7 := D1.cell 7
  have c8 := D1.cell 8
  have c9 := D1.cell 9
  have c10 := D1.cell 10
  have c11 := D1.cell 11
  have c12 := D1.cell 12
  simp only [List.getElem?_cons_zero, List.getElem?_cons_succ] at c0 c1 c2 c3 c4 c5 c6 c7 c8 c9 c10 c11 c12
  clear D1
  go_enter Tryz.func102, Tryz.ntmps102
  go_wp2_with fail
  refine (HI.out _ HB.out.2.2).mono ?_
  rintro e w1 ⟨a, cap, rfl, hrf, hk1, u1⟩
  have HB := Hd.mk (And.intro (u1.blk HB.out.1 (fun e => by have := HFF.out _ e; omega)) (And.intro (u1.blk HB.out.2.1 (fun e => by have := HFF.out _ e; omega)) ((HB.out.2.2.mono (by simp) : Upd F w _).trans u1 (fun _ _ h => h))))
  have HK1 := Hd.mk hk1
  have HR := Hd.mk hrf
  clear u1 hrf hk1 c0 c1 c2 c3 c4 c5 c6 c7 c8 c9 c10 c11 c12
  simp only [Pc]
  go_upto_region 2 with (fail)
  obtain ⟨cc, hcc⟩ : ∃ l : List Value, [.string mm, .string tg, fl, .string bo, .bool cs, .int .i64 cn, .int .i64 sq, .int .i64 vr, .string hd, pr, aw, .bool fd, .string tk] = l := ⟨_, rfl⟩
  have HCC := Hd.mk hcc
  have m3 : Mk3F F w w.heap.size (w.heap.size + 1) w1.heap.size cc [.int .i64 0, .slice none 0 0, .string ⟨#[]⟩, .bool false] [.int .i64 k, .slice a fs.length cap, .string bd, .bool cl] (w1.alloc (.cells #[.int .i64 k, .slice a fs.length cap, .string bd, .bool cl] 40)) :=
    ⟨by rw [← hcc]; exact HB.out.1.alloc _, HB.out.2.1.alloc _, Blk.new w1 _ _ _ rfl, HB.out.2.2.alloc _⟩
  have HR := Hd.mk (HR.out.upd ((Upd.refl [] w1).alloc (.cells #[.int .i64 k, .slice a fs.length cap, .string bd, .bool cl] 40)))
  have HK1 := Hd.mk (HKK.out.up HK1.out ((Upd.refl [] w1).alloc (.cells #[.int .i64 k, .slice a fs.length cap, .string bd, .bool cl] 40)))
  refine wp_abs (fun W => Mk3F F w w.heap.size (w.heap.size + 1) w1.heap.size cc [.int .i64 0, .slice none 0 0, .string ⟨#[]⟩, .bool false] [.int .i64 k, .slice a fs.length cap, .string bd, .bool cl] W ∧ RfB W a fs ∧ K W) ⟨m3, HR.out, HK1.out⟩ ?_
  have HN3 := Hd.mk (show w.heap.size + 1 < w1.heap.size from HB.out.2.1.lt)
  have hcd : cc[5]? = some (.int .i64 cn) ∧ cc[6]? = some (.int .i64 sq) ∧ cc[7]? = some (.int .i64 vr) ∧ cc[4]? = some (.bool cs) := by rw [← hcc]; exact ⟨rfl, rfl, rfl, rfl⟩
  have HCD := Hd.mk hcd
  clear m3 HB HR HK1 hcc hc2 hcd HCC
  obtain ⟨x2, hx2⟩ : ∃ x, w.heap.size + 1 = x := ⟨_, rfl⟩
  obtain ⟨x1, hx1⟩ : ∃ x, w.heap.size = x := ⟨_, rfl⟩
  obtain ⟨x3, hx3⟩ : ∃ x, w1.heap.size = x := ⟨_, rfl⟩
  rw [hx2, hx1, hx3]
  rw [hx2, hx3] at HN3
  have HX := Hd.mk (And.intro hx1 hx2)
  clear hx1 hx2 hx3
  rintro w2 ⟨m2, r2, k2⟩
  have HM := Hd.mk m2
  have HR := Hd.mk r2
  have HK2 := Hd.mk k2
  clear m2 r2 k2
  obtain ⟨R, hR⟩ : ∃ R : World → Prop, R = fun W => Mk3F F w x1 x2 x3 cc [.int .i64 0, .slice none 0 0, .string ⟨#[]⟩, .bool false] [.int .i64 k, .slice a fs.length cap, .string bd, .bool cl] W ∧ RfB W a fs ∧ K W := ⟨_, rfl⟩
  have hRW : ∀ W, R W → Mk3F F w x1 x2 x3 cc [.int .i64 0, .slice none 0 0, .string ⟨#[]⟩, .bool false] [.int .i64 k, .slice a fs.length cap, .string bd, .bool cl] W ∧ RfB W a fs ∧ K W := fun W h => by rw [hR] at h; exact h
  have hRM : ∀ x : Cls R, Mk3F F w x1 x2 x3 cc [.int .i64 0, .slice none 0 0, .string ⟨#[]⟩, .bool false] [.int .i64 k, .slice a fs.length cap, .string bd, .bool cl] x.w ∧ RfB x.w a fs ∧ K x.w := fun x => hRW x.w x.ok
  have HRW := Hd.mk hRW
  have c1 : ∀ x : Cls R, x.w.cell? ⟨x1, 5, none⟩ = some (.int .i64 cn) := fun x => ((hRM x).1.1.cell 5).trans HCD.out.1
  have c2 : ∀ x : Cls R, x.w.cell? ⟨x1, 6, none⟩ = some (.int .i64 sq) := fun x => ((hRM x).1.1.cell 6).trans HCD.out.2.1
  have hR0 : R w2.drew := by rw [hR]; exact ⟨HM.out.up ((Upd.refl [] w2).drew), HR.out.upd ((Upd.refl [] w2).drew), HKK.out.up HK2.out ((Upd.refl [] w2).drew)⟩
  have hup : ∀ (x : Cls R) w', Upd [] x.w w' → R w' := fun x w' hu => by rw [hR]; exact ⟨(hRM x).1.up hu, (hRM x).2.1.upd hu, HKK.out.up (hRM x).2.2 hu⟩
  have htab : ∀ x : Cls R, Tab x.w := fun x => HT.out _ (hRM x).1.2.2.2
  obtain ⟨i1, hi1⟩ : ∃ t, itoaB cn = t := ⟨_, rfl⟩
  obtain ⟨i2, hi2⟩ : ∃ t, itoaB sq = t := ⟨_, rfl⟩
  have z1 := itoaB_size cn HI1.out.1 HI1.out.2
  have z2 := itoaB_size sq HI2.out.1 HI2.out.2
  rw [hi1] at z1
  rw [hi2] at z2
  have HIT1 := Hd.mk (show ∀ x : Cls R, Calls Tryz.prog 44 #[.int .i64 cn] x.w fun e w'' => e = .returned (.string i1) ∧ ∃ y : Cls R, w'' = y.w from fun x => Calls.cls (itoa_ok cn x.w HI1.out.1 HI1.out.2 (htab x)) (fun e w' h => ⟨h.1.trans (by rw [hi1]), hup x w' h.2⟩))
  have HIT2 := Hd.mk (show ∀ x : Cls R, Calls Tryz.prog 44 #[.int .i64 sq] x.w fun e w'' => e = .returned (.string i2) ∧ ∃ y : Cls R, w'' = y.w from fun x => Calls.cls (itoa_ok sq x.w HI2.out.1 HI2.out.2 (htab x)) (fun e w' h => ⟨h.1.trans (by rw [hi2]), hup x w' h.2⟩))
  have HID := Hd.mk (show idB cn sq = i1 ++ ⟨#[45]⟩ ++ i2 by unfold idB; rw [hi1, hi2])
  clear hup htab hi1 hi2 hRM hRW hR HM HR HK2
  refine wp_region_cls R hR0 (by kernel_rfl) (by kernel_rfl) (fun _ => ?_)
  repeat (go_big_quiet_step (first | (go_at_call 44; rename_i x; with_reducible exact HIT1.out x) | (go_at_call 44; rename_i x; with_reducible exact HIT2.out x)))
  refine wpQuiet_nil ?_
  intro _ hw'
  obtain ⟨nq, hw''⟩ := hw'
  subst hw''
  have HQ := Hd.mk (show Mk3F F w x1 x2 x3 cc [.int .i64 0, .slice none 0 0, .string ⟨#[]⟩, .bool false] [.int .i64 k, .slice a fs.length cap, .string bd, .bool cl] nq.w ∧ RfB nq.w a fs ∧ K nq.w from HRW.out _ nq.ok)
  clear c1 c2 hR0
  generalize nq.w = w3 at HQ ⊢
  go_upto_region 3 with (fail)
  rw [← HID.out]
  have hidz : (idB cn sq).size ≤ 100 := by
    rw [HID.out]
    simp only [ByteArray.size_append]
    have : (⟨#[45]⟩ : ByteArray).size = 1 := rfl
    omega
  clear z1 z2 HID HIT1 HIT2
  obtain ⟨idb, hidb⟩ : ∃ t, idB cn sq = t := ⟨_, rfl⟩
  rw [hidb] at hidz ⊢
  have HIDE := Hd.mk hidb
  obtain ⟨i3, hi3⟩ : ∃ t, itoaB vr = t := ⟨_, rfl⟩
  have z3 := itoaB_size vr HI3.out.1 HI3.out.2
  rw [hi3] at z3
  have HI3' := Hd.mk hi3
  clear hidb hi3
  have c7 := (HQ.out.1.1.cell 7).trans HCD.out.2.2.1
  have e1 := HQ.out.1.2.2.1.cell 1
  have f1 := HQ.out.1.2.2.1.free 1
  simp only [List.getElem?_cons_zero, List.getElem?_cons_succ] at e1
  have tok1 := HI3'
  go_region_law (first
    | (have _t := tok1; refine step_func rfl 44 #[.tmp 20] #[3] rfl #[.int .i64 vr] (by go_simp) (by go_simp) (.string i3) ?_; refine (itoa_ok vr _ HI3.out.1 HI3.out.2 (HT.out _ (HQ.out.1.2.2.2.drew))).mono ?_; rintro e w4 ⟨he, u4⟩; rw [HI3'.out] at he; refine ⟨he, ?_⟩; clear he; have v4 : Upd [] w3 w4 := ((Upd.refl [] w3).drew).trans u4 (by simp); have U4 : Hd (True ∧ Upd [] w3 w4) := Hd.mk ⟨trivial, v4⟩; have R4 : Hd (RfB w4 a fs) := Hd.mk (HQ.out.2.1.upd v4); have e4 := (v4.blk HQ.out.1.2.2.1 (by simp)).cell 1; have e5 := ((v4.alloc (.cells #[.string ⟨#[120, 45, 105, 100]⟩, .string idb, .string ⟨#[120, 45, 118, 101, 114, 115, 105, 111, 110]⟩, .string i3] 62)).blk HQ.out.1.2.2.1 (by simp)).cell 1; simp only [List.getElem?_cons_zero, List.getElem?_cons_succ] at e4 e5; clear u4 v4 tok1 _t c7 e1 f1)
    | (have _t := R4; clear _t; refine step_app_f rfl (.tmp 23) (.tmp 25) rfl (⟨#[120, 45, 105, 100]⟩, idb) (⟨#[120, 45, 118, 101, 114, 115, 105, 111, 110]⟩, i3) a fs.length cap fs rfl hn R4.out (by go_simp) (by go_simp) ?_; intro a6 p6 w6 r6 n6 u6; have U6 : Hd (RfB w6 a6 ((⟨#[120, 45, 105, 100]⟩, idb) :: (⟨#[120, 45, 118, 101, 114, 115, 105, 111, 110]⟩, i3) :: fs) ∧ (∀ b off, a6 = some ⟨b, off, none⟩ → w3.heap.size ≤ b) ∧ Upd [] w3 w6) := Hd.mk ⟨r6, fun b off e => Nat.le_trans U4.out.2.size (n6 b off e), U4.out.2.trans u6 (by simp)⟩; have k6 := (U6.out.2.2.blk HQ.out.1.2.2.1 (by simp)).cell 1; have l6 := (U6.out.2.2.blk HQ.out.1.2.2.1 (by simp)).free 1; simp only [List.getElem?_cons_zero, List.getElem?_cons_succ] at k6; clear r6 n6 u6 e4 e5))
  all_goals
    have hz6 := HQ.out.1.2.2.1.lt
    have hu7 : Upd [x3] w6 (w6.setCell ⟨x3, 1, none⟩ (.slice a6 (fs.length + 2) p6)) := (Upd.refl _ _).set _ _ (by simp)
    have h7 := mark_setF HQ.out.1 U6.out.2.2 HX.out.1 HX.out.2 HN3.out (.slice a6 (fs.length + 2) p6)
    have r7 := U6.out.1.set ⟨x3, 1, none⟩ (.slice a6 (fs.length + 2) p6) (fun b off e q => by have := U6.out.2.1 b off e; simp only at q; omega)
    have k7 := HKK.out _ _ [x3] (HKK.out.up HQ.out.2.2 U6.out.2.2) hu7 (fun j hj => by rw [List.mem_singleton] at hj; subst hj; exact ⟨by have := HX.out.1; have := HX.out.2; have := HN3.out; omega, _, U6.out.2.2.blk HQ.out.1.2.2.1 (by simp)⟩)
    refine wp_abs (fun W => Mk3F F w x1 x2 x3 cc [.int .i64 0, .slice none 0 0, .string ⟨#[]⟩, .bool false] [.int .i64 k, .slice a6 (fs.length + 2) p6, .string bd, .bool cl] W ∧ RfB W a6 ((⟨#[120, 45, 105, 100]⟩, idb) :: (⟨#[120, 45, 118, 101, 114, 115, 105, 111, 110]⟩, i3) :: fs) ∧ K W) ⟨h7, r7, k7⟩ ?_
    have HA6 := Hd.mk U6.out.2.1
    clear k6 l6 hu7 h7 r7 k7 U6 hz6
    rintro w7 ⟨m7, r7, k7⟩
    have HK7 := Hd.mk k7
    clear k7
    have HM := Hd.mk m7
    have HR7 := Hd.mk r7
    have b3 := m7.2.2.1
    have b2 := m7.2.1
    have hn23 : x2 ≠ x3 := by have := HN3.out; omega
    have hn32 : x3 ≠ x2 := fun e => hn23 e.symm
    have l3 := b3.free 3
    have g0 := b2.free 0
    have g1 := b2.free 1
    have g2 := b2.free 2
    have g3 := b2.free 3
    have a4 := (m7.1.cell 4).trans HCD.out.2.2.2
    have d0 := b3.cell 0
    have d1 := b3.cell 1
    have d2 := b3.cell 2
    have d3 := b3.cell 3
    simp only [List.getElem?_cons_zero, List.getElem?_cons_succ] at d0 d1 d2 d3
    have n0 := b2.cell 0
    have n1 := b2.cell 1
    have n2 := b2.cell 2
    have n3 := b2.cell 3
    simp only [List.getElem?_cons_zero, List.getElem?_cons_succ] at n0 n1 n2 n3
    clear m7 r7 b3 b2
    have HLT := Hd.mk HQ.out.1.2.2.1.lt
    cases cl with
    | false =>
      go_wp2_with fail
      have hq := mark_endF HM.out rfl HX.out.1 HX.out.2 HN3.out (.bool cs) (.int .i64 k) (.slice a6 (fs.length + 2) p6) (.string bd) (.bool cs)
      have hr := mark_rf HR7.out HN3.out HLT.out HA6.out (.bool cs) (.int .i64 k) (.slice a6 (fs.length + 2) p6) (.string bd) (.bool cs)
      refine bodyPost_ret (results_cell _ _ _ 3 40 x2 (Pc k a6 (fs.length + 2) p6 bd cs) 40 rfl rfl hq.1 (by kernel_rfl) (by kernel_rfl)) rfl ⟨a6, p6, rfl, ?_, mark_keep HKK.out HK7.out HM.out HX.out.1 HX.out.2 HN3.out _ _ _ _ _, hq.2⟩
      rw [HIDE.out, HI3'.out]
      exact hr
    | true =>
      go_wp2_with fail
      have hq := mark_endF HM.out rfl HX.out.1 HX.out.2 HN3.out (.bool true) (.int .i64 k) (.slice a6 (fs.length + 2) p6) (.string bd) (.bool true)
      have hr := mark_rf HR7.out HN3.out HLT.out HA6.out (.bool true) (.int .i64 k) (.slice a6 (fs.length + 2) p6) (.string bd) (.bool true)
      refine bodyPost_ret (results_cell _ _ _ 3 40 x2 (Pc k a6 (fs.length + 2) p6 bd true) 40 rfl rfl hq.1 (by kernel_rfl) (by kernel_rfl)) rfl ⟨a6, p6, rfl, ?_, mark_keep HKK.out HK7.out HM.out HX.out.1 HX.out.2 HN3.out _ _ _ _ _, hq.2⟩
      rw [HIDE.out, HI3'.out]
      exact hr
end Go.Proofs.YtndlbkiogagnaaaGreatDoor

namespace Go.Proofs.YtndlbkiogagnaaaGreatDoor
set_option linter.unusedSimpArgs false
set_option linter.unusedVariables false
set_option linter.unnecessarySimpa false
open Go.RowKit BigFrame

theorem RfB.apart {w : World} {a : Option Addr} {fs : List (ByteArray × ByteArray)} (h : RfB w a fs) {x : Nat} {z : Int} {sa : Option Addr} {sn sc : Nat} {s : ByteArray} {q : Bool} {t : TypeId} (hb : Blk w x [.int .i64 z, .slice sa sn sc, .string s, .bool q] t) (h0 : 0 < fs.length) : ∀ b off, a = some ⟨b, off, none⟩ → b ≠ x := by
  intro b off ha e
  subst e
  obtain ⟨b', off', ha', -, hc⟩ := h h0
  rw [ha] at ha'
  simp only [Option.some.injEq, Addr.mk.injEq, and_true] at ha'
  obtain ⟨rfl, rfl⟩ := ha'
  obtain ⟨c0, c1⟩ := hc 0 h0
  rw [hb.cell] at c0 c1
  simp only [Nat.zero_mul, Nat.add_zero] at c0 c1
  match off, c0, c1 with
  | 0, c0, _ => simp at c0
  | 1, c0, _ => simp at c0
  | 2, _, c1 => simp at c1
  | 3, c0, _ => simp at c0
  | n + 4, c0, _ => simp at c0
theorem RfB.updX {w w' : World} {a : Option Addr} {fs : List (ByteArray × ByteArray)} (h : RfB w a fs) {x : Nat} (hu : Upd [x] w w') (hx : 0 < fs.length → ∀ b off, a = some ⟨b, off, none⟩ → b ≠ x) : RfB w' a fs := by
  intro h0
  obtain ⟨b, off, ha, hb, hc⟩ := h h0
  have hne := hx h0 b off ha
  have hsz := hu.size
  exact ⟨b, off, ha, by omega, fun i hi => ⟨(hu.cell (p := ⟨b, _, none⟩) hb (by simpa using hne)).trans (hc i hi).1, (hu.cell (p := ⟨b, _, none⟩) hb (by simpa using hne)).trans (hc i hi).2⟩⟩
/-- The answer is laid into the link's own cell. -/
theorem pass_end {F : List Nat} {K : World → Prop} {w w1 : World} {x2 : Nat} {a : Option Addr} {fs : List (ByteArray × ByteArray)} {z : Int} {sa : Option Addr} {sn sc : Nat} {s : ByteArray} {q : Bool} (hK : Keeps w K) (hk : K w1) (hrf : RfB w1 a fs) (hb : Blk w1 x2 [.int .i64 z, .slice sa sn sc, .string s, .bool q] 40) (hx : w.heap.size ≤ x2) (hu : Upd F w w1) (v0 v1 v2 v3 : Value) :
    RfB ((((w1.setCell ⟨x2, 0, none⟩ v0).setCell ⟨x2, 1, none⟩ v1).setCell ⟨x2, 2, none⟩ v2).setCell ⟨x2, 3, none⟩ v3) a fs ∧ K ((((w1.setCell ⟨x2, 0, none⟩ v0).setCell ⟨x2, 1, none⟩ v1).setCell ⟨x2, 2, none⟩ v2).setCell ⟨x2, 3, none⟩ v3) ∧ Upd F w ((((w1.setCell ⟨x2, 0, none⟩ v0).setCell ⟨x2, 1, none⟩ v1).setCell ⟨x2, 2, none⟩ v2).setCell ⟨x2, 3, none⟩ v3) := by
  have hu1 : Upd [x2] w1 ((((w1.setCell ⟨x2, 0, none⟩ v0).setCell ⟨x2, 1, none⟩ v1).setCell ⟨x2, 2, none⟩ v2).setCell ⟨x2, 3, none⟩ v3) := ((((Upd.refl [x2] w1).set _ _ (by simp)).set _ _ (by simp)).set _ _ (by simp)).set _ _ (by simp)
  exact ⟨hrf.updX hu1 (hrf.apart hb), hK _ _ _ hk hu1 (fun k hk => by rw [List.mem_singleton] at hk; subst hk; exact ⟨hx, _, hb⟩), hu.set4F hx _ _ _ _⟩
def zR : List Value := [.int .i64 0, .slice none 0 0, .string ⟨#[]⟩, .bool false]
/-- A link's two boxes: the call's, the answer's. -/
theorem two_boxes (c : Cc) (w : World) : Blk ((w.alloc (.cells c.cells.toArray 35)).alloc (.cells #[.int .i64 0, .slice none 0 0, .string ⟨#[]⟩, .bool false] 40)) w.heap.size c.cells 35 ∧ Blk ((w.alloc (.cells c.cells.toArray 35)).alloc (.cells #[.int .i64 0, .slice none 0 0, .string ⟨#[]⟩, .bool false] 40)) (w.heap.size + 1) zR 40 ∧ Upd [] w ((w.alloc (.cells c.cells.toArray 35)).alloc (.cells #[.int .i64 0, .slice none 0 0, .string ⟨#[]⟩, .bool false] 40)) :=
  ⟨(Blk.new w c.cells 35 _ rfl).alloc _, Blk.new (w.alloc (.cells c.cells.toArray 35)) zR 40 (w.heap.size + 1) (by simp), ((Upd.refl [] w).alloc _).alloc _⟩
def Inner (F : List Nat) (K : World → Prop) (c : Cc) (g b2 : Nat) (k : Int) (fs : List (ByteArray × ByteArray)) (bd : ByteArray) (cl : Bool) (w : World) : Prop :=
  ∀ W, Upd [] w W → Calls Tryz.prog g #[.agg c.cells.toArray, .pointer (some ⟨b2, 0, none⟩)] W (HQ F K k fs bd cl W)
structure LinkH (F : List Nat) (K : World → Prop) (g b b2 : Nat) (w : World) : Prop where
  lt : ∀ j ∈ F, j < w.heap.size
  keep : Keeps w K
  cell : w.cell? ⟨b, 0, none⟩ = some (.func (.func g) #[] #[.pointer (some ⟨b2, 0, none⟩)])
  blt : b < w.heap.size
  ent : ∀ (args : Array Value) (W : World), (callFunc g args).run Tryz.prog W = .ok (.enter g args) W
set_option maxHeartbeats 2000000 in
theorem knownF (F : List Nat) (K : World → Prop) (c : Cc) (g b b2 : Nat) (k : Int) (fs : List (ByteArray × ByteArray)) (bd : ByteArray) (cl : Bool) (w : World) (hm : c.method = ⟨#[71, 69, 84]⟩ ∨ c.method = ⟨#[80, 85, 84]⟩ ∨ c.method = ⟨#[80, 79, 83, 84]⟩ ∨ c.method = ⟨#[68, 69, 76, 69, 84, 69]⟩)
    (h : LinkH F K g b b2 w) (hin : Inner F K c g b2 k fs bd cl w) :
    Calls Tryz.prog 105 #[.agg c.cells.toArray, .pointer (some ⟨b, 0, none⟩)] w (HQ F K k fs bd cl w) := by
  have HI := Hd.mk hin
  have HL := Hd.mk h
  have he := h.ent
  have HB := Hd.mk (two_boxes c w)
  have hc2 := (HB.out.2.2.cell (p := ⟨b, 0, none⟩) h.blt (by simp)).trans h.cell
  have D1 := HB.out.1
  clear hin h
  unfold Inner at HI
  obtain ⟨mm, tg, fl, bo, cs, cn, sq, vr, hd, pr, aw, fd, tk⟩ := c
  simp only [Cc.cells] at *
  have c0 := D1.cell 0
  have c1 := D1.cell 1
  have c2 := D1.cell 2
  have c3 := D1.cell 3
  have c4 := D1.cell 4
  have c5 := D1.cell 5
  have c6 := D1.cell 6
  have c7 := D1.cell 7
  have c8 := D1.cell 8
  have c9 := D1.cell 9
  have c10 := D1.cell 10
  have c11 := D1.cell 11
  have c12 := D1.cell 12
  simp only [List.getElem?_cons_zero, List.getElem?_cons_succ] at c0 c1 c2 c3 c4 c5 c6 c7 c8 c9 c10 c11 c12
  clear D1
  rcases hm with rfl | rfl | rfl | rfl
  all_goals
    go_enter Tryz.func105, Tryz.ntmps105
    go_wp2_with fail
    refine (HI.out _ HB.out.2.2).mono ?_
    rintro e w1 ⟨a, cap, rfl, hrf, hk1, u1⟩
    have dd := u1.blk HB.out.2.1 (fun e => by have := HL.out.lt _ e; omega)
    have HD := Hd.mk (And.intro dd (And.intro ((HB.out.2.2.mono (by simp) : Upd F w _).trans u1 (fun _ _ h => h)) (And.intro hrf hk1)))
    clear u1 hrf hk1 c0 c1 c2 c3 c4 c5 c6 c7 c8 c9 c10 c11 c12
    unfold zR at dd
    have d0 := dd.cell 0
    have d1 := dd.cell 1
    have d2 := dd.cell 2
    have d3 := dd.cell 3
    simp only [List.getElem?_cons_zero, List.getElem?_cons_succ] at d0 d1 d2 d3
    have f0 := dd.free 0
    have f1 := dd.free 1
    have f2 := dd.free 2
    have f3 := dd.free 3
    clear dd
    simp only [Pc]
    go_wp2_with fail
    exact bodyPost_ret (results_cell _ _ _ 3 40 (w.heap.size + 1) (Pc k a fs.length cap bd cl) 40 rfl rfl (HD.out.1.set4 rfl _ _ _ _) (by kernel_rfl) (by kernel_rfl)) rfl ⟨a, cap, rfl, pass_end HL.out.keep HD.out.2.2.2 HD.out.2.2.1 HD.out.1 (by omega) HD.out.2.1 _ _ _ _⟩
set_option maxHeartbeats 2000000 in
theorem smallF (F : List Nat) (K : World → Prop) (c : Cc) (g b b2 : Nat) (k : Int) (fs : List (ByteArray × ByteArray)) (bd : ByteArray) (cl : Bool) (w : World) (hs : c.body = ⟨#[]⟩ ∨ c.body ≠ ⟨#[]⟩ ∧ c.method ≠ ⟨#[71, 69, 84]⟩ ∧ c.method ≠ ⟨#[68, 69, 76, 69, 84, 69]⟩)
    (h : LinkH F K g b b2 w) (hin : Inner F K c g b2 k fs bd cl w) :
    Calls Tryz.prog 106 #[.agg c.cells.toArray, .pointer (some ⟨b, 0, none⟩)] w (HQ F K k fs bd cl w) := by
  have HI := Hd.mk hin
  have HL := Hd.mk h
  have he := h.ent
  have HB := Hd.mk (two_boxes c w)
  have hc2 := (HB.out.2.2.cell (p := ⟨b, 0, none⟩) h.blt (by simp)).trans h.cell
  have D1 := HB.out.1
  clear hin h
  unfold Inner at HI
  obtain ⟨mm, tg, fl, bo, cs, cn, sq, vr, hd, pr, aw, fd, tk⟩ := c
  simp only [Cc.cells] at *
  have c0 := D1.cell 0
  have c1 := D1.cell 1
  have c2 := D1.cell 2
  have c3 := D1.cell 3
  have c4 := D1.cell 4
  have c5 := D1.cell 5
  have c6 := D1.cell 6
  have c7 := D1.cell 7
  have c8 := D1.cell 8
  have c9 := D1.cell 9
  have c10 := D1.cell 10
  have c11 := D1.cell 11
  have c12 := D1.cell 12
  simp only [List.getElem?_cons_zero, List.getElem?_cons_succ] at c0 c1 c2 c3 c4 c5 c6 c7 c8 c9 c10 c11 c12
  clear D1
  have key : Calls Tryz.prog 106 #[.agg #[.string mm, .string tg, fl, .string bo, .bool cs, .int .i64 cn, .int .i64 sq, .int .i64 vr, .string hd, pr, aw, .bool fd, .string tk], .pointer (some ⟨b, 0, none⟩)] w (HQ F K k fs bd cl w) := by
    rcases hs with h0 | ⟨h0, h1, h2⟩
    · have y := str_eq0 h0
      clear h0
      go_enter Tryz.func106, Tryz.ntmps106
      go_wp2_with fail
      refine (HI.out _ HB.out.2.2).mono ?_
      rintro e w1 ⟨a, cap, rfl, hrf, hk1, u1⟩
      have dd := u1.blk HB.out.2.1 (fun e => by have := HL.out.lt _ e; omega)
      have HD := Hd.mk (And.intro dd (And.intro ((HB.out.2.2.mono (by simp) : Upd F w _).trans u1 (fun _ _ h => h)) (And.intro hrf hk1)))
      clear u1 hrf hk1 c0 c1 c2 c3 c4 c5 c6 c7 c8 c9 c10 c11 c12
      unfold zR at dd
      have d0 := dd.cell 0
      have d1 := dd.cell 1
      have d2 := dd.cell 2
      have d3 := dd.cell 3
      simp only [List.getElem?_cons_zero, List.getElem?_cons_succ] at d0 d1 d2 d3
      have f0 := dd.free 0
      have f1 := dd.free 1
      have f2 := dd.free 2
      have f3 := dd.free 3
      clear dd
      simp only [Pc]
      go_wp2_with fail
      exact bodyPost_ret (results_cell _ _ _ 3 40 (w.heap.size + 1) (Pc k a fs.length cap bd cl) 40 rfl rfl (HD.out.1.set4 rfl _ _ _ _) (by kernel_rfl) (by kernel_rfl)) rfl ⟨a, cap, rfl, pass_end HL.out.keep HD.out.2.2.2 HD.out.2.2.1 HD.out.1 (by omega) HD.out.2.1 _ _ _ _⟩
    · have y := str_ne0 h0
      have y1 := lit_no (a := mm) (l := [71, 69, 84]) (fun e => h1 (ByteArray.ext (Array.toList_inj.1 e)))
      have y2 := lit_no (a := mm) (l := [68, 69, 76, 69, 84, 69]) (fun e => h2 (ByteArray.ext (Array.toList_inj.1 e)))
      clear h0 h1 h2
      go_enter Tryz.func106, Tryz.ntmps106
      go_wp2_with fail
      refine (HI.out _ HB.out.2.2).mono ?_
      rintro e w1 ⟨a, cap, rfl, hrf, hk1, u1⟩
      have dd := u1.blk HB.out.2.1 (fun e => by have := HL.out.lt _ e; omega)
      have HD := Hd.mk (And.intro dd (And.intro ((HB.out.2.2.mono (by simp) : Upd F w _).trans u1 (fun _ _ h => h)) (And.intro hrf hk1)))
      clear u1 hrf hk1 c0 c1 c2 c3 c4 c5 c6 c7 c8 c9 c10 c11 c12
      unfold zR at dd
      have d0 := dd.cell 0
      have d1 := dd.cell 1
      have d2 := dd.cell 2
      have d3 := dd.cell 3
      simp only [List.getElem?_cons_zero, List.getElem?_cons_succ] at d0 d1 d2 d3
      have f0 := dd.free 0
      have f1 := dd.free 1
      have f2 := dd.free 2
      have f3 := dd.free 3
      clear dd
      simp only [Pc]
      go_wp2_with fail
      exact bodyPost_ret (results_cell _ _ _ 3 40 (w.heap.size + 1) (Pc k a fs.length cap bd cl) 40 rfl rfl (HD.out.1.set4 rfl _ _ _ _) (by kernel_rfl) (by kernel_rfl)) rfl ⟨a, cap, rfl, pass_end HL.out.keep HD.out.2.2.2 HD.out.2.2.1 HD.out.1 (by omega) HD.out.2.1 _ _ _ _⟩
  exact key
set_option maxHeartbeats 2000000 in
theorem routedF (F : List Nat) (K : World → Prop) (c : Cc) (g b b2 : Nat) (k : Int) (fs : List (ByteArray × ByteArray)) (bd : ByteArray) (cl : Bool) (w : World) (hs : c.found = true)
    (h : LinkH F K g b b2 w) (hin : Inner F K c g b2 k fs bd cl w) :
    Calls Tryz.prog 108 #[.agg c.cells.toArray, .pointer (some ⟨b, 0, none⟩)] w (HQ F K k fs bd cl w) := by
  have HI := Hd.mk hin
  have HL := Hd.mk h
  have he := h.ent
  have HB := Hd.mk (two_boxes c w)
  have hc2 := (HB.out.2.2.cell (p := ⟨b, 0, none⟩) h.blt (by simp)).trans h.cell
  have D1 := HB.out.1
  clear hin h
  unfold Inner at HI
  obtain ⟨mm, tg, fl, bo, cs, cn, sq, vr, hd, pr, aw, fd, tk⟩ := c
  simp only at hs
  subst hs
  simp only [Cc.cells] at *
  have c0 := D1.cell 0
  have c1 := D1.cell 1
  have c2 := D1.cell 2
  have c3 := D1.cell 3
  have c4 := D1.cell 4
  have c5 := D1.cell 5
  have c6 := D1.cell 6
  have c7 := D1.cell 7
  have c8 := D1.cell 8
  have c9 := D1.cell 9
  have c10 := D1.cell 10
  have c11 := D1.cell 11
  have c12 := D1.cell 12
  simp only [List.getElem?_cons_zero, List.getElem?_cons_succ] at c0 c1 c2 c3 c4 c5 c6 c7 c8 c9 c10 c11 c12
  clear D1
  go_enter Tryz.func108, Tryz.ntmps108
  go_wp2_with fail
  refine (HI.out _ HB.out.2.2).mono ?_
  rintro e w1 ⟨a, cap, rfl, hrf, hk1, u1⟩
  have dd := u1.blk HB.out.2.1 (fun e => by have := HL.out.lt _ e; omega)
  have HD := Hd.mk (And.intro dd (And.intro ((HB.out.2.2.mono (by simp) : Upd F w _).trans u1 (fun _ _ h => h)) (And.intro hrf hk1)))
  clear u1 hrf hk1 c0 c1 c2 c3 c4 c5 c6 c7 c8 c9 c10 c11 c12
  unfold zR at dd
  have d0 := dd.cell 0
  have d1 := dd.cell 1
  have d2 := dd.cell 2
  have d3 := dd.cell 3
  simp only [List.getElem?_cons_zero, List.getElem?_cons_succ] at d0 d1 d2 d3
  have f0 := dd.free 0
  have f1 := dd.free 1
  have f2 := dd.free 2
  have f3 := dd.free 3
  clear dd
  simp only [Pc]
  go_wp2_with fail
  exact bodyPost_ret (results_cell _ _ _ 3 40 (w.heap.size + 1) (Pc k a fs.length cap bd cl) 40 rfl rfl (HD.out.1.set4 rfl _ _ _ _) (by kernel_rfl) (by kernel_rfl)) rfl ⟨a, cap, rfl, pass_end HL.out.keep HD.out.2.2.2 HD.out.2.2.1 HD.out.1 (by omega) HD.out.2.1 _ _ _ _⟩
set_option maxHeartbeats 2000000 in
theorem safeF (F : List Nat) (K : World → Prop) (c : Cc) (g b b2 : Nat) (k : Int) (fs : List (ByteArray × ByteArray)) (bd : ByteArray) (cl : Bool) (w : World)
    (h : LinkH F K g b b2 w) (hin : Inner F K c g b2 k fs bd cl w) :
    Calls Tryz.prog 103 #[.agg c.cells.toArray, .pointer (some ⟨b, 0, none⟩)] w (HQ F K k fs bd cl w) := by
  have hmf := mf
  have HI := Hd.mk hin
  have HL := Hd.mk h
  have he := h.ent
  have HB := Hd.mk (two_boxes c w)
  have hc2 := (HB.out.2.2.cell (p := ⟨b, 0, none⟩) h.blt (by simp)).trans h.cell
  have D1 := HB.out.1
  clear hin h
  unfold Inner at HI
  obtain ⟨mm, tg, fl, bo, cs, cn, sq, vr, hd, pr, aw, fd, tk⟩ := c
  simp only [Cc.cells] at *
  have c0 := D1.cell 0
  have c1 := D1.cell 1
  have c2 := D1.cell 2
  have c3 := D1.cell 3
  have c4 := D1.cell 4
  have c5 := D1.cell 5
  have c6 := D1.cell 6
  have c7 := D1.cell 7
  have c8 := D1.cell 8
  have c9 := D1.cell 9
  have c10 := D1.cell 10
  have c11 := D1.cell 11
  have c12 := D1.cell 12
  simp only [List.getElem?_cons_zero, List.getElem?_cons_succ] at c0 c1 c2 c3 c4 c5 c6 c7 c8 c9 c10 c11 c12
  clear D1
  go_enter_defers Tryz.func103, Tryz.ntmps103
  go_wp2_with fail
  refine (HI.out _ HB.out.2.2).mono ?_
  rintro e w1 ⟨a, cap, rfl, hrf, hk1, u1⟩
  have dd := u1.blk HB.out.2.1 (fun e => by have := HL.out.lt _ e; omega)
  have HD := Hd.mk (And.intro dd (And.intro ((HB.out.2.2.mono (by simp) : Upd F w _).trans u1 (fun _ _ h => h)) (And.intro hrf hk1)))
  clear u1 hrf hk1
  unfold zR at dd
  have d0 := dd.cell 0
  have d1 := dd.cell 1
  have d2 := dd.cell 2
  have d3 := dd.cell 3
  simp only [List.getElem?_cons_zero, List.getElem?_cons_succ] at d0 d1 d2 d3
  have f0 := dd.free 0
  have f1 := dd.free 1
  have f2 := dd.free 2
  have f3 := dd.free 3
  clear dd
  simp only [Pc]
  go_wp2_with fail
  refine leaves_cons (f := 104) (args := #[.pointer (some ⟨w.heap.size + 1, 0, none⟩)]) (by simp) (by simp [go_sem]) ?_
  refine (idle _ _).mono ?_
  rintro e u' w'' ⟨rfl, rfl, rfl⟩
  exact ⟨_, results_cell _ _ _ 3 40 (w.heap.size + 1) (Pc k a fs.length cap bd cl) 40 rfl rfl (HD.out.1.set4 rfl _ _ _ _) (by kernel_rfl) (by kernel_rfl), ⟨a, cap, rfl, pass_end HL.out.keep HD.out.2.2.2 HD.out.2.2.1 HD.out.1 (by omega) HD.out.2.1 _ _ _ _⟩⟩
end Go.Proofs.YtndlbkiogagnaaaGreatDoor
