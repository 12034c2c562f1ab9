/- Chain: the links' makers; Known, Safe. -/
import Derived.Test.YtghjdjbjdjbkkaaDoorK1
import Derived.Recover
import Derived.Defers

namespace Go.Proofs.YtghjdjbjdjbkkaaDoor
set_option linter.unusedSimpArgs false
set_option linter.unusedVariables false
set_option linter.unnecessarySimpa false
open Go.RowKit BigFrame

theorem mf (fn : Fn) (first cap : Array Value) (w : World) : (Instr.makeFunc fn first cap).run Tryd.prog w = .ok (.func fn first cap) w := rfl
theorem link_mark (f : Fn) (a b : Array Value) (w : World) : Calls Tryd.prog 15 #[.func f a b] w fun e w' => e = .returned (.func (.func 27) #[] #[.pointer (some ⟨w.heap.size, 0, none⟩)]) ∧ w' = w.alloc (.cells #[.func f a b] 25) := by
  have hmf := mf
  go_enter Tryd.func15, Tryd.ntmps15
  go_wp2_with fail
  go_ret
  exact ⟨rfl, rfl⟩
theorem link_safe (f : Fn) (a b : Array Value) (w : World) : Calls Tryd.prog 17 #[.func f a b] w fun e w' => e = .returned (.func (.func 29) #[] #[.pointer (some ⟨w.heap.size, 0, none⟩)]) ∧ w' = w.alloc (.cells #[.func f a b] 25) := by
  have hmf := mf
  go_enter Tryd.func17, Tryd.ntmps17
  go_wp2_with fail
  go_ret
  exact ⟨rfl, rfl⟩
theorem link_known (f : Fn) (a b : Array Value) (w : World) : Calls Tryd.prog 23 #[.func f a b] w fun e w' => e = .returned (.func (.func 32) #[] #[.pointer (some ⟨w.heap.size, 0, none⟩)]) ∧ w' = w.alloc (.cells #[.func f a b] 25) := by
  have hmf := mf
  go_enter Tryd.func23, Tryd.ntmps23
  go_wp2_with fail
  go_ret
  exact ⟨rfl, rfl⟩
theorem link_small (f : Fn) (a b : Array Value) (w : World) : Calls Tryd.prog 24 #[.func f a b] w fun e w' => e = .returned (.func (.func 33) #[] #[.pointer (some ⟨w.heap.size, 0, none⟩)]) ∧ w' = w.alloc (.cells #[.func f a b] 25) := by
  have hmf := mf
  go_enter Tryd.func24, Tryd.ntmps24
  go_wp2_with fail
  go_ret
  exact ⟨rfl, rfl⟩
theorem link_guard (f : Fn) (a b : Array Value) (w : World) : Calls Tryd.prog 25 #[.func f a b] w fun e w' => e = .returned (.func (.func 34) #[] #[.pointer (some ⟨w.heap.size, 0, none⟩)]) ∧ w' = w.alloc (.cells #[.func f a b] 25) := by
  have hmf := mf
  go_enter Tryd.func25, Tryd.ntmps25
  go_wp2_with fail
  go_ret
  exact ⟨rfl, rfl⟩
theorem link_routed (f : Fn) (a b : Array Value) (w : World) : Calls Tryd.prog 26 #[.func f a b] w fun e w' => e = .returned (.func (.func 36) #[] #[.pointer (some ⟨w.heap.size, 0, none⟩)]) ∧ w' = w.alloc (.cells #[.func f a b] 25) := by
  have hmf := mf
  go_enter Tryd.func26, Tryd.ntmps26
  go_wp2_with fail
  go_ret
  exact ⟨rfl, rfl⟩
/-- A call's cells. -/
structure Cc where
  method : ByteArray
  target : ByteArray
  fields : Value
  body : ByteArray
  close : Bool
  conn : Int
  seq : Int
  version : Int
  handler : ByteArray
  params : Value
  allow : Value
  found : Bool
  token : ByteArray
def Cc.cells (c : Cc) : List Value := [.string c.method, .string c.target, c.fields, .string c.body, .bool c.close, .int .i64 c.conn, .int .i64 c.seq, .int .i64 c.version, .string c.handler, c.params, c.allow, .bool c.found, .string c.token]
/-- A response's cells. -/
def Pc (k : Int) (a : Option Addr) (n cap : Nat) (body : ByteArray) (cl : Bool) : List Value := [.int .i64 k, .slice a n cap, .string body, .bool cl]
def w501 : ByteArray := ⟨(wordL 501 ++ [10]).toArray⟩
theorem Blk.set4 {w : World} {b : Nat} {cs : List Value} {t : TypeId} (h : Blk w b cs t) (hl : cs.length = 4) (x y z u : Value) : Blk ((((w.setCell ⟨b, 0, none⟩ x).setCell ⟨b, 1, none⟩ y).setCell ⟨b, 2, none⟩ z).setCell ⟨b, 3, none⟩ u) b [x, y, z, u] t := by
  refine Blk.as ((((h.set 0 x).set 1 y).set 2 z).set 3 u) ?_
  match cs, hl with
  | [_, _, _, _], _ => rfl
theorem Upd.set4 {a w : World} (h : Upd [] a w) {b : Nat} (hb : a.heap.size ≤ b) (x y z u : Value) : Upd [] a ((((w.setCell ⟨b, 0, none⟩ x).setCell ⟨b, 1, none⟩ y).setCell ⟨b, 2, none⟩ z).setCell ⟨b, 3, none⟩ u) :=
  (((h.set _ _ (by simp; omega)).set _ _ (by simp; omega)).set _ _ (by simp; omega)).set _ _ (by simp; omega)
theorem known_no (m : ByteArray) (c : Cc) (hm : c.method = m) (h1 : (m.toList == [71, 69, 84]) = false) (h2 : (m.toList == [80, 85, 84]) = false) (h3 : (m.toList == [80, 79, 83, 84]) = false) (h4 : (m.toList == [68, 69, 76, 69, 84, 69]) = false) (b : Nat) (w : World)
    (hf : c.fields = .slice none 0 0) (hp : c.params = .slice none 0 0) (ha : c.allow = .slice none 0 0) :
    Calls Tryd.prog 32 #[.agg c.cells.toArray, .pointer (some ⟨b, 0, none⟩)] w fun e w' => e = .returned (.agg (Pc 501 none 0 0 w501 false).toArray) ∧ Upd [] w w' := by
  obtain ⟨mm, tg, fl, bd, cl, cn, sq, vr, hd, pr, aw, fd, tk⟩ := c
  simp only at hm hf hp ha
  subst hm hf hp ha
  simp only [Cc.cells]
  go_enter Tryd.func32, Tryd.ntmps32
  go_wp2_with fail
  have hb := Blk.new (w.alloc (.cells #[.string mm, .string tg, .slice none 0 0, .string bd, .bool cl, .int .i64 cn, .int .i64 sq, .int .i64 vr, .string hd, .slice none 0 0, .slice none 0 0, .bool fd, .string tk] 34)) [.int .i64 0, .slice none 0 0, .string ⟨#[]⟩, .bool false] 36 (w.heap.size + 1) (by simp)
  have HU := Hd.mk (((Upd.refl [] w).alloc (.cells #[.string mm, .string tg, .slice none 0 0, .string bd, .bool cl, .int .i64 cn, .int .i64 sq, .int .i64 vr, .string hd, .slice none 0 0, .slice none 0 0, .bool fd, .string tk] 34)).alloc (.cells #[.int .i64 0, .slice none 0 0, .string ⟨#[]⟩, .bool false] 36))
  refine (plain_ok 501 false _ (by omega)).mono ?_
  rintro e w1 ⟨rfl, u1⟩
  have HB := Hd.mk (u1.blk hb (by simp))
  have HU := Hd.mk (HU.out.trans u1 (by simp))
  clear hb u1
  simp only [Rs.plain, Rs.cells, S, List.length_nil]
  have HW := Hd.mk (show (⟨(wordL 501 ++ [10]).toArray⟩ : ByteArray) = w501 from rfl)
  rw [HW.out, show ((501 : Nat) : Int) = 501 from rfl]
  have hb := HB.out
  have c0 := hb.cell 0
  have c1 := hb.cell 1
  have c2 := hb.cell 2
  have c3 := hb.cell 3
  simp only [List.getElem?_cons_zero, List.getElem?_cons_succ] at c0 c1 c2 c3
  have f0 := hb.free 0
  have f1 := hb.free 1
  have f2 := hb.free 2
  have f3 := hb.free 3
  clear hb
  go_wp2_with fail
  refine bodyPost_ret (results_cell _ _ _ 3 36 (w.heap.size + 1) (Pc 501 none 0 0 w501 false) 36 rfl rfl (HB.out.set4 rfl _ _ _ _) (by kernel_rfl) (by kernel_rfl)) rfl ⟨rfl, HU.out.set4 (by omega) _ _ _ _⟩
theorem idle (b : Nat) (w : World) : CallsD Tryd.prog 30 #[.pointer (some ⟨b, 0, none⟩)] .returning w fun e u' w' => e = .returned (.tuple #[]) ∧ u' = .returning ∧ w' = w := by
  refine callsD_of_wpS Tryd.func30 rfl fun c₀ cs hu => ?_
  apply wpS_seq
  apply wpS_region
  simp [wpOpsS, go_sem, recoverD, hu, Tryd.ntmps30, Exit.thenS]
  refine wpS_cond (t := false) (by simp [Act.eval, Array.replicate]) ?_
  simp only [Bool.false_eq_true, if_false]
  refine wpS_of_wp (wp_skip ?_)
  cases c₀
  simp_all [bodyPostS, results, Tryd.results30]
set_option maxHeartbeats 1000000 in
theorem safe_ret (c : Cc) (g b b2 : Nat) (k : Int) (a : Option Addr) (n cap : Nat) (bd : ByteArray) (cl : Bool) (w : World) (hc : w.cell? ⟨b, 0, none⟩ = some (.func (.func g) #[] #[.pointer (some ⟨b2, 0, none⟩)])) (hb : b < w.heap.size)
    (he : ∀ (args : Array Value) (W : World), (callFunc g args).run Tryd.prog W = .ok (.enter g args) W)
    (hin : ∀ W, Upd [] w W → Calls Tryd.prog g #[.agg c.cells.toArray, .pointer (some ⟨b2, 0, none⟩)] W fun e w' => e = .returned (.agg (Pc k a n cap bd cl).toArray) ∧ Upd [] W w') :
    Calls Tryd.prog 29 #[.agg c.cells.toArray, .pointer (some ⟨b, 0, none⟩)] w fun e w' => e = .returned (.agg (Pc k a n cap bd cl).toArray) ∧ Upd [] w w' := by
  have hmf := mf
  have HI := Hd.mk hin
  clear hin
  have B1 := Blk.new w c.cells 34 _ rfl
  have U1 := (Upd.refl [] w).alloc (.cells c.cells.toArray 34)
  have B2 := Blk.new (w.alloc (.cells c.cells.toArray 34)) [.int .i64 0, .slice none 0 0, .string ⟨#[]⟩, .bool false] 36 (w.heap.size + 1) (by simp)
  have U2 := U1.alloc (.cells #[.int .i64 0, .slice none 0 0, .string ⟨#[]⟩, .bool false] 36)
  have D1 := B1.alloc (.cells #[.int .i64 0, .slice none 0 0, .string ⟨#[]⟩, .bool false] 36)
  have hc2 := (U2.cell (p := ⟨b, 0, none⟩) hb (by simp)).trans hc
  have HB := Hd.mk (And.intro D1 (And.intro B2 U2))
  clear B1 B2 U1 U2 hc
  obtain ⟨mm, tg, fl, bo, cs, cn, sq, vr, hd, pr, aw, fd, tk⟩ := c
  simp only [Cc.cells] at *
  have c0 := D1.cell 0
  have c1 := D1.cell 1
  have c2 := D1.cell 2
  have c3 := D1.cell 3
  have c4 := D1.cell 4
  have c5 := D1.cell 5
  have c6 := D1.cell 6
  have c7 := D1.cell 7
  have c8 := D1.cell 8
  have c9 := D1.cell 9
  have c10 := D1.cell 10
  have c11 := D1.cell 11
  have c12 := D1.cell 12
  simp only [List.getElem?_cons_zero, List.getElem?_cons_succ] at c0 c1 c2 c3 c4 c5 c6 c7 c8 c9 c10 c11 c12
  clear D1
  go_enter_defers Tryd.func29, Tryd.ntmps29
  go_wp2_with fail
  refine (HI.out _ HB.out.2.2).mono ?_
  rintro e w1 ⟨rfl, u1⟩
  have HD := Hd.mk (And.intro (u1.blk HB.out.2.1 (by simp)) (HB.out.2.2.trans u1 (by simp)))
  have dd := HD.out.1
  clear u1
  have d0 := dd.cell 0
  have d1 := dd.cell 1
  have d2 := dd.cell 2
  have d3 := dd.cell 3
  simp only [List.getElem?_cons_zero, List.getElem?_cons_succ] at d0 d1 d2 d3
  have f0 := dd.free 0
  have f1 := dd.free 1
  have f2 := dd.free 2
  have f3 := dd.free 3
  clear dd
  simp only [Pc]
  go_wp2_with fail
  refine leaves_cons (f := 30) (args := #[.pointer (some ⟨w.heap.size + 1, 0, none⟩)]) (by simp) (by simp [go_sem]) ?_
  refine (idle _ _).mono ?_
  rintro e u' w'' ⟨rfl, rfl, rfl⟩
  exact ⟨_, results_cell _ _ _ 3 36 (w.heap.size + 1) (Pc k a n cap bd cl) 36 rfl rfl (HD.out.1.set4 rfl _ _ _ _) (by kernel_rfl) (by kernel_rfl), rfl, HD.out.2.set4 (by omega) _ _ _ _⟩
end Go.Proofs.YtghjdjbjdjbkkaaDoor
