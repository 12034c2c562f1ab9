/- ChainSafe: who gives up, with whatever, is answered by 500; others are not touched. -/
import Derived.Test.YtghjdjbjdjbkkaaDoorK5
import Derived.Test.YtghjdjbjdjbkkaaDoorBits
import Derived.Laws.Panics
namespace Go.Proofs.YtghjdjbjdjbkkaaDoor
set_option linter.unusedSimpArgs false
set_option linter.unusedVariables false
set_option linter.unnecessarySimpa false
open Go.RowKit BigFrame

theorem leaf_call {w : World} {cs : List Value} (h : Leaf.oks w [.str, .str, .sl [.str, .str], .str, .bool, .int .i64, .int .i64, .int .i64, .str, .sl [.str, .str], .sl [.str], .bool, .str] cs) :
    ∃ (c : Cc) (fa aa : Option Addr) (fcap acap : Nat) (fs : List (ByteArray × ByteArray)) (xs : List ByteArray), cs = c.cells ∧ CameC w c fa fcap fs aa acap xs := by
  simp only [Leaf.oks] at h
  obtain ⟨_, _, rfl, h1, _, _, rfl, h2, _, _, rfl, h3, _, _, rfl, h4, _, _, rfl, h5, _, _, rfl, h6, _, _, rfl, h7, _, _, rfl, h8, _, _, rfl, h9, pr, _, rfl, h10, _, _, rfl, h11, _, _, rfl, h12, _, _, rfl, h13, rfl⟩ := h
  have h3' := h3
  have h11' := h11
  simp only [Leaf.ok] at h1 h2 h3' h4 h5 h6 h7 h8 h9 h11' h12 h13
  obtain ⟨mm, rfl, z1⟩ := h1
  obtain ⟨tg, rfl, z2⟩ := h2
  obtain ⟨fa, fn, fcap, _, rfl, -⟩ := h3'
  obtain ⟨bo, rfl, z3⟩ := h4
  obtain ⟨cs, rfl⟩ := h5
  obtain ⟨cn, rfl, k1⟩ := h6
  obtain ⟨sq, rfl, k2⟩ := h7
  obtain ⟨vr, rfl, k3⟩ := h8
  obtain ⟨hd, rfl, -⟩ := h9
  obtain ⟨aa, an, acap, _, rfl, -⟩ := h11'
  obtain ⟨fd, rfl⟩ := h12
  obtain ⟨tk, rfl, z4⟩ := h13
  obtain ⟨fs, rfl, f1, f2, f3⟩ := leaf_fs h3
  obtain ⟨xs, rfl, a1, a2, a3⟩ := leaf_ss h11
  exact ⟨⟨mm, tg, .slice fa fs.length fcap, bo, cs, cn, sq, vr, hd, pr, .slice aa xs.length acap, fd, tk⟩, fa, aa, fcap, acap, fs, xs, rfl, ⟨rfl, rfl, f1, a1, f3, a3, f2, a2, z1, z2, z3, z4, k1, k2, k3⟩⟩
def w500 : ByteArray := ⟨(wordL 500 ++ [10]).toArray⟩
theorem caught (b : Nat) (x y z v : Value) (w : World) (u : TypeId) (pv : Value) (older : List PanicEntry) (hb : Blk w b [x, y, z, v] 36) :
    CallsD Tryd.prog 30 #[.pointer (some ⟨b, 0, none⟩)] (.panicking ({ v := .iface u pv, recovered := false } :: older)) w fun e u' w' =>
      e = .returned (.tuple #[]) ∧ u' = .panicking ({ v := .iface u pv, recovered := true } :: older) ∧ Blk w' b (Pc 500 none 0 0 w500 false) 36 ∧ Upd [b] w w' := by
  refine callsD_of_wpS Tryd.func30 rfl fun c₀ cs hu => ?_
  apply wpS_seq
  apply wpS_region
  simp [wpOpsS, go_sem, recoverD, hu, Tryd.ntmps30, Exit.thenS]
  refine wpS_cond (t := true) (by simp [Act.eval, Array.replicate]) ?_
  simp only [if_true]
  refine wpS_of_wp ?_
  rw [show (#[.pointer (some ⟨b, 0, none⟩)] ++ ((Array.replicate 3 undef).setIfInBounds 0 (Value.iface u pv)).setIfInBounds 1 (Value.bool true) : Array Value) = #[.pointer (some ⟨b, 0, none⟩), .iface u pv, .bool true, undef] from rfl]
  go_wp2_with fail
  refine (plain_ok 500 false w (by omega)).mono ?_
  rintro e w1 ⟨rfl, u1⟩
  have HB := Hd.mk (And.intro (u1.blk hb (by simp)) u1)
  have b1 := HB.out.1
  have c0 := b1.cell 0
  have c1 := b1.cell 1
  have c2 := b1.cell 2
  have c3 := b1.cell 3
  simp only [List.getElem?_cons_zero, List.getElem?_cons_succ] at c0 c1 c2 c3
  have f0 := b1.free 0
  have f1 := b1.free 1
  have f2 := b1.free 2
  have f3 := b1.free 3
  clear b1 u1 hb
  simp only [Rs.plain, Rs.cells, S, List.length_nil]
  have HW := Hd.mk (show (⟨(wordL 500 ++ [10]).toArray⟩ : ByteArray) = w500 from rfl)
  rw [HW.out, show ((500 : Nat) : Int) = 500 from rfl]
  go_wp2_with fail
  exact ⟨rfl, _, rfl, .tuple #[], results_none rfl _ _ _, rfl, rfl, HB.out.1.set4 rfl _ _ _ _, ((((HB.out.2.mono (by simp)).set _ _ (by simp)).set _ _ (by simp)).set _ _ (by simp)).set _ _ (by simp)⟩
set_option maxHeartbeats 1000000 in
theorem safe_ret2 (c : Cc) (g b b2 b3 : Nat) (k : Int) (a : Option Addr) (n cap : Nat) (bd : ByteArray) (cl : Bool) (w : World) (hc : w.cell? ⟨b, 0, none⟩ = some (.func (.func g) #[] #[.pointer (some ⟨b2, 0, none⟩), .pointer (some ⟨b3, 0, none⟩)])) (hb : b < w.heap.size)
    (he : ∀ (args : Array Value) (W : World), (callFunc g args).run Tryd.prog W = .ok (.enter g args) W)
    (hin : ∀ W, Upd [] w W → Calls Tryd.prog g #[.agg c.cells.toArray, .pointer (some ⟨b2, 0, none⟩), .pointer (some ⟨b3, 0, none⟩)] W fun e w' => e = .returned (.agg (Pc k a n cap bd cl).toArray) ∧ Upd [] W w') :
    Calls Tryd.prog 29 #[.agg c.cells.toArray, .pointer (some ⟨b, 0, none⟩)] w fun e w' => e = .returned (.agg (Pc k a n cap bd cl).toArray) ∧ Upd [] w w' := by
  have hmf := mf
  have HI := Hd.mk hin
  clear hin
  have B1 := Blk.new w c.cells 34 _ rfl
  have U1 := (Upd.refl [] w).alloc (.cells c.cells.toArray 34)
  have B2 := Blk.new (w.alloc (.cells c.cells.toArray 34)) [.int .i64 0, .slice none 0 0, .string ⟨#[]⟩, .bool false] 36 (w.heap.size + 1) (by simp)
  have U2 := U1.alloc (.cells #[.int .i64 0, .slice none 0 0, .string ⟨#[]⟩, .bool false] 36)
  have D1 := B1.alloc (.cells #[.int .i64 0, .slice none 0 0, .string ⟨#[]⟩, .bool false] 36)
  have hc2 := (U2.cell (p := ⟨b, 0, none⟩) hb (by simp)).trans hc
  have HB := Hd.mk (And.intro D1 (And.intro B2 U2))
  clear B1 B2 U1 U2 hc
  obtain ⟨mm, tg, fl, bo, cs, cn, sq, vr, hd, pr, aw, fd, tk⟩ := c
  simp only [Cc.cells] at *
  have c0 := D1.cell 0
  have c1 := D1.cell 1
  have c2 := D1.cell 2
  have c3 := D1.cell 3
  have c4 := D1.cell 4
  have c5 := D1.cell 5
  have c6 := D1.cell 6
  have c7 := D1.cell 7
  have c8 := D1.cell 8
  have c9 := D1.cell 9
  have c10 := D1.cell 10
  have c11 := D1.cell 11
  have c12 := D1.cell 12
  simp only [List.getElem?_cons_zero, List.getElem?_cons_succ] at c0 c1 c2 c3 c4 c5 c6 c7 c8 c9 c10 c11 c12
  clear D1
  go_enter_defers Tryd.func29, Tryd.ntmps29
  go_wp2_with fail
  refine (HI.out _ HB.out.2.2).mono ?_
  rintro e w1 ⟨rfl, u1⟩
  have HD := Hd.mk (And.intro (u1.blk HB.out.2.1 (by simp)) (HB.out.2.2.trans u1 (by simp)))
  have dd := HD.out.1
  clear u1
  have d0 := dd.cell 0
  have d1 := dd.cell 1
  have d2 := dd.cell 2
  have d3 := dd.cell 3
  simp only [List.getElem?_cons_zero, List.getElem?_cons_succ] at d0 d1 d2 d3
  have f0 := dd.free 0
  have f1 := dd.free 1
  have f2 := dd.free 2
  have f3 := dd.free 3
  clear dd
  simp only [Pc]
  go_wp2_with fail
  refine leaves_cons (f := 30) (args := #[.pointer (some ⟨w.heap.size + 1, 0, none⟩)]) (by simp) (by simp [go_sem]) ?_
  refine (idle _ _).mono ?_
  rintro e u' w'' ⟨rfl, rfl, rfl⟩
  exact ⟨_, results_cell _ _ _ 3 36 (w.heap.size + 1) (Pc k a n cap bd cl) 36 rfl rfl (HD.out.1.set4 rfl _ _ _ _) (by kernel_rfl) (by kernel_rfl), rfl, HD.out.2.set4 (by omega) _ _ _ _⟩
set_option maxHeartbeats 1000000 in
theorem safe_panic (c : Cc) (g b b2 b3 : Nat) (w : World) (hc : w.cell? ⟨b, 0, none⟩ = some (.func (.func g) #[] #[.pointer (some ⟨b2, 0, none⟩), .pointer (some ⟨b3, 0, none⟩)])) (hb : b < w.heap.size)
    (he : ∀ (args : Array Value) (W : World), (callFunc g args).run Tryd.prog W = .ok (.enter g args) W)
    (hin : ∀ W, Upd [] w W → Calls Tryd.prog g #[.agg c.cells.toArray, .pointer (some ⟨b2, 0, none⟩), .pointer (some ⟨b3, 0, none⟩)] W fun e w' => (∃ u pv, e = .panicked [{ v := .iface u pv, recovered := false }]) ∧ Upd [] W w') :
    Calls Tryd.prog 29 #[.agg c.cells.toArray, .pointer (some ⟨b, 0, none⟩)] w fun e w' => e = .returned (.agg (Pc 500 none 0 0 w500 false).toArray) ∧ Upd [] w w' := by
  have hmf := mf
  have HI := Hd.mk hin
  clear hin
  have B1 := Blk.new w c.cells 34 _ rfl
  have U1 := (Upd.refl [] w).alloc (.cells c.cells.toArray 34)
  have B2 := Blk.new (w.alloc (.cells c.cells.toArray 34)) [.int .i64 0, .slice none 0 0, .string ⟨#[]⟩, .bool false] 36 (w.heap.size + 1) (by simp)
  have U2 := U1.alloc (.cells #[.int .i64 0, .slice none 0 0, .string ⟨#[]⟩, .bool false] 36)
  have D1 := B1.alloc (.cells #[.int .i64 0, .slice none 0 0, .string ⟨#[]⟩, .bool false] 36)
  have hc2 := (U2.cell (p := ⟨b, 0, none⟩) hb (by simp)).trans hc
  have HB := Hd.mk (And.intro D1 (And.intro B2 U2))
  clear B1 B2 U1 U2 hc
  obtain ⟨mm, tg, fl, bo, cs, cn, sq, vr, hd, pr, aw, fd, tk⟩ := c
  simp only [Cc.cells] at *
  have c0 := D1.cell 0
  have c1 := D1.cell 1
  have c2 := D1.cell 2
  have c3 := D1.cell 3
  have c4 := D1.cell 4
  have c5 := D1.cell 5
  have c6 := D1.cell 6
  have c7 := D1.cell 7
  have c8 := D1.cell 8
  have c9 := D1.cell 9
  have c10 := D1.cell 10
  have c11 := D1.cell 11
  have c12 := D1.cell 12
  simp only [List.getElem?_cons_zero, List.getElem?_cons_succ] at c0 c1 c2 c3 c4 c5 c6 c7 c8 c9 c10 c11 c12
  clear D1
  go_enter_defers Tryd.func29, Tryd.ntmps29
  go_wp2_with fail
  refine (HI.out _ HB.out.2.2).mono ?_
  rintro e w1 ⟨⟨u, pv, rfl⟩, u1⟩
  have HD := Hd.mk (And.intro (u1.blk HB.out.2.1 (by simp)) (HB.out.2.2.trans u1 (by simp)))
  clear u1
  refine leaves_cons (f := 30) (args := #[.pointer (some ⟨w.heap.size + 1, 0, none⟩)]) (by simp) (by simp [go_sem]) ?_
  refine (caught (w.heap.size + 1) _ _ _ _ w1 u pv [] HD.out.1).mono ?_
  rintro e u' w'' ⟨rfl, rfl, hb, hu⟩
  exact ⟨_, results_cell _ _ _ 3 36 (w.heap.size + 1) (Pc 500 none 0 0 w500 false) 36 rfl rfl hb (by kernel_rfl) (by kernel_rfl), rfl, HD.out.2.trans hu (fun k hk e => by rw [List.mem_singleton] at e; omega)⟩
theorem idx_nil (W : World) : ∃ s w', (Instr.indexAt 47 (.slice none 0 0) (.int .i64 3)).run Tryd.prog W = .halt (.panic (boundsValue Tryd.prog (IntKind.i64.wrap 3) 0 s 0)) w' ∧ Upd [] W w' := by
  obtain ⟨s, w', h⟩ := run_indexAt_out (P := Tryd.prog) (w := W) 47 none 0 0 .i64 3 (by kernel_rfl) (fun _ => rfl) (by omega)
  refine ⟨s, w', h, ?_⟩
  have e : (Instr.indexAt 47 (.slice none 0 0) (.int .i64 3)).run Tryd.prog W = (boundsPanic .i64 3 0 .index : Sem Value).run Tryd.prog W := by
    simp [Instr.indexAt, run_underlying Tryd.underlying47, asIntOf]
  rw [e] at h
  unfold boundsPanic at h
  simp [runtimePanic, goPanic, go_sem] at h
  rw [← h.2]
  exact (Upd.refl [] W).drew
/-- What the law's own handle does. -/
def SafeP (m : Int) (ret : Value) (w : World) (e : Ending) (w' : World) : Prop := (m = 0 → e = .returned ret) ∧ (m ≠ 0 → ∃ u pv, e = .panicked [{ v := .iface u pv, recovered := false }]) ∧ Upd [] w w'
set_option maxRecDepth 100000 in
set_option maxHeartbeats 2000000 in
theorem cloS (c : Cc) (how : Int) (hb cb : Nat) (w : World) (hh : Blk w hb [.int .i64 how] 3) (hc : Blk w cb c.cells 34) :
    Calls Tryd.prog 18 #[.agg c.cells.toArray, .pointer (some ⟨hb, 0, none⟩), .pointer (some ⟨cb, 0, none⟩)] w (SafeP (how % 4) (.agg (Pc 204 none 0 0 c.body false).toArray) w) := by
  have B1 := Blk.new w c.cells 34 _ rfl
  have U1 := (Upd.refl [] w).alloc (.cells c.cells.toArray 34)
  have B2 := Blk.new (w.alloc (.cells c.cells.toArray 34)) [.int .i64 0, .slice none 0 0, .string ⟨#[]⟩, .bool false] 36 (w.heap.size + 1) (by simp)
  have U2 := U1.alloc (.cells #[.int .i64 0, .slice none 0 0, .string ⟨#[]⟩, .bool false] 36)
  have hc2 := U2.blk hc (by simp)
  have hh2 := U2.blk hh (by simp)
  have HB := Hd.mk (And.intro B2 (And.intro U2 (And.intro hc2 hh2)))
  clear B1 B2 U1 U2 hc2 hh2 hc hh
  obtain ⟨mm, tg, fl, bo, cs, cn, sq, vr, hd, pr, aw, fd, tk⟩ := c
  simp only [Cc.cells] at *
  obtain ⟨m, hm⟩ : ∃ m : Nat, how % 4 = m := ⟨(how % 4).toNat, by omega⟩
  have hm4 : m < 4 := by omega
  rw [hm]
  go_enter Tryd.func18, Tryd.ntmps18
  go_upto_region 1 with (fail)
  refine wp_abs (fun W => (Blk W (w.heap.size + 1) [.int .i64 0, .slice none 0 0, .string ⟨#[]⟩, .bool false] 36 ∧ Upd [] w W ∧ Blk W cb [.string mm, .string tg, fl, .string bo, .bool cs, .int .i64 cn, .int .i64 sq, .int .i64 vr, .string hd, pr, aw, .bool fd, .string tk] 34 ∧ Blk W hb [.int .i64 how] 3)) HB.out ?_
  clear HB
  obtain ⟨x2, hx2⟩ : ∃ x, w.heap.size + 1 = x := ⟨_, rfl⟩
  rw [hx2]
  have HX := Hd.mk hx2
  clear hx2
  rintro w1 ⟨b2, u1, bc, bh⟩
  have HB := Hd.mk (And.intro b2 u1)
  have d0 := b2.cell 0
  have d1 := b2.cell 1
  have d2 := b2.cell 2
  have d3 := b2.cell 3
  simp only [List.getElem?_cons_zero, List.getElem?_cons_succ] at d0 d1 d2 d3
  have e0 := bc.cell 0
  have e1 := bc.cell 1
  have e2 := bc.cell 2
  have e3 := bc.cell 3
  have e4 := bc.cell 4
  have e5 := bc.cell 5
  have e6 := bc.cell 6
  have e7 := bc.cell 7
  have e8 := bc.cell 8
  have e9 := bc.cell 9
  have e10 := bc.cell 10
  have e11 := bc.cell 11
  have e12 := bc.cell 12
  simp only [List.getElem?_cons_zero, List.getElem?_cons_succ] at e0 e1 e2 e3 e4 e5 e6 e7 e8 e9 e10 e11 e12
  have h0 := bh.cell 0
  simp only [List.getElem?_cons_zero, List.getElem?_cons_succ] at h0
  have f0 := b2.free 0
  have f1 := b2.free 1
  have f2 := b2.free 2
  have f3 := b2.free 3
  clear b2 u1 bc bh
  rcases (by omega : m = 0 ∨ m = 1 ∨ m = 2 ∨ m = 3) with rfl | rfl | rfl | rfl
  · go_wp2_with fail
    refine bodyPost_ret (results_cell _ _ _ 4 36 x2 (Pc 204 none 0 0 bo false) 36 rfl rfl (HB.out.1.set4 rfl _ _ _ _) (by kernel_rfl) (by kernel_rfl)) rfl ⟨fun _ => rfl, fun h => absurd rfl h, HB.out.2.set4 (by have := HX.out; omega) _ _ _ _⟩
  · go_wp2_with fail
    exact ⟨rfl, fun h => absurd h (by decide), fun _ => ⟨_, _, rfl⟩, HB.out.2⟩
  · go_wp2_with fail
    exact ⟨rfl, fun h => absurd h (by decide), fun _ => ⟨_, _, rfl⟩, HB.out.2⟩
  · obtain ⟨s, w9, hix, u9⟩ := idx_nil w1
    have HU9 := Hd.mk u9
    clear u9
    go_wp2_with fail
    exact ⟨rfl, fun h => absurd h (by decide), fun _ => ⟨_, _, rfl⟩, HB.out.2.trans HU9.out (by simp)⟩
/-- Worlds in which the call's box, the number's and the answer's stand. -/
def SfW (w : World) (cb hb tb : Nat) (cs : List Value) (how : Int) (ds : List Value) (W : World) : Prop := Blk W cb cs 34 ∧ Blk W hb [.int .i64 how] 3 ∧ Blk W tb ds 36 ∧ Upd [] w W
theorem SfW.up {w W W' : World} {cb hb tb : Nat} {cs ds : List Value} {how : Int} (h : SfW w cb hb tb cs how ds W) (hu : Upd [] W W') : SfW w cb hb tb cs how ds W' := ⟨hu.blk h.1 (by simp), hu.blk h.2.1 (by simp), hu.blk h.2.2.1 (by simp), h.2.2.2.trans hu (by simp)⟩
set_option maxRecDepth 100000 in
set_option maxHeartbeats 4000000 in
theorem safe_walk (c : Cc) (fa aa : Option Addr) (fcap acap : Nat) (fs : List (ByteArray × ByteArray)) (xs : List ByteArray) (how : Int) (w : World) (h : CameC w c fa fcap fs aa acap xs) (hT : Tab w) :
    Calls Tryd.prog 5 #[.agg c.cells.toArray, .int .i64 how] w fun e w' => e = .returned (.bool true) ∧ Upd [] w w' := by
  have HC := Hd.mk h
  have HT := Hd.mk hT
  clear h hT
  have hmf := mf
  have B1 := Blk.new w c.cells 34 _ rfl
  have U1 := (Upd.refl [] w).alloc (.cells c.cells.toArray 34)
  have B2 := Blk.new (w.alloc (.cells c.cells.toArray 34)) [.int .i64 how] 3 (w.heap.size + 1) (by simp)
  have U2 := U1.alloc (.cells #[.int .i64 how] 3)
  have D1 := B1.alloc (.cells #[.int .i64 how] 3)
  have HB := Hd.mk (And.intro D1 (And.intro B2 U2))
  clear B1 B2 U1 U2 D1
  have HLT := Hd.mk (fun (W : World) (hu : Upd [] w W) => light_ok c fa aa fcap acap fs xs W (HC.out.upd hu))
  have HCL := Hd.mk (fun hb cb (W : World) => cloS c how hb cb W)
  have HS0 := Hd.mk (fun b b2 b3 (W : World) => safe_ret2 c 18 b b2 b3 204 none 0 0 c.body false W)
  have HS1 := Hd.mk (fun b b2 b3 (W : World) => safe_panic c 18 b b2 b3 W)
  obtain ⟨mm, tg, fl, bo, cs, cn, sq, vr, hd, pr, aw, fd, tk⟩ := c
  simp only [Cc.cells] at *
  clear HC
  go_enter Tryd.func5, Tryd.ntmps5
  go_upto_region 1 with (fail)
  refine wp_abs (fun W => (Blk W w.heap.size [.string mm, .string tg, fl, .string bo, .bool cs, .int .i64 cn, .int .i64 sq, .int .i64 vr, .string hd, pr, aw, .bool fd, .string tk] 34 ∧ Blk W (w.heap.size + 1) [.int .i64 how] 3 ∧ Upd [] w W)) HB.out ?_
  clear HB
  obtain ⟨hb, hx2⟩ : ∃ x, w.heap.size + 1 = x := ⟨_, rfl⟩
  obtain ⟨cb, hx1⟩ : ∃ x, w.heap.size = x := ⟨_, rfl⟩
  rw [hx2, hx1]
  have HX := Hd.mk (And.intro hx1 hx2)
  clear hx1 hx2
  rintro w1 ⟨b1, b2, u1⟩
  have HB := Hd.mk (And.intro b1 (And.intro b2 u1))
  clear b1 b2 u1
  go_wp2_with fail
  refine (fit_ok w1 (HT.out.upd HB.out.2.2)).mono ?_
  rintro e w2 ⟨rfl, u2⟩
  have HB := Hd.mk (And.intro (u2.blk HB.out.1 (by simp)) (And.intro (u2.blk HB.out.2.1 (by simp)) (HB.out.2.2.trans u2 (by simp))))
  have b1 := HB.out.1
  have c0 := b1.cell 0
  have c1 := b1.cell 1
  have c2 := b1.cell 2
  have c3 := b1.cell 3
  have c4 := b1.cell 4
  have c5 := b1.cell 5
  have c6 := b1.cell 6
  have c7 := b1.cell 7
  have c8 := b1.cell 8
  have c9 := b1.cell 9
  have c10 := b1.cell 10
  have c11 := b1.cell 11
  have c12 := b1.cell 12
  simp only [List.getElem?_cons_zero, List.getElem?_cons_succ] at c0 c1 c2 c3 c4 c5 c6 c7 c8 c9 c10 c11 c12
  clear u2 b1
  go_wp2_with fail
  refine (HLT.out w2 HB.out.2.2).mono ?_
  rintro e w3 ⟨b, rfl, -, u3⟩
  have HB := Hd.mk (And.intro (u3.blk HB.out.1 (by simp)) (And.intro (u3.blk HB.out.2.1 (by simp)) (HB.out.2.2.trans u3 (by simp))))
  clear u3 c0 c1 c2 c3 c4 c5 c6 c7 c8 c9 c10 c11 c12
  cases b with
  | false =>
    go_wp2_with fail
    go_ret
    exact ⟨rfl, HB.out.2.2⟩
  | true =>
    go_wp2_with fail
    refine (link_safe (.func 18) #[] #[.pointer (some ⟨hb, 0, none⟩), .pointer (some ⟨cb, 0, none⟩)] w3).mono ?_
    rintro e w4 ⟨rfl, hw4⟩
    have hk := Blk.new w3 [.func (.func 18) #[] #[.pointer (some ⟨hb, 0, none⟩), .pointer (some ⟨cb, 0, none⟩)]] 25 _ rfl
    have HB4 := Hd.mk (show (Blk w4 cb [.string mm, .string tg, fl, .string bo, .bool cs, .int .i64 cn, .int .i64 sq, .int .i64 vr, .string hd, pr, aw, .bool fd, .string tk] 34 ∧ Blk w4 hb [.int .i64 how] 3 ∧ Upd [] w w4) ∧ Blk w4 w3.heap.size [.func (.func 18) #[] #[.pointer (some ⟨hb, 0, none⟩), .pointer (some ⟨cb, 0, none⟩)]] 25 by rw [hw4]; exact ⟨⟨HB.out.1.alloc _, HB.out.2.1.alloc _, HB.out.2.2.alloc _⟩, hk⟩)
    clear hk hw4 HB
    generalize w3.heap.size = kb at HB4 ⊢
    have b1 := HB4.out.1.1
    have c0 := b1.cell 0
    have c1 := b1.cell 1
    have c2 := b1.cell 2
    have c3 := b1.cell 3
    have c4 := b1.cell 4
    have c5 := b1.cell 5
    have c6 := b1.cell 6
    have c7 := b1.cell 7
    have c8 := b1.cell 8
    have c9 := b1.cell 9
    have c10 := b1.cell 10
    have c11 := b1.cell 11
    have c12 := b1.cell 12
    simp only [List.getElem?_cons_zero, List.getElem?_cons_succ] at c0 c1 c2 c3 c4 c5 c6 c7 c8 c9 c10 c11 c12
    clear b1
    go_wp2_with fail
    obtain ⟨m, hm⟩ : ∃ m : Nat, how % 4 = m := ⟨(how % 4).toNat, by omega⟩
    have y1 := str_yes (rfl : bo = bo)
    by_cases hm0 : how % 4 = 0
    · refine (HS0.out kb hb cb w4 (HB4.out.2.cell 0) HB4.out.2.lt (enters _ _ _ Tryd.func18 (by kernel_rfl) rfl) (fun W hu => (HCL.out hb cb W (hu.blk HB4.out.1.2.1 (by simp)) (hu.blk HB4.out.1.1 (by simp))).mono fun e w' h => ⟨h.1 hm0, h.2.2⟩)).mono ?_
      rintro e w5 ⟨rfl, u5⟩
      have hf : SfW w cb hb w5.heap.size [.string mm, .string tg, fl, .string bo, .bool cs, .int .i64 cn, .int .i64 sq, .int .i64 vr, .string hd, pr, aw, .bool fd, .string tk] how (Pc 204 none 0 0 bo false) (w5.alloc (.cells (Pc 204 none 0 0 bo false).toArray 36)) := ⟨(u5.blk HB4.out.1.1 (by simp)).alloc _, (u5.blk HB4.out.1.2.1 (by simp)).alloc _, Blk.new w5 _ _ _ rfl, (HB4.out.1.2.2.trans u5 (by simp)).alloc _⟩
      clear u5 c0 c1 c2 c3 c4 c5 c6 c7 c8 c9 c10 c11 c12 hm
      simp only [Pc] at hf ⊢
      have HF := Hd.mk hf
      clear hf
      go_upto_region 7 with (fail)
      refine wp_abs (SfW w cb hb w5.heap.size [.string mm, .string tg, fl, .string bo, .bool cs, .int .i64 cn, .int .i64 sq, .int .i64 vr, .string hd, pr, aw, .bool fd, .string tk] how [.int .i64 204, .slice none 0 0, .string bo, .bool false]) HF.out ?_
      clear HF
      generalize w5.heap.size = tb
      rintro w6 h6
      have HF := Hd.mk h6
      have b1 := h6.1
      have b2 := h6.2.1
      have b3 := h6.2.2.1
      clear h6
      have c0 := b1.cell 0
      have c1 := b1.cell 1
      have c2 := b1.cell 2
      have c3 := b1.cell 3
      have c4 := b1.cell 4
      have c5 := b1.cell 5
      have c6 := b1.cell 6
      have c7 := b1.cell 7
      have c8 := b1.cell 8
      have c9 := b1.cell 9
      have c10 := b1.cell 10
      have c11 := b1.cell 11
      have c12 := b1.cell 12
      simp only [List.getElem?_cons_zero, List.getElem?_cons_succ] at c0 c1 c2 c3 c4 c5 c6 c7 c8 c9 c10 c11 c12
      have g0 := b2.cell 0
      simp only [List.getElem?_cons_zero, List.getElem?_cons_succ] at g0
      have d0 := b3.cell 0
      have d1 := b3.cell 1
      have d2 := b3.cell 2
      have d3 := b3.cell 3
      simp only [List.getElem?_cons_zero, List.getElem?_cons_succ] at d0 d1 d2 d3
      clear b1 b2 b3
      go_wp2_with fail
      go_ret
      exact ⟨rfl, HF.out.2.2.2⟩
    · refine (HS1.out kb hb cb w4 (HB4.out.2.cell 0) HB4.out.2.lt (enters _ _ _ Tryd.func18 (by kernel_rfl) rfl) (fun W hu => (HCL.out hb cb W (hu.blk HB4.out.1.2.1 (by simp)) (hu.blk HB4.out.1.1 (by simp))).mono fun e w' h => ⟨h.2.1 hm0, h.2.2⟩)).mono ?_
      rintro e w5 ⟨rfl, u5⟩
      have hf : SfW w cb hb w5.heap.size [.string mm, .string tg, fl, .string bo, .bool cs, .int .i64 cn, .int .i64 sq, .int .i64 vr, .string hd, pr, aw, .bool fd, .string tk] how (Pc 500 none 0 0 w500 false) (w5.alloc (.cells (Pc 500 none 0 0 w500 false).toArray 36)) := ⟨(u5.blk HB4.out.1.1 (by simp)).alloc _, (u5.blk HB4.out.1.2.1 (by simp)).alloc _, Blk.new w5 _ _ _ rfl, (HB4.out.1.2.2.trans u5 (by simp)).alloc _⟩
      clear u5 c0 c1 c2 c3 c4 c5 c6 c7 c8 c9 c10 c11 c12
      simp only [Pc] at hf ⊢
      have HF := Hd.mk hf
      clear hf
      go_upto_region 7 with (fail)
      refine wp_abs (SfW w cb hb w5.heap.size [.string mm, .string tg, fl, .string bo, .bool cs, .int .i64 cn, .int .i64 sq, .int .i64 vr, .string hd, pr, aw, .bool fd, .string tk] how [.int .i64 500, .slice none 0 0, .string w500, .bool false]) HF.out ?_
      clear HF
      generalize w5.heap.size = tb
      rintro w6 h6
      have HF := Hd.mk h6
      have b2 := h6.2.1
      clear h6
      have g0 := b2.cell 0
      simp only [List.getElem?_cons_zero, List.getElem?_cons_succ] at g0
      clear b2
      have hm0' : ((how % 4) == 0) = false := by simpa using hm0
      go_upto_region 9 with (fail)
      clear g0
      obtain ⟨R, hR⟩ : ∃ R : World → Prop, R = SfW w cb hb tb [.string mm, .string tg, fl, .string bo, .bool cs, .int .i64 cn, .int .i64 sq, .int .i64 vr, .string hd, pr, aw, .bool fd, .string tk] how [.int .i64 500, .slice none 0 0, .string w500, .bool false] := ⟨_, rfl⟩
      have hRW : ∀ W, R W → SfW w cb hb tb [.string mm, .string tg, fl, .string bo, .bool cs, .int .i64 cn, .int .i64 sq, .int .i64 vr, .string hd, pr, aw, .bool fd, .string tk] how [.int .i64 500, .slice none 0 0, .string w500, .bool false] W := fun W h => by rw [hR] at h; exact h
      have HRW := Hd.mk hRW
      have hRM : ∀ x : Cls R, SfW w cb hb tb [.string mm, .string tg, fl, .string bo, .bool cs, .int .i64 cn, .int .i64 sq, .int .i64 vr, .string hd, pr, aw, .bool fd, .string tk] how [.int .i64 500, .slice none 0 0, .string w500, .bool false] x.w := fun x => hRW x.w x.ok
      have d0 : ∀ x : Cls R, x.w.cell? ⟨tb, 0, none⟩ = some (.int .i64 500) := fun x => (hRM x).2.2.1.cell 0
      have d1 : ∀ x : Cls R, x.w.cell? ⟨tb, 1, none⟩ = some (.slice none 0 0) := fun x => (hRM x).2.2.1.cell 1
      have d2 : ∀ x : Cls R, x.w.cell? ⟨tb, 2, none⟩ = some (.string w500) := fun x => (hRM x).2.2.1.cell 2
      have d3 : ∀ x : Cls R, x.w.cell? ⟨tb, 3, none⟩ = some (.bool false) := fun x => (hRM x).2.2.1.cell 3
      have hR0 : R w6.drew := by rw [hR]; exact HF.out.up ((Upd.refl [] w6).drew)
      have hup : ∀ (x : Cls R) w', Upd [] x.w w' → R w' := fun x w' hu => by rw [hR]; exact (hRM x).up hu
      obtain ⟨wd, hwd⟩ : ∃ t : ByteArray, (⟨(wordL 500).toArray⟩ : ByteArray) = t := ⟨_, rfl⟩
      have hwz : wd.size ≤ 31 := by rw [← hwd, S_size]; exact wordL_len 500
      have HWD := Hd.mk (show ∀ x : Cls R, Calls Tryd.prog 19 #[.int .i64 500] x.w fun e w'' => e = .returned (.string wd) ∧ ∃ y : Cls R, w'' = y.w from fun x => Calls.cls (word_ok 500 x.w) (fun e w' h => ⟨h.1.trans (by rw [S, ← hwd]; rfl), hup x w' h.2⟩))
      have hw5 : w500 = wd ++ ⟨#[10]⟩ := by
        refine toList_inj ?_
        rw [← hwd]
        simp [w500]
      have y2 := str_yes hw5
      obtain ⟨w5b, hw5b⟩ : ∃ t, w500 = t := ⟨_, rfl⟩
      rw [hw5b] at d2 y2
      clear hup hwd hw5 hw5b hRM hRW hR HF
      refine wp_region_cls R hR0 (by kernel_rfl) (by kernel_rfl) (fun _ => ?_)
      repeat (go_big_quiet_step ((go_at_call 19; rename_i x; with_reducible exact HWD.out x)))
      refine wpQuiet_nil ?_
      intro _ hw'
      obtain ⟨nq, hw''⟩ := hw'
      subst hw''
      go_wp2_with fail
      go_ret
      exact ⟨rfl, (HRW.out _ nq.ok).2.2.2⟩
theorem safe_row (cs : Array Value) (how : Int) (w : World) (hT : Tab w) (hz : Leaf.oks w [.str, .str, .sl [.str, .str], .str, .bool, .int .i64, .int .i64, .int .i64, .str, .sl [.str, .str], .sl [.str], .bool, .str] cs.toList) (_ : (Lit.int .i64 how).wf = true) :
    Calls Tryd.prog 5 #[.agg cs, .int .i64 how] w fun e w' => e = .returned (.bool true) ∧ Below w.heap.size w w' := by
  obtain ⟨c, fa, aa, fcap, acap, fs, xs, hcs, hC⟩ := leaf_call hz
  have h := safe_walk c fa aa fcap acap fs xs how w hC hT
  rw [← hcs] at h
  exact h.mono fun _ _ h => ⟨h.1, h.2.nil_below⟩
end Go.Proofs.YtghjdjbjdjbkkaaDoor
