/- ChainOrders: links stand one within another, the first one outermost. -/
import Derived.Test.YtghjdjbjdjbkkaaDoorK4
import Derived.Test.YtghjdjbjdjbkkaaDoorK8
import Derived.Test.YtghjdjbjdjbkkaaDoorCq2
import Derived.Test.YtghjdjbjdjbkkaaDoorAp2
import Derived.Test.YtghjdjbjdjbkkaaDoorBits
namespace Go.Proofs.YtghjdjbjdjbkkaaDoor
set_option linter.unusedSimpArgs false
set_option linter.unusedVariables false
set_option linter.unnecessarySimpa false
open Go.RowKit BigFrame

/-- The text of j links of n, the last j ones. -/
def nestB (n : Nat) : Nat → ByteArray
  | 0 => ⟨#[120]⟩
  | j + 1 => itoaB ((n - 1 - j : Nat) : Int) ++ ⟨#[40]⟩ ++ nestB n j ++ ⟨#[41]⟩
theorem nestB_size (n j : Nat) (hn : n ≤ 16) : (nestB n j).size ≤ 1 + 23 * j := by
  induction j with
  | zero => exact Nat.le_refl _
  | succ j ih =>
    have h := itoaB_size ((n - 1 - j : Nat) : Int) (by omega) (by omega)
    unfold nestB
    simp only [ByteArray.size_append]
    have e1 : (⟨#[40]⟩ : ByteArray).size = 1 := rfl
    have e2 : (⟨#[41]⟩ : ByteArray).size = 1 := rfl
    omega
def c0 : Cc := ⟨⟨#[]⟩, ⟨#[]⟩, .slice none 0 0, ⟨#[]⟩, false, 0, 0, 0, ⟨#[]⟩, .slice none 0 0, .slice none 0 0, false, ⟨#[]⟩⟩
/-- A handle behind the last j links of n. -/
def HdAt (w : World) (n : Nat) : Nat → Nat → Array Value → Prop
  | 0, g, caps => g = 12 ∧ caps = #[]
  | j + 1, g, caps => ∃ b ib g' caps', g = 9 ∧ caps = #[.pointer (some ⟨b, 0, none⟩), .pointer (some ⟨ib, 0, none⟩)] ∧ Blk w b [.func (.func g') #[] caps'] 25 ∧ Blk w ib [.int .i64 (n - 1 - j : Nat)] 3 ∧ HdAt w n j g' caps'
theorem HdAt.upd {w w' : World} {n j g : Nat} {caps : Array Value} (h : HdAt w n j g caps) (hu : Upd [] w w') : HdAt w' n j g caps := by
  induction j generalizing g caps with
  | zero => exact h
  | succ j ih =>
    obtain ⟨b, ib, g', caps', h1, h2, h3, h4, h5⟩ := h
    exact ⟨b, ib, g', caps', h1, h2, hu.blk h3 (by simp), hu.blk h4 (by simp), ih h5⟩
theorem hd_enters {w : World} {n j g : Nat} {caps : Array Value} (h : HdAt w n j g caps) (args : Array Value) (W : World) : (callFunc g args).run Tryd.prog W = .ok (.enter g args) W := by
  cases j with
  | zero =>
    obtain ⟨rfl, -⟩ := h
    exact enters _ _ _ Tryd.func12 (by kernel_rfl) rfl args W
  | succ j =>
    obtain ⟨-, -, -, -, rfl, -⟩ := h
    exact enters _ _ _ Tryd.func9 (by kernel_rfl) rfl args W
set_option maxHeartbeats 1000000 in
theorem link_o (g : Nat) (caps : Array Value) (ib : Nat) (w : World) : Calls Tryd.prog 8 #[.func (.func g) #[] caps, .pointer (some ⟨ib, 0, none⟩)] w fun e w' => e = .returned (.func (.func 9) #[] #[.pointer (some ⟨w.heap.size, 0, none⟩), .pointer (some ⟨ib, 0, none⟩)]) ∧ w' = w.alloc (.cells #[.func (.func g) #[] caps] 25) := by
  have hmf := mf
  go_enter Tryd.func8, Tryd.ntmps8
  go_wp2_with fail
  go_ret
  exact ⟨rfl, rfl⟩
set_option maxHeartbeats 1000000 in
theorem x_ok (w : World) : Calls Tryd.prog 12 #[.agg c0.cells.toArray] w fun e w' => e = .returned (.agg (Pc 0 none 0 0 ⟨#[120]⟩ false).toArray) ∧ Upd [] w w' := by
  have U1 := (Upd.refl [] w).alloc (.cells c0.cells.toArray 34)
  have B2 := Blk.new (w.alloc (.cells c0.cells.toArray 34)) [.int .i64 0, .slice none 0 0, .string ⟨#[]⟩, .bool false] 36 (w.heap.size + 1) (by simp)
  have U2 := U1.alloc (.cells #[.int .i64 0, .slice none 0 0, .string ⟨#[]⟩, .bool false] 36)
  have HB := Hd.mk (And.intro B2 U2)
  clear B2 U1 U2
  simp only [c0, Cc.cells] at *
  go_enter Tryd.func12, Tryd.ntmps12
  go_upto_region 1 with (fail)
  refine wp_abs (fun W => (Blk W (w.heap.size + 1) [.int .i64 0, .slice none 0 0, .string ⟨#[]⟩, .bool false] 36 ∧ Upd [] w W)) HB.out ?_
  clear HB
  obtain ⟨x2, hx2⟩ : ∃ x, w.heap.size + 1 = x := ⟨_, rfl⟩
  rw [hx2]
  have HX := Hd.mk hx2
  clear hx2
  rintro w1 ⟨b2, u1⟩
  have HB := Hd.mk (And.intro b2 u1)
  have d0 := b2.cell 0
  have d1 := b2.cell 1
  have d2 := b2.cell 2
  have d3 := b2.cell 3
  simp only [List.getElem?_cons_zero, List.getElem?_cons_succ] at d0 d1 d2 d3
  have f0 := b2.free 0
  have f1 := b2.free 1
  have f2 := b2.free 2
  have f3 := b2.free 3
  clear b2 u1
  go_wp2_with fail
  exact bodyPost_ret (results_cell _ _ _ 2 36 x2 (Pc 0 none 0 0 ⟨#[120]⟩ false) 36 rfl rfl (HB.out.1.set4 rfl _ _ _ _) (by kernel_rfl) (by kernel_rfl)) rfl ⟨rfl, HB.out.2.set4 (by have := HX.out; omega) _ _ _ _⟩
set_option maxRecDepth 100000 in
set_option maxHeartbeats 2000000 in
theorem one_ok (g b ib : Nat) (caps : Array Value) (i : Nat) (hi : i < 16) (t : ByteArray) (ht : t.size ≤ 1000) (w : World) (hb : Blk w b [.func (.func g) #[] caps] 25) (hib : Blk w ib [.int .i64 i] 3)
    (he : ∀ (args : Array Value) (W : World), (callFunc g args).run Tryd.prog W = .ok (.enter g args) W)
    (hin : ∀ W, Upd [] w W → Calls Tryd.prog g (#[.agg c0.cells.toArray] ++ caps) W fun e w' => e = .returned (.agg (Pc 0 none 0 0 t false).toArray) ∧ Upd [] W w') :
    Calls Tryd.prog 9 #[.agg c0.cells.toArray, .pointer (some ⟨b, 0, none⟩), .pointer (some ⟨ib, 0, none⟩)] w fun e w' => e = .returned (.agg (Pc 0 none 0 0 (itoaB i ++ ⟨#[40]⟩ ++ t ++ ⟨#[41]⟩) false).toArray) ∧ Upd [] w w' := by
  have HI := Hd.mk hin
  clear hin
  have B1 := Blk.new w c0.cells 34 _ rfl
  have U1 := (Upd.refl [] w).alloc (.cells c0.cells.toArray 34)
  have D1 := B1.alloc (.cells #[.int .i64 0, .slice none 0 0, .string ⟨#[]⟩, .bool false] 36)
  have B2 := Blk.new (w.alloc (.cells c0.cells.toArray 34)) [.int .i64 0, .slice none 0 0, .string ⟨#[]⟩, .bool false] 36 (w.heap.size + 1) (by simp)
  have U2 := U1.alloc (.cells #[.int .i64 0, .slice none 0 0, .string ⟨#[]⟩, .bool false] 36)
  have hb2 := U2.blk hb (by simp)
  have hib2 := U2.blk hib (by simp)
  have HB := Hd.mk (And.intro D1 (And.intro B2 (And.intro U2 (And.intro hb2 hib2))))
  have HL := Hd.mk (And.intro hb.lt hib.lt)
  clear B1 B2 U1 U2 D1 hb2 hib2 hb hib
  simp only [c0, Cc.cells] at *
  go_enter Tryd.func9, Tryd.ntmps9
  go_upto_region 1 with (fail)
  refine wp_abs (fun W => Blk W w.heap.size [.string ⟨#[]⟩, .string ⟨#[]⟩, .slice none 0 0, .string ⟨#[]⟩, .bool false, .int .i64 0, .int .i64 0, .int .i64 0, .string ⟨#[]⟩, .slice none 0 0, .slice none 0 0, .bool false, .string ⟨#[]⟩] 34 ∧ Blk W (w.heap.size + 1) [.int .i64 0, .slice none 0 0, .string ⟨#[]⟩, .bool false] 36 ∧ Upd [] w W ∧ Blk W b [.func (.func g) #[] caps] 25 ∧ Blk W ib [.int .i64 i] 3) HB.out ?_
  clear HB
  obtain ⟨x2, hx2⟩ : ∃ x, w.heap.size + 1 = x := ⟨_, rfl⟩
  obtain ⟨x1, hx1⟩ : ∃ x, w.heap.size = x := ⟨_, rfl⟩
  rw [hx2, hx1]
  have HX := Hd.mk (And.intro hx1 hx2)
  clear hx1 hx2
  rintro w1 ⟨b1, b2, u1, bh, bi⟩
  have HB := Hd.mk (And.intro b2 (And.intro u1 bi))
  have c0 := b1.cell 0
  have c1 := b1.cell 1
  have c2 := b1.cell 2
  have c3 := b1.cell 3
  have c4 := b1.cell 4
  have c5 := b1.cell 5
  have c6 := b1.cell 6
  have c7 := b1.cell 7
  have c8 := b1.cell 8
  have c9 := b1.cell 9
  have c10 := b1.cell 10
  have c11 := b1.cell 11
  have c12 := b1.cell 12
  simp only [List.getElem?_cons_zero, List.getElem?_cons_succ] at c0 c1 c2 c3 c4 c5 c6 c7 c8 c9 c10 c11 c12
  have h0 := bh.cell 0
  simp only [List.getElem?_cons_zero, List.getElem?_cons_succ] at h0
  clear b1 b2 u1 bh bi
  go_wp2_with fail
  refine (HI.out w1 HB.out.2.1).mono ?_
  rintro e w2 ⟨rfl, u2⟩
  clear c0 c1 c2 c3 c4 c5 c6 c7 c8 c9 c10 c11 c12 h0 HI he
  simp only [Pc]
  have HB2 := Hd.mk (show (Blk (w2.alloc (.cells #[.int .i64 0, .slice none 0 0, .string t, .bool false] 36)) x2 [.int .i64 0, .slice none 0 0, .string ⟨#[]⟩, .bool false] 36 ∧ Blk (w2.alloc (.cells #[.int .i64 0, .slice none 0 0, .string t, .bool false] 36)) w2.heap.size [.int .i64 0, .slice none 0 0, .string t, .bool false] 36 ∧ Upd [] w (w2.alloc (.cells #[.int .i64 0, .slice none 0 0, .string t, .bool false] 36)) ∧ Blk (w2.alloc (.cells #[.int .i64 0, .slice none 0 0, .string t, .bool false] 36)) ib [.int .i64 i] 3) from ⟨(u2.blk HB.out.1 (by simp)).alloc _, Blk.new w2 _ _ _ rfl, (HB.out.2.1.trans u2 (by simp)).alloc _, (u2.blk HB.out.2.2 (by simp)).alloc _⟩)
  have HN := Hd.mk (show x2 < w2.heap.size from (u2.blk HB.out.1 (by simp)).lt)
  clear u2
  go_upto_region 2 with (fail)
  refine wp_abs (fun W => Blk W x2 [.int .i64 0, .slice none 0 0, .string ⟨#[]⟩, .bool false] 36 ∧ Blk W w2.heap.size [.int .i64 0, .slice none 0 0, .string t, .bool false] 36 ∧ Upd [] w W ∧ Blk W ib [.int .i64 i] 3) HB2.out ?_
  clear HB2 HB
  obtain ⟨x5, hx5⟩ : ∃ x, w2.heap.size = x := ⟨_, rfl⟩
  rw [hx5] at HN ⊢
  clear hx5
  rintro w3 ⟨b2, b5, u3, bi⟩
  have HB := Hd.mk (And.intro b2 (And.intro b5 (And.intro u3 bi)))
  clear b2 b5 u3 bi
  obtain ⟨it, hit⟩ : ∃ q, itoaB (i : Int) = q := ⟨_, rfl⟩
  have zit := itoaB_size (i : Int) (by omega) (by omega)
  rw [hit] at zit
  have s1 : ¬ 9223372036854775807 < it.size + 1 := by omega
  have s2 : ¬ 9223372036854775807 < it.size + 1 + t.size := by omega
  have s3 : ¬ 9223372036854775807 < it.size + 1 + t.size + 1 := by omega
  obtain ⟨R, hR⟩ : ∃ R : World → Prop, R = fun W => Blk W x2 [.int .i64 0, .slice none 0 0, .string ⟨#[]⟩, .bool false] 36 ∧ Blk W x5 [.int .i64 0, .slice none 0 0, .string t, .bool false] 36 ∧ Upd [] w W ∧ Blk W ib [.int .i64 i] 3 := ⟨_, rfl⟩
  have hR0 : R w3.drew := by rw [hR]; exact ⟨HB.out.1, HB.out.2.1, HB.out.2.2.1.drew, HB.out.2.2.2⟩
  have hRW : ∀ W, R W → Blk W x2 [.int .i64 0, .slice none 0 0, .string ⟨#[]⟩, .bool false] 36 ∧ Blk W x5 [.int .i64 0, .slice none 0 0, .string t, .bool false] 36 ∧ Upd [] w W ∧ Blk W ib [.int .i64 i] 3 := fun W h => by rw [hR] at h; exact h
  have hRM : ∀ x : Cls R, Blk x.w x2 [.int .i64 0, .slice none 0 0, .string ⟨#[]⟩, .bool false] 36 ∧ Blk x.w x5 [.int .i64 0, .slice none 0 0, .string t, .bool false] 36 ∧ Upd [] w x.w ∧ Blk x.w ib [.int .i64 i] 3 := fun x => hRW x.w x.ok
  have HRM := Hd.mk hRM
  have hi0 : ∀ x : Cls R, x.w.cell? ⟨ib, 0, none⟩ = some (.int .i64 i) := fun x => (hRM x).2.2.2.cell 0
  have hd2 : ∀ x : Cls R, x.w.cell? ⟨x5, 2, none⟩ = some (.string t) := fun x => (hRM x).2.1.cell 2
  have HD := Hd.mk (show ∀ x : Cls R, Calls Tryd.prog 10 #[.int .i64 i] x.w fun e w'' => e = .returned (.string it) ∧ ∃ y : Cls R, w'' = y.w from fun x => Calls.cls (digits_ok i (by omega) (by omega) x.w) (fun e w' h => ⟨h.1.trans (by rw [hit]), by rw [hR]; exact ⟨h.2.blk (hRM x).1 (by simp), h.2.blk (hRM x).2.1 (by simp), (hRM x).2.2.1.trans h.2 (by simp), h.2.blk (hRM x).2.2.2 (by simp)⟩⟩))
  have HIT := Hd.mk hit
  clear hit hRM hR hRW
  refine wp_cls_tail R 8 hR0 (by kernel_rfl) (by kernel_rfl) (fun _ => ?_)
  simp only [List.take_succ_cons, List.take_zero, List.drop_succ_cons, List.drop_zero]
  repeat (go_big_quiet_step ((go_at_call 10; rename_i x; with_reducible exact HD.out x)))
  refine wpQuiet_nil ?_
  intro _ hw'
  obtain ⟨nq, hw''⟩ := hw'
  subst hw''
  have HE := Hd.mk (HRM.out nq)
  have f2 := HE.out.2.1.free 2
  clear hR0 hi0 hd2 HD HRM HB
  generalize nq.w = w4 at HE f2 ⊢
  have g2 := HE.out.2.1.cell 2
  simp only [List.getElem?_cons_zero, List.getElem?_cons_succ] at g2
  have HX2 := Hd.mk (show x2 ≠ x5 by have := HN.out; omega)
  go_upto_region 3 with (fail)
  refine wp_abs (fun W => Blk W x2 [.int .i64 0, .slice none 0 0, .string ⟨#[]⟩, .bool false] 36 ∧ Blk W x5 [.int .i64 0, .slice none 0 0, .string (it ++ ⟨#[40]⟩ ++ t ++ ⟨#[41]⟩), .bool false] 36 ∧ Upd [] w W) ⟨HE.out.1.set_ne _ _ HX2.out, HE.out.2.1.set 2 _, HE.out.2.2.1.set _ _ (by have := HN.out; have := HX.out.2; simp; omega)⟩ ?_
  clear HE f2 g2
  rw [← HIT.out]
  rintro w5 ⟨b2, b5, u5⟩
  have HE := Hd.mk (And.intro b2 u5)
  have c0 := b2.cell 0
  have c1 := b2.cell 1
  have c2 := b2.cell 2
  have c3 := b2.cell 3
  simp only [List.getElem?_cons_zero, List.getElem?_cons_succ] at c0 c1 c2 c3
  have d0 := b5.cell 0
  have d1 := b5.cell 1
  have d2 := b5.cell 2
  have d3 := b5.cell 3
  simp only [List.getElem?_cons_zero, List.getElem?_cons_succ] at d0 d1 d2 d3
  have f0 := b2.free 0
  have f1 := b2.free 1
  have f2 := b2.free 2
  have f3 := b2.free 3
  clear b2 b5 u5
  go_wp2_with fail
  exact bodyPost_ret (results_cell _ _ _ 4 36 x2 (Pc 0 none 0 0 (itoaB i ++ ⟨#[40]⟩ ++ t ++ ⟨#[41]⟩) false) 36 rfl rfl (HE.out.1.set4 rfl _ _ _ _) (by kernel_rfl) (by kernel_rfl)) rfl ⟨rfl, HE.out.2.set4 (by have := HX.out.2; omega) _ _ _ _⟩
end Go.Proofs.YtghjdjbjdjbkkaaDoor
