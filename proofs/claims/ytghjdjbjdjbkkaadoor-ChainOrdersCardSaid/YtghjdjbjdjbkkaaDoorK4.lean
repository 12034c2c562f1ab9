/- Chain: All; the laws' fit. -/
import Derived.Test.YtghjdjbjdjbkkaaDoorK3
import Derived.LoopN
import Derived.Shelf.Abstract

namespace Go.Proofs.YtghjdjbjdjbkkaaDoor
set_option linter.unusedSimpArgs false
set_option linter.unusedVariables false
set_option linter.unnecessarySimpa false
open Go.RowKit BigFrame

theorem all_none (f : Fn) (a b : Array Value) (p : Option Addr) (cap : Nat) (w : World) : Calls Tryd.prog 11 #[.func f a b, .slice p 0 cap] w fun e w' => e = .returned (.func f a b) ∧ w' = w := by
  go_enter Tryd.func11, Tryd.ntmps11
  go_upto_region 2 with (fail)
  refine wp_loop_rounds 1 ?_
  rw [rounds_succ]
  go_wp2_with fail
  go_ret
  exact ⟨rfl, rfl⟩
/-- What All makes of the six links. -/
structure Std (w w' : World) (n : Nat) (f : Value) : Prop where
  c5 : w'.cell? ⟨n + 5, 0, none⟩ = some (.func (.func 29) #[] #[.pointer (some ⟨n + 4, 0, none⟩)])
  c4 : w'.cell? ⟨n + 4, 0, none⟩ = some (.func (.func 32) #[] #[.pointer (some ⟨n + 3, 0, none⟩)])
  sz : n + 5 < w'.heap.size
  upd : Upd [] w w'
set_option maxRecDepth 100000 in
theorem all_std (f : Fn) (a b : Array Value) (sb cap : Nat) (w : World) (n : Nat) (hn : w.heap.size = n) (h : Blk w sb [.func (.func 15) #[] #[], .func (.func 17) #[] #[], .func (.func 23) #[] #[], .func (.func 24) #[] #[], .func (.func 25) #[] #[], .func (.func 26) #[] #[]] 51) :
    Calls Tryd.prog 11 #[.func f a b, .slice (some ⟨sb, 0, none⟩) 6 cap] w fun e w' => e = .returned (.func (.func 27) #[] #[.pointer (some ⟨n + 5, 0, none⟩)]) ∧ Std w w' n (.func f a b) := by
  subst hn
  have HB := Hd.mk h
  clear h
  go_enter Tryd.func11, Tryd.ntmps11
  go_upto_region 2 with (fail)
  refine wp_loop_rounds 7 ?_
  have b0 := HB.out
  have c0 := b0.cell 0
  have c1 := b0.cell 1
  have c2 := b0.cell 2
  have c3 := b0.cell 3
  have c4 := b0.cell 4
  have c5 := b0.cell 5
  simp only [List.getElem?_cons_zero, List.getElem?_cons_succ] at c0 c1 c2 c3 c4 c5
  rw [rounds_succ]
  go_wp2_with fail
  refine (link_routed _ _ _ _).mono ?_
  rintro e w1 ⟨rfl, rfl⟩
  go_wp2_with fail
  clear c0 c1 c2 c3 c4 c5
  have b1 := b0.alloc (.cells #[.func f a b] 25)
  have d0 := b1.cell 0
  have d1 := b1.cell 1
  have d2 := b1.cell 2
  have d3 := b1.cell 3
  have d4 := b1.cell 4
  have d5 := b1.cell 5
  simp only [List.getElem?_cons_zero, List.getElem?_cons_succ] at d0 d1 d2 d3 d4 d5
  rw [rounds_succ]
  go_wp2_with fail
  refine (link_guard _ _ _ _).mono ?_
  rintro e w2 ⟨rfl, rfl⟩
  go_wp2_with fail
  clear d0 d1 d2 d3 d4 d5
  have b2 := b1.alloc (.cells #[.func (.func 36) #[] #[.pointer (some ⟨w.heap.size, 0, none⟩)]] 25)
  have e0 := b2.cell 0
  have e1 := b2.cell 1
  have e2 := b2.cell 2
  have e3 := b2.cell 3
  have e4 := b2.cell 4
  have e5 := b2.cell 5
  simp only [List.getElem?_cons_zero, List.getElem?_cons_succ] at e0 e1 e2 e3 e4 e5
  rw [rounds_succ]
  go_wp2_with fail
  refine (link_small _ _ _ _).mono ?_
  rintro e w3 ⟨rfl, rfl⟩
  go_wp2_with fail
  clear e0 e1 e2 e3 e4 e5
  have b3 := b2.alloc (.cells #[.func (.func 34) #[] #[.pointer (some ⟨w.heap.size + 1, 0, none⟩)]] 25)
  have f0 := b3.cell 0
  have f1 := b3.cell 1
  have f2 := b3.cell 2
  have f3 := b3.cell 3
  have f4 := b3.cell 4
  have f5 := b3.cell 5
  simp only [List.getElem?_cons_zero, List.getElem?_cons_succ] at f0 f1 f2 f3 f4 f5
  rw [rounds_succ]
  go_wp2_with fail
  refine (link_known _ _ _ _).mono ?_
  rintro e w4 ⟨rfl, rfl⟩
  go_wp2_with fail
  clear f0 f1 f2 f3 f4 f5
  have b4 := b3.alloc (.cells #[.func (.func 33) #[] #[.pointer (some ⟨w.heap.size + 1 + 1, 0, none⟩)]] 25)
  have g0 := b4.cell 0
  have g1 := b4.cell 1
  have g2 := b4.cell 2
  have g3 := b4.cell 3
  have g4 := b4.cell 4
  have g5 := b4.cell 5
  simp only [List.getElem?_cons_zero, List.getElem?_cons_succ] at g0 g1 g2 g3 g4 g5
  rw [rounds_succ]
  go_wp2_with fail
  refine (link_safe _ _ _ _).mono ?_
  rintro e w5 ⟨rfl, rfl⟩
  go_wp2_with fail
  clear g0 g1 g2 g3 g4 g5
  have b5 := b4.alloc (.cells #[.func (.func 32) #[] #[.pointer (some ⟨w.heap.size + 1 + 1 + 1, 0, none⟩)]] 25)
  have h0 := b5.cell 0
  have h1 := b5.cell 1
  have h2 := b5.cell 2
  have h3 := b5.cell 3
  have h4 := b5.cell 4
  have h5 := b5.cell 5
  simp only [List.getElem?_cons_zero, List.getElem?_cons_succ] at h0 h1 h2 h3 h4 h5
  rw [rounds_succ]
  go_wp2_with fail
  refine (link_mark _ _ _ _).mono ?_
  rintro e w6 ⟨rfl, rfl⟩
  go_wp2_with fail
  clear h0 h1 h2 h3 h4 h5
  have b6 := b5.alloc (.cells #[.func (.func 29) #[] #[.pointer (some ⟨w.heap.size + 1 + 1 + 1 + 1, 0, none⟩)]] 25)
  rw [rounds_succ]
  go_wp2_with fail
  go_ret
  refine ⟨rfl, ?_, ?_, by simp, ?_⟩
  · exact (Blk.new _ [.func (.func 29) #[] #[.pointer (some ⟨w.heap.size + 4, 0, none⟩)]] 25 (w.heap.size + 5) (by simp)).cell 0
  · exact ((Blk.new _ [.func (.func 32) #[] #[.pointer (some ⟨w.heap.size + 3, 0, none⟩)]] 25 (w.heap.size + 4) (by simp)).alloc _).cell 0
  · exact (((((((Upd.refl [] w).alloc _).alloc _).alloc _).alloc _).alloc _).alloc _)
def linksL : List Value := [.func (.func 15) #[] #[], .func (.func 17) #[] #[], .func (.func 23) #[] #[], .func (.func 24) #[] #[], .func (.func 25) #[] #[], .func (.func 26) #[] #[]]
theorem std_ok (w : World) : Calls Tryd.prog 13 #[] w fun e w' => e = .returned (.slice (some ⟨w.heap.size, 0, none⟩) 6 6) ∧ w' = w.alloc (.cells linksL.toArray 51) := by
  go_enter Tryd.func13, Tryd.ntmps13
  go_wp2_with fail
  go_ret
  exact ⟨rfl, rfl⟩
theorem head_nil (k : ByteArray) (w : World) : Calls Tryd.prog 22 #[.slice none 0 0, .string k] w fun e w' => e = .returned (.slice none 0 0) ∧ w' = w := by
  go_enter Tryd.func22, Tryd.ntmps22
  go_upto_region 3 with (fail)
  refine wp_loop_rounds 1 ?_
  rw [rounds_succ]
  go_wp2_with fail
  go_ret
  exact ⟨rfl, rfl⟩
theorem enters (g : Nat) (fn : Func) (c : Code) (hf : Tryd.prog.funcs[g]? = some fn) (hn : (fn.name == "runtime.NumGoroutine") = false) (hb : fn.body = some c) : ∀ (args : Array Value) (W : World), (callFunc g args).run Tryd.prog W = .ok (.enter g args) W := enters_of hf hn hb
def cHead : Cc := ⟨⟨#[72, 69, 65, 68]⟩, ⟨#[]⟩, .slice none 0 0, ⟨#[]⟩, false, 3, 4, 5, ⟨#[]⟩, .slice none 0 0, .slice none 0 0, false, ⟨#[]⟩⟩
theorem dec1 (n : Nat) (h : n < 10) : Lib.decDigits n = [UInt8.ofNat (48 + n)] := by
  rw [Lib.decDigits, dif_pos h]
theorem id34 : (idB 3 4).data.toList = [51, 45, 52] := by
  unfold idB itoaB
  rw [show (3 : Int) = ((3 : Nat) : Int) from rfl, show (4 : Int) = ((4 : Nat) : Int) from rfl, Lib.itoa_nonneg, Lib.itoa_nonneg, dec1 3 (by omega), dec1 4 (by omega)]
  rfl
theorem it5 : (itoaB 5).data.toList = [53] := by
  unfold itoaB
  rw [show (5 : Int) = ((5 : Nat) : Int) from rfl, Lib.itoa_nonneg, dec1 5 (by omega)]
  rfl
theorem func_nil (f : Fn) (a b : Array Value) (w : World) : (binOp .eql 25 (.func f a b) .nilFunc).run Tryd.prog w = .ok (.bool false) w := by kernel_rfl
set_option maxRecDepth 100000 in
set_option maxHeartbeats 2000000 in
theorem fit_ok (w : World) (hT : Tab w) : Calls Tryd.prog 7 #[] w fun e w' => e = .returned (.bool true) ∧ Upd [] w w' := by
  have HT := Hd.mk hT
  clear hT
  go_enter Tryd.func7, Tryd.ntmps7
  go_wp2_with fail
  refine (std_ok w).mono ?_
  rintro e w1 ⟨rfl, hw1⟩
  have b1 := Blk.new w linksL 51 _ rfl
  have HU1 := Hd.mk (show Upd [] w w1 by rw [hw1]; exact (Upd.refl [] w).alloc _)
  rw [← hw1] at b1
  have HB1 := Hd.mk b1
  clear b1 hw1
  go_wp2_with fail
  obtain ⟨n, hn⟩ : ∃ n, w1.heap.size = n := ⟨_, rfl⟩
  refine (all_std (.func 21) #[] #[] w.heap.size 6 w1 n hn HB1.out).mono ?_
  rintro e w2 ⟨rfl, S2⟩
  have HS := Hd.mk S2
  clear S2 hn
  have hfn := func_nil
  go_wp2_with fail
  have hmk := mark_ok cHead 29 (n + 5) (n + 4) 501 [] w501 false w2 (HT.out.upd (HU1.out.trans HS.out.upd (by simp))) (by simp) ⟨by decide, by decide⟩ ⟨by decide, by decide⟩ ⟨by decide, by decide⟩ HS.out.c5 (by have := HS.out.sz; omega) (enters _ _ _ Tryd.func29 (by kernel_rfl) rfl)
    (fun W hu => (safe_ret cHead 32 (n + 4) (n + 3) 501 none 0 0 w501 false W ((hu.cell (p := ⟨n + 4, 0, none⟩) (by have := HS.out.sz; show n + 4 < _; omega) (by simp)).trans HS.out.c4) (by have := hu.size; have := HS.out.sz; omega) (enters _ _ _ Tryd.func32 (by kernel_rfl) rfl)
      (fun W2 hu2 => known_no ⟨#[72, 69, 65, 68]⟩ cHead rfl (lit_no (by decide)) (lit_no (by decide)) (lit_no (by decide)) (lit_no (by decide)) (n + 3) W2 rfl rfl rfl)).mono (fun e w' h => ⟨none, 0, h.1, Rf.nil _ _, h.2⟩))
  simp only [Cc.cells, cHead] at hmk
  have HMK := Hd.mk hmk
  clear hmk
  refine HMK.out.mono ?_
  rintro e w3 ⟨a, cap, rfl, hrf, u3⟩
  have HU := Hd.mk ((HU1.out.trans HS.out.upd (by simp)).trans u3 (by simp))
  simp only [Pc, Bool.or_false, List.length_cons, List.length_nil]
  obtain ⟨b, off, rfl, hb, hc⟩ := hrf (by simp)
  have k0 := (hc 0 (by simp)).2
  have k1 := (hc 1 (by simp)).2
  simp only [List.getElem_cons_zero, List.getElem_cons_succ] at k0 k1
  rw [show off + 0 * 2 + 1 = off + 1 by omega] at k0
  rw [show off + 1 * 2 + 1 = off + 3 by omega] at k1
  have k2 := k1
  rw [show off + 3 = off + 2 + 1 by omega] at k2
  have y1 := lit_yes id34
  have y2 := lit_yes it5
  obtain ⟨t1, ht1⟩ : ∃ t, idB 3 4 = t := ⟨_, rfl⟩
  obtain ⟨t2, ht2⟩ : ∃ t, itoaB 5 = t := ⟨_, rfl⟩
  rw [ht1] at k0 y1
  rw [ht2] at k1 k2 y2
  clear hc hrf ht1 ht2 u3 HMK
  simp only [Nat.zero_add, Nat.reduceAdd]
  go_wp2_with fail
  refine (word_ok 200 _).mono ?_
  rintro e w4 ⟨rfl, u4⟩
  have HU := Hd.mk ((HU.out.alloc (.cells #[.int .i64 501, .slice (some ⟨b, off, none⟩) 2 cap, .string w501, .bool false] 36)).trans u4 (by simp))
  have y3 := lit_yes (show (⟨(wordL (200 : Int).toNat).toArray⟩ : ByteArray).data.toList = [79, 75] by decide)
  simp only [S]
  obtain ⟨t3, ht3⟩ : ∃ t : ByteArray, (⟨(wordL (200 : Int).toNat).toArray⟩ : ByteArray) = t := ⟨_, rfl⟩
  rw [ht3] at y3 ⊢
  clear ht3 u4
  go_wp2_with fail
  refine (head_nil ⟨#[97]⟩ w4).mono ?_
  rintro e w5 ⟨rfl, rfl⟩
  go_wp2_with fail
  go_ret
  exact ⟨rfl, HU.out⟩
end Go.Proofs.YtghjdjbjdjbkkaaDoor
