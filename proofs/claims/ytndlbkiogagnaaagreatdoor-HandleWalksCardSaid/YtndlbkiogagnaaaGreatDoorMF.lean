/- Handles: what a handle that needs no store answers. (With what it rests on, merged: G3, G4, G5, G6.) -/
import Derived.Test.YtndlbkiogagnaaaGreatDoorMA
import Derived.Test.YtndlbkiogagnaaaGreatDoorMC
import Derived.Test.YtndlbkiogagnaaaGreatDoorMD
import Derived.Test.YtndlbkiogagnaaaGreatDoorME
namespace Go.Proofs.YtndlbkiogagnaaaGreatDoor
set_option linter.unusedSimpArgs false
set_option linter.unusedVariables false
set_option linter.unnecessarySimpa false
open Go.RowKit BigFrame

theorem Sto.beside {w0 w w' : World} {p : Nat} {r : Nat → Nat} {o : Nat → Int} {m : St} {n : Nat → Nat} (h : Sto w0 w p r o m n) {S : List Nat} (hu : Upd S w w') (hS : ∀ k, k ∈ S → k ∉ foot p r ∧ w0.heap.size ≤ k) : Sto w0 w' p r o m n := by
  have hf : ∀ i, i < 4 → r i ∈ foot p r := by
    intro i hi
    unfold foot
    rcases (by omega : i = 0 ∨ i = 1 ∨ i = 2 ∨ i = 3) with e | e | e | e <;> subst e <;> simp
  exact ⟨hu.blk h.blk (fun e => (hS _ e).1 (by simp [foot])), fun i hi => (h.map i hi).upd hu (fun e => (hS _ e).1 (hf i hi)), h.ne, h.new, h.upd.trans hu (fun k hk e => by have := (hS k e).2; omega)⟩
/-- A block of cells that is not the store's own is none of the store's. -/
theorem Sto.notFoot {w0 w : World} {p : Nat} {r : Nat → Nat} {o : Nat → Int} {m : St} {n : Nat → Nat} (h : Sto w0 w p r o m n) {k : Nat} {cs : List Value} {t : TypeId} (hb : Blk w k cs t) (ht : t ≠ 114) : k ∉ foot p r := by
  intro hk
  have hm : ∀ i, i < 4 → k ≠ r i := by
    intro i hi e
    obtain ⟨L, hL, -⟩ := h.map i hi
    exact hL.other t cs (e ▸ hb)
  unfold foot at hk
  simp only [List.mem_cons, List.not_mem_nil, or_false] at hk
  rcases hk with rfl | e | e | e | e
  · exact ht (hb.uniq h.blk).2
  · exact hm 0 (by omega) e
  · exact hm 1 (by omega) e
  · exact hm 2 (by omega) e
  · exact hm 3 (by omega) e
/-- What requests act on. -/
structure Ws where
  wb : Nat
  p : Nat
  hb : Nat
  r : Nat → Nat
  o : Nat → Int
  m : St
  n : Nat → Nat
  tv : Value
  rv : Value
  ver : Nat
  L : List Rt
  tok : ByteArray
  stop : Bool
structure Hw (w0 w : World) (s : Ws) : Prop where
  blk : Blk w s.wb [.pointer (some ⟨s.p, 0, none⟩), .pointer (some ⟨s.hb, 0, none⟩), .string s.tok, .bool s.stop] 52
  sto : Sto w0 w s.p s.r s.o s.m s.n
  hol : Hol w s.hb s.tv s.rv s.ver s.L
  wge : w0.heap.size ≤ s.wb
  hge : w0.heap.size ≤ s.hb
def Ws.foot (s : Ws) : List Nat := s.wb :: s.hb :: Go.Proofs.YtndlbkiogagnaaaGreatDoor.foot s.p s.r
theorem Hw.upd0 {w0 w : World} {s : Ws} (h : Hw w0 w s) : Upd [] w0 w := h.sto.upd
/-- It stays where blocks of answers, or new ones, are written. -/
theorem Hw.move {w0 w w' : World} {s : Ws} (h : Hw w0 w s) {X : List Nat} (hu : Upd X w w') (hX : ∀ k ∈ X, w0.heap.size ≤ k ∧ ∃ cs, Blk w k cs 40) : Hw w0 w' s where
  blk := hu.blk h.blk (fun e => by obtain ⟨-, cs, hb⟩ := hX _ e; exact absurd (hb.uniq h.blk).2 (by decide))
  sto := h.sto.beside hu (fun k hk => by obtain ⟨h1, cs, hb⟩ := hX _ hk; exact ⟨h.sto.notFoot hb (by decide), h1⟩)
  hol := ⟨hu.blk h.hol.blk (fun e => by obtain ⟨-, cs, hb⟩ := hX _ e; exact absurd (hb.uniq h.hol.blk).2 (by decide)), h.hol.sn.upd hu (fun k hk => by obtain ⟨-, cs, hb⟩ := hX _ hk; exact hb.fgn (by decide))⟩
  wge := h.wge
  hge := h.hge
theorem Hw.up {w0 w w' : World} {s : Ws} (h : Hw w0 w s) (hu : Upd [] w w') : Hw w0 w' s := h.move hu (by simp)
theorem Hw.keeps {w0 w : World} (hw : Upd [] w0 w) (s : Ws) : Keeps w (fun W => Hw w0 W s) := fun W W' X hk hu hX => hk.move hu (fun k hk => ⟨by have := (hX k hk).1; have := hw.size; omega, (hX k hk).2⟩)
theorem Hw.lt {w0 w : World} {s : Ws} (h : Hw w0 w s) : ∀ k ∈ s.foot, k < w.heap.size := by
  intro k hk
  unfold Ws.foot Go.Proofs.YtndlbkiogagnaaaGreatDoor.foot at hk
  simp only [List.mem_cons, List.not_mem_nil, or_false] at hk
  rcases hk with rfl | rfl | rfl | rfl | rfl | rfl | rfl
  · exact h.blk.lt
  · exact h.hol.blk.lt
  · exact h.sto.blk.lt
  · exact (h.sto.map 0 (by omega)).lt
  · exact (h.sto.map 1 (by omega)).lt
  · exact (h.sto.map 2 (by omega)).lt
  · exact (h.sto.map 3 (by omega)).lt
/-- The store's part has changed. -/
theorem Hw.store {w0 w w' : World} {s : Ws} (h : Hw w0 w s) {X : List Nat} (hu : Upd X w w') (hX : ∀ k ∈ X, k ∈ Go.Proofs.YtndlbkiogagnaaaGreatDoor.foot s.p s.r) {o : Nat → Int} {m : St} {n : Nat → Nat} (hs : Sto w0 w' s.p s.r o m n) : Hw w0 w' { s with o := o, m := m, n := n } where
  blk := hu.blk h.blk (fun e => h.sto.notFoot h.blk (by decide) (hX _ e))
  sto := hs
  hol := ⟨hu.blk h.hol.blk (fun e => h.sto.notFoot h.hol.blk (by decide) (hX _ e)), h.hol.sn.upd hu (fun k hk => by
    have hf := hX k hk
    intro cs t hb
    refine ⟨?_, ?_, ?_, ?_⟩ <;> (intro e; subst e; exact h.sto.notFoot hb (by decide) hf))⟩
  wge := h.wge
  hge := h.hge
theorem foot_sub (s : Ws) : ∀ k ∈ Go.Proofs.YtndlbkiogagnaaaGreatDoor.foot s.p s.r, k ∈ s.foot := fun k hk => List.mem_cons_of_mem _ (List.mem_cons_of_mem _ hk)
theorem shd_foot (p : Nat) (r : Nat → Nat) (k : ByteArray) : r (shd k) ∈ foot p r := by
  have hi := shd_lt k
  unfold foot
  rcases (by omega : shd k = 0 ∨ shd k = 1 ∨ shd k = 2 ∨ shd k = 3) with e | e | e | e <;> rw [e] <;> simp
def parV (P : List (Bs × Bs)) : Bs := match P with | [] => [] | x :: _ => x.2
set_option maxHeartbeats 2000000 in
theorem param_ok (c : Cc) (P : List (Bs × Bs)) (w : World) (h : RdP w c.params P) : Calls Tryz.prog 46 #[.agg c.cells.toArray] w fun e w' => e = .returned (S (parV P)) ∧ Upd [] w w' := by
  obtain ⟨mm, tg, fl, bo, cs, cn, sq, vr, hd, pr, aw, fd, tk⟩ := c
  simp only at h
  obtain ⟨a, cap, rfl, hc⟩ := h
  have D1 := Blk.new w (Cc.cells ⟨mm, tg, fl, bo, cs, cn, sq, vr, hd, .slice a P.length cap, aw, fd, tk⟩) 35 _ rfl
  have HU := Hd.mk ((Upd.refl [] w).alloc (.cells (Cc.cells ⟨mm, tg, fl, bo, cs, cn, sq, vr, hd, .slice a P.length cap, aw, fd, tk⟩).toArray 35))
  simp only [Cc.cells] at *
  have c0 := D1.cell 0
  have c1 := D1.cell 1
  have c2 := D1.cell 2
  have c3 := D1.cell 3
  have c4 := D1.cell 4
  have c5 := D1.cell 5
  have c6 := D1.cell 6
  have c7 := D1.cell 7
  have c8 := D1.cell 8
  have c9 := D1.cell 9
  have c10 := D1.cell 10
  have c11 := D1.cell 11
  have c12 := D1.cell 12
  simp only [List.getElem?_cons_zero, List.getElem?_cons_succ] at c0 c1 c2 c3 c4 c5 c6 c7 c8 c9 c10 c11 c12
  clear D1
  cases P with
  | nil =>
    clear hc
    go_enter Tryz.func46, Tryz.ntmps46
    go_wp2_with fail
    go_ret
    exact ⟨rfl, HU.out⟩
  | cons x P =>
    obtain ⟨b, o, rfl, hb, hj⟩ := hc (by simp)
    have k1 := (HU.out.cell (p := ⟨b, _, none⟩) hb (by simp)).trans (hj 0 (by simp)).2
    obtain ⟨xb, hx⟩ : ∃ t : ByteArray, S x.2 = .string t := ⟨_, rfl⟩
    have HX := Hd.mk hx
    simp only [List.getElem_cons_zero, Nat.zero_mul, Nat.add_zero, List.length_cons, hx] at k1 ⊢
    have q0 : (((P.length + 1 : Nat) : Int) == 0) = false := by rw [beq_eq_false_iff_ne]; omega
    have q1 : 0 < P.length + 1 := by omega
    clear hc hj hx
    go_enter Tryz.func46, Tryz.ntmps46
    go_wp2_with fail
    go_ret
    exact ⟨congrArg Ending.returned HX.out.symm, HU.out⟩
set_option maxHeartbeats 2000000 in
theorem hplain_ok (k : Int) (b : ByteArray) (w : World) : Calls Tryz.prog 61 #[.int .i64 k, .string b] w fun e w' => e = .returned (.agg (Pc k none 0 0 b false).toArray) ∧ Upd [] w w' := by
  go_enter Tryz.func61, Tryz.ntmps61
  go_wp2_with fail
  exact bodyPost_ret (results_cell _ _ _ 4 40 w.heap.size (Pc k none 0 0 b false) 40 rfl rfl (Blk.new w _ _ _ rfl) (by kernel_rfl) (by kernel_rfl)) rfl ⟨rfl, (Upd.refl [] w).alloc _⟩
def failN (e : Int) : Nat := if e = 5 then 404 else if e = 6 then 412 else if e = 4 then 507 else 400
def wB (k : Nat) : ByteArray := ⟨(wordL k ++ [10]).toArray⟩
theorem plain_pc (k : Nat) : (Rs.plain k false).cells none 0 = Pc k none 0 0 (wB k) false := rfl
set_option maxHeartbeats 4000000 in
theorem failed_ok (e0 : Int) (w : World) (h : e0 = 5 ∨ e0 = 6 ∨ e0 = 4 ∨ e0 = 8) : Calls Tryz.prog 60 #[.int .i64 e0] w fun e w' => e = .returned (.agg (Pc (failN e0 : Nat) none 0 0 (wB (failN e0)) false).toArray) ∧ Upd [] w w' := by
  have HP := Hd.mk (fun k W (hk : k ≤ 1000000) => plain_ok k false W hk)
  simp only [plain_pc] at HP
  have B := Blk.new w zR 40 _ rfl
  have U := (Upd.refl [] w).alloc (.cells zR.toArray 40)
  have HB := Hd.mk (And.intro B U)
  clear B U
  rcases h with rfl | rfl | rfl | rfl
  all_goals
    go_enter Tryz.func60, Tryz.ntmps60
    go_wp2_with fail
    refine (HP.out _ _ (by decide)).mono ?_
    rintro e w1 ⟨rfl, u1⟩
    have dd := u1.blk HB.out.1 (by simp)
    have HD := Hd.mk (And.intro dd (HB.out.2.trans u1 (by simp)))
    unfold zR at dd
    have d0 := dd.cell 0
    have d1 := dd.cell 1
    have d2 := dd.cell 2
    have d3 := dd.cell 3
    simp only [List.getElem?_cons_zero, List.getElem?_cons_succ] at d0 d1 d2 d3
    have f0 := dd.free 0
    have f1 := dd.free 1
    have f2 := dd.free 2
    have f3 := dd.free 3
    clear dd u1
    simp only [Pc]
    go_wp2_with fail
    exact bodyPost_ret (results_cell _ _ _ 2 40 w.heap.size (Pc _ none 0 0 (wB _) false) 40 rfl rfl (HD.out.1.set4 rfl _ _ _ _) (by kernel_rfl) (by kernel_rfl)) rfl ⟨rfl, HD.out.2.set4 (Nat.le_refl _) _ _ _ _⟩
def ifm : Bs := [105, 102, 45, 109, 97, 116, 99, 104]
def tagV (fs : List (Bs × Bs)) : Bs := (allL fs ifm).headD []
set_option maxHeartbeats 2000000 in
theorem htag_ok (c : Cc) (fs : List (Bs × Bs)) (a : Option Addr) (cap : Nat) (w : World) (hc : c.fields = .slice a fs.length cap) (h : Rf w a fs) (hn : fs.length ≤ 900000) : Calls Tryz.prog 63 #[.agg c.cells.toArray] w fun e w' => e = .returned (S (tagV fs)) ∧ Upd [] w w' := by
  obtain ⟨mm, tg, fl, bo, cs, cn, sq, vr, hd, pr, aw, fd, tk⟩ := c
  simp only at hc
  subst hc
  have D1 := Blk.new w (Cc.cells ⟨mm, tg, .slice a fs.length cap, bo, cs, cn, sq, vr, hd, pr, aw, fd, tk⟩) 35 _ rfl
  have HU := Hd.mk ((Upd.refl [] w).alloc (.cells (Cc.cells ⟨mm, tg, .slice a fs.length cap, bo, cs, cn, sq, vr, hd, pr, aw, fd, tk⟩).toArray 35))
  have HA := Hd.mk (all_ok fs a cap ifm _ (h.upd HU.out) hn)
  have HTV := Hd.mk (show tagV fs = (allL fs ifm).headD [] from rfl)
  simp only [Cc.cells] at *
  have c0 := D1.cell 0
  have c1 := D1.cell 1
  have c2 := D1.cell 2
  have c3 := D1.cell 3
  have c4 := D1.cell 4
  have c5 := D1.cell 5
  have c6 := D1.cell 6
  have c7 := D1.cell 7
  have c8 := D1.cell 8
  have c9 := D1.cell 9
  have c10 := D1.cell 10
  have c11 := D1.cell 11
  have c12 := D1.cell 12
  simp only [List.getElem?_cons_zero, List.getElem?_cons_succ] at c0 c1 c2 c3 c4 c5 c6 c7 c8 c9 c10 c11 c12
  clear D1 h
  generalize allL fs ifm = AL at *
  generalize tagV fs = TV at *
  go_enter Tryz.func63, Tryz.ntmps63
  go_wp2_with fail
  refine HA.out.mono ?_
  rintro e w1 ⟨v, rfl, hb⟩
  have HU := Hd.mk (HU.out.trans hb.upd (by simp))
  cases AL with
  | nil =>
    obtain ⟨va, vc, rfl⟩ := hb.sl.form
    clear hb
    go_wp2_with fail
    go_ret
    exact ⟨by rw [HTV.out]; rfl, HU.out⟩
  | cons x AL =>
    obtain ⟨g, o, cp, rfl, -, -, hcc⟩ := hb.sl.some (by simp)
    have k0 := hcc 0 (by simp)
    obtain ⟨xb, hx⟩ : ∃ t : ByteArray, S x = .string t := ⟨_, rfl⟩
    have HX := Hd.mk hx
    simp only [List.map_cons, List.getElem?_cons_zero, Nat.add_zero, hx, List.length_cons] at k0 ⊢
    have q0 : (((AL.length + 1 : Nat) : Int) == 0) = false := by rw [beq_eq_false_iff_ne]; omega
    have q1 : 0 < AL.length + 1 := by omega
    clear hcc hb hx
    go_wp2_with fail
    go_ret
    exact ⟨by rw [HTV.out]; exact congrArg Ending.returned HX.out.symm, HU.out⟩
end Go.Proofs.YtndlbkiogagnaaaGreatDoor

namespace Go.Proofs.YtndlbkiogagnaaaGreatDoor
set_option linter.unusedSimpArgs false
set_option linter.unusedVariables false
set_option linter.unnecessarySimpa false
open Go.RowKit BigFrame

def getC (s : Ws) (ow : Int) (k : ByteArray) : Int := if mineE s.o ow k = 0 then getE (s.m k) else mineE s.o ow k
def getV (s : Ws) (ow : Int) (k : ByteArray) : ByteArray := if mineE s.o ow k = 0 then (s.m k).getD ⟨#[]⟩ else ⟨#[]⟩
def putC (s : Ws) (ow : Int) (k t : ByteArray) : Int := if mineE s.o ow k = 0 then putE (s.m k) t (s.n (shd k)) else mineE s.o ow k
def delC (s : Ws) (ow : Int) (k t : ByteArray) : Int := if mineE s.o ow k = 0 then delE (s.m k) t else mineE s.o ow k
/-- The state behind a put that tells c. -/
def putS (s : Ws) (k v : ByteArray) (c : Int) : Ws := if c = 0 then { s with m := setM s.m k (some v), n := setN s.n (shd k) (if (s.m k).isSome then s.n (shd k) else s.n (shd k) + 1) } else s
def delS (s : Ws) (k : ByteArray) (c : Int) : Ws := if c = 0 then { s with m := setM s.m k none, n := setN s.n (shd k) (s.n (shd k) - 1) } else s
def Vals (s : Ws) : Prop := ∀ k y, s.m k = some y → y.size ≤ 1000000
theorem store_get {w0 W : World} {s : Ws} (h : Hw w0 W s) (ow : Int) (k : ByteArray) (hk : k.size ≤ 140737488351232) :
    Calls Tryz.prog 59 #[.pointer (some ⟨s.p, 0, none⟩), .int .i64 ow, .string k] W fun e w' => e = .returned (.tuple #[.string (getV s ow k), .int .i64 (getC s ow k)]) ∧ Upd [] W w' := by
  unfold getV getC
  by_cases h0 : mineE s.o ow k = 0
  · rw [if_pos h0, if_pos h0]
    exact get_good h.sto ow k hk h0 rfl
  · rw [if_neg h0, if_neg h0]
    exact get_bad h.sto ow k hk rfl h0
theorem store_put {w0 W : World} {s : Ws} (h : Hw w0 W s) (hT : Tb w0) (ow : Int) (k v t : ByteArray) (hk : k.size ≤ 140737488351232) (hv : Vals s) :
    Calls Tryz.prog 62 #[.pointer (some ⟨s.p, 0, none⟩), .int .i64 ow, .string k, .string v, .string t] W fun e w' => e = .returned (.tuple #[.bool (decide (putC s ow k t = 0) && (s.m k).isSome), .int .i64 (putC s ow k t)]) ∧ Hw w0 w' (putS s k v (putC s ow k t)) ∧ Upd [s.r (shd k)] W w' := by
  have hf : ∀ j ∈ [s.r (shd k)], j ∈ foot s.p s.r := fun j hj => by rw [List.mem_singleton] at hj; subst hj; exact shd_foot _ _ _
  by_cases h0 : mineE s.o ow k = 0
  · have hc : putC s ow k t = putE (s.m k) t (s.n (shd k)) := by unfold putC; rw [if_pos h0]
    by_cases h1 : putC s ow k t = 0
    · refine (put_yes h.sto hT ow k v t hk h0 rfl (fun y hy => hv k y hy) (by rw [← hc]; exact h1)).mono ?_
      rintro e w' ⟨rfl, hu, hs⟩
      rw [h1]
      refine ⟨by simp, ?_, hu⟩
      have := h.store hu hf hs
      unfold putS
      rw [if_pos rfl]
      exact this
    · refine (put_no h.sto hT ow k v t hk h0 rfl (fun y hy => hv k y hy) hc.symm h1).mono ?_
      rintro e w' ⟨rfl, hu⟩
      rw [decide_eq_false h1]
      refine ⟨by simp, ?_, hu.mono (by simp)⟩
      unfold putS
      rw [if_neg h1]
      exact h.up hu
  · have hc : putC s ow k t = mineE s.o ow k := by unfold putC; rw [if_neg h0]
    have h1 : putC s ow k t ≠ 0 := by rw [hc]; exact h0
    refine (put_bad h.sto ow k v t hk hc.symm h1).mono ?_
    rintro e w' ⟨rfl, hu⟩
    rw [decide_eq_false h1]
    refine ⟨by simp, ?_, hu.mono (by simp)⟩
    unfold putS
    rw [if_neg h1]
    exact h.up hu
theorem store_del {w0 W : World} {s : Ws} (h : Hw w0 W s) (hT : Tb w0) (ow : Int) (k t : ByteArray) (hk : k.size ≤ 140737488351232) (hv : Vals s) :
    Calls Tryz.prog 64 #[.pointer (some ⟨s.p, 0, none⟩), .int .i64 ow, .string k, .string t] W fun e w' => e = .returned (.int .i64 (delC s ow k t)) ∧ Hw w0 w' (delS s k (delC s ow k t)) ∧ Upd [s.r (shd k)] W w' := by
  have hf : ∀ j ∈ [s.r (shd k)], j ∈ foot s.p s.r := fun j hj => by rw [List.mem_singleton] at hj; subst hj; exact shd_foot _ _ _
  by_cases h0 : mineE s.o ow k = 0
  · have hc : delC s ow k t = delE (s.m k) t := by unfold delC; rw [if_pos h0]
    by_cases h1 : delC s ow k t = 0
    · refine (del_yes h.sto hT ow k t hk h0 rfl (fun y hy => hv k y hy) (by rw [← hc]; exact h1)).mono ?_
      rintro e w' ⟨rfl, hu, hs⟩
      rw [h1]
      refine ⟨rfl, ?_, hu⟩
      have := h.store hu hf hs
      unfold delS
      rw [if_pos rfl]
      exact this
    · refine (del_no h.sto hT ow k t hk h0 rfl (fun y hy => hv k y hy) hc.symm h1).mono ?_
      rintro e w' ⟨rfl, hu⟩
      refine ⟨rfl, ?_, hu.mono (by simp)⟩
      unfold delS
      rw [if_neg h1]
      exact h.up hu
  · have hc : delC s ow k t = mineE s.o ow k := by unfold delC; rw [if_neg h0]
    have h1 : delC s ow k t ≠ 0 := by rw [hc]; exact h0
    refine (del_bad h.sto ow k t hk hc.symm h1).mono ?_
    rintro e w' ⟨rfl, hu⟩
    refine ⟨rfl, ?_, hu.mono (by simp)⟩
    unfold delS
    rw [if_neg h1]
    exact h.up hu
theorem putS_foot (s : Ws) (k v : ByteArray) (c : Int) : (putS s k v c).foot = s.foot := by unfold putS; split <;> rfl
theorem delS_foot (s : Ws) (k : ByteArray) (c : Int) : (delS s k c).foot = s.foot := by unfold delS; split <;> rfl
/-- Worlds within an answer: the call's box, the answer's, the state. -/
structure AnsW (w0 w : World) (s : Ws) (x1 x2 : Nat) (c : Cc) (W : World) : Prop where
  c : Blk W x1 c.cells 35
  r : Blk W x2 zR 40
  h : Hw w0 W s
  u : Upd [] w W
  base : w0.heap.size ≤ w.heap.size
theorem AnsW.up {w0 w W W' : World} {s : Ws} {x1 x2 : Nat} {c : Cc} (h : AnsW w0 w s x1 x2 c W) (hu : Upd [] W W') : AnsW w0 w s x1 x2 c W' := ⟨hu.blk h.c (by simp), hu.blk h.r (by simp), h.h.up hu, h.u.trans hu (by simp), h.base⟩
/-- A cell of an answer's own box is written. -/
theorem AnsW.setR {w0 w W : World} {s : Ws} {x1 x2 y : Nat} {c : Cc} {cs : List Value} (h : AnsW w0 w s x1 x2 c W) (hb : Blk W y cs 40) (hy : w.heap.size ≤ y) (hne : y ≠ x2) (i : Nat) (v : Value) : AnsW w0 w s x1 x2 c (W.setCell ⟨y, i, none⟩ v) := by
  have hu : Upd [y] W (W.setCell ⟨y, i, none⟩ v) := (Upd.refl [y] W).set _ _ (by simp)
  refine ⟨h.c.set_ne _ _ (fun e => by subst e; exact absurd (h.c.uniq hb).2 (by decide)), h.r.set_ne _ _ (fun e => hne e.symm), h.h.move hu (fun k hk => by rw [List.mem_singleton] at hk; subst hk; exact ⟨by have := h.h.upd0; have h2 := h.h.wge; have := h.u.size; exact Nat.le_trans (by have := h.base; omega) hy, cs, hb⟩), h.u.set _ _ (by simp; omega), h.base⟩
theorem AnsW.start (c : Cc) {w0 w : World} {s : Ws} (h : Hw w0 w s) : AnsW w0 w s w.heap.size (w.heap.size + 1) c ((w.alloc (.cells c.cells.toArray 35)).alloc (.cells #[.int .i64 0, .slice none 0 0, .string ⟨#[]⟩, .bool false] 40)) :=
  ⟨(two_boxes c w).1, (two_boxes c w).2.1, h.up (two_boxes c w).2.2, (two_boxes c w).2.2, h.upd0.size⟩
/-- The answer is laid into its cell. -/
theorem ans_end {w0 w w1 : World} {s s' : Ws} {x2 : Nat} {z : Int} {sa : Option Addr} {sn sc : Nat} {sx : ByteArray} {q : Bool} (h0 : Upd [] w0 w) (hk : Hw w0 w1 s') (hb : Blk w1 x2 [.int .i64 z, .slice sa sn sc, .string sx, .bool q] 40) (hx : w.heap.size ≤ x2) (hu : Upd s.foot w w1) {a : Option Addr} {fs : List (ByteArray × ByteArray)} (hrf : RfB w1 a fs) (k : Int) (cap : Nat) (bd : ByteArray) (cl : Bool) :
    HQ s.foot (fun W => Hw w0 W s') k fs bd cl w (.returned (.agg (Pc k a fs.length cap bd cl).toArray)) ((((w1.setCell ⟨x2, 0, none⟩ (.int .i64 k)).setCell ⟨x2, 1, none⟩ (.slice a fs.length cap)).setCell ⟨x2, 2, none⟩ (.string bd)).setCell ⟨x2, 3, none⟩ (.bool cl)) :=
  ⟨a, cap, rfl, pass_end (Hw.keeps h0 s') hk hrf hb hx hu _ _ _ _⟩
def etagB : ByteArray := ⟨#[101, 116, 97, 103]⟩
def getB : ByteArray := ⟨#[103, 101, 116]⟩
def GetQ (F : List Nat) (K : World → Prop) (gc : Int) (gv : ByteArray) (w : World) (e : Ending) (w' : World) : Prop := (gc = 0 ∧ HQ F K 200 [(etagB, tagS gv)] gv false w e w') ∨ (gc ≠ 0 ∧ HQ F K (failN gc : Nat) [] (wB (failN gc)) false w e w')
set_option maxRecDepth 100000 in
set_option maxHeartbeats 8000000 in
theorem ans_get (c : Cc) (P : List (Bs × Bs)) (kb : ByteArray) (ow : Int) (w0 w : World) (s : Ws) (h : Hw w0 w s) (hT : Tb w0) (hh : c.handler = getB) (hp : RdP w c.params P) (hkb : S (parV P) = .string kb) (hk : kb.size ≤ 140737488351232) (hv : Vals s) (hc : getC s ow kb = 0 ∨ getC s ow kb = 5 ∨ getC s ow kb = 8) :
    Calls Tryz.prog 38 #[.pointer (some ⟨s.wb, 0, none⟩), .agg c.cells.toArray, .int .i64 ow] w (GetQ s.foot (fun W => Hw w0 W s) (getC s ow kb) (getV s ow kb) w) := by
  have HH := Hd.mk h
  have HS := Hd.mk (AnsW.start c h)
  have HPAR := Hd.mk (fun W (hu : Upd [] w W) => param_ok c P W (hp.upd hu))
  have HGET := Hd.mk (fun W (hW : Hw w0 W s) => store_get hW ow kb hk)
  have HVZ := Hd.mk (show (getV s ow kb).size ≤ 1000000 by
    unfold getV
    split
    · cases hq : s.m kb with
      | none => decide
      | some y => exact hv kb y hq
    · decide)
  have HTT := Hd.mk hT
  generalize getC s ow kb = gc at *
  generalize getV s ow kb = gv at *
  rw [hkb] at HPAR
  clear h hp hkb hv hT
  obtain ⟨mm, tg, fl, bo, cs, cn, sq, vr, hd, pr, aw, fd, tk⟩ := c
  simp only at hh
  subst hh
  simp only [Cc.cells] at *
  have D1 := HS.out.c
  simp only [Cc.cells] at D1
  have c0 := D1.cell 0
  have c1 := D1.cell 1
  have c2 := D1.cell 2
  have c3 := D1.cell 3
  have c4 := D1.cell 4
  have c5 := D1.cell 5
  have c6 := D1.cell 6
  have c7 := D1.cell 7
  have c8 := D1.cell 8
  have c9 := D1.cell 9
  have c10 := D1.cell 10
  have c11 := D1.cell 11
  have c12 := D1.cell 12
  simp only [List.getElem?_cons_zero, List.getElem?_cons_succ] at c0 c1 c2 c3 c4 c5 c6 c7 c8 c9 c10 c11 c12
  clear D1
  unfold getB at *
  go_enter Tryz.func38, Tryz.ntmps38
  go_upto_region 3 with (fail)
  clear c0 c1 c2 c3 c4 c5 c6 c7 c8 c9 c10 c11 c12
  obtain ⟨cc, hcc⟩ : ∃ cc : Cc, cc = ⟨mm, tg, fl, bo, cs, cn, sq, vr, ⟨#[103, 101, 116]⟩, pr, aw, fd, tk⟩ := ⟨_, rfl⟩
  have HCC := Hd.mk (show cc.cells = [.string mm, .string tg, fl, .string bo, .bool cs, .int .i64 cn, .int .i64 sq, .int .i64 vr, .string ⟨#[103, 101, 116]⟩, pr, aw, .bool fd, .string tk] by rw [hcc]; rfl)
  refine wp_abs (AnsW w0 w s w.heap.size (w.heap.size + 1) cc) (by rw [hcc]; exact HS.out) ?_
  obtain ⟨x2, hx2⟩ : ∃ x, w.heap.size + 1 = x := ⟨_, rfl⟩
  obtain ⟨x1, hx1⟩ : ∃ x, w.heap.size = x := ⟨_, rfl⟩
  rw [hx2, hx1]
  have HX := Hd.mk (And.intro hx1 hx2)
  clear hx1 hx2 hcc HS
  intro w2 hw2
  have HS := Hd.mk hw2
  clear hw2
  have c0 : ∀ x : Cls (AnsW w0 w s x1 x2 cc), x.w.cell? ⟨x1, 0, none⟩ = some (.string mm) := fun x => (x.ok.c.cell 0).trans (by rw [HCC.out]; rfl)
  have c1 : ∀ x : Cls (AnsW w0 w s x1 x2 cc), x.w.cell? ⟨x1, 1, none⟩ = some (.string tg) := fun x => (x.ok.c.cell 1).trans (by rw [HCC.out]; rfl)
  have c2 : ∀ x : Cls (AnsW w0 w s x1 x2 cc), x.w.cell? ⟨x1, 2, none⟩ = some (fl) := fun x => (x.ok.c.cell 2).trans (by rw [HCC.out]; rfl)
  have c3 : ∀ x : Cls (AnsW w0 w s x1 x2 cc), x.w.cell? ⟨x1, 3, none⟩ = some (.string bo) := fun x => (x.ok.c.cell 3).trans (by rw [HCC.out]; rfl)
  have c4 : ∀ x : Cls (AnsW w0 w s x1 x2 cc), x.w.cell? ⟨x1, 4, none⟩ = some (.bool cs) := fun x => (x.ok.c.cell 4).trans (by rw [HCC.out]; rfl)
  have c5 : ∀ x : Cls (AnsW w0 w s x1 x2 cc), x.w.cell? ⟨x1, 5, none⟩ = some (.int .i64 cn) := fun x => (x.ok.c.cell 5).trans (by rw [HCC.out]; rfl)
  have c6 : ∀ x : Cls (AnsW w0 w s x1 x2 cc), x.w.cell? ⟨x1, 6, none⟩ = some (.int .i64 sq) := fun x => (x.ok.c.cell 6).trans (by rw [HCC.out]; rfl)
  have c7 : ∀ x : Cls (AnsW w0 w s x1 x2 cc), x.w.cell? ⟨x1, 7, none⟩ = some (.int .i64 vr) := fun x => (x.ok.c.cell 7).trans (by rw [HCC.out]; rfl)
  have c8 : ∀ x : Cls (AnsW w0 w s x1 x2 cc), x.w.cell? ⟨x1, 8, none⟩ = some (.string ⟨#[103, 101, 116]⟩) := fun x => (x.ok.c.cell 8).trans (by rw [HCC.out]; rfl)
  have c9 : ∀ x : Cls (AnsW w0 w s x1 x2 cc), x.w.cell? ⟨x1, 9, none⟩ = some (pr) := fun x => (x.ok.c.cell 9).trans (by rw [HCC.out]; rfl)
  have c10 : ∀ x : Cls (AnsW w0 w s x1 x2 cc), x.w.cell? ⟨x1, 10, none⟩ = some (aw) := fun x => (x.ok.c.cell 10).trans (by rw [HCC.out]; rfl)
  have c11 : ∀ x : Cls (AnsW w0 w s x1 x2 cc), x.w.cell? ⟨x1, 11, none⟩ = some (.bool fd) := fun x => (x.ok.c.cell 11).trans (by rw [HCC.out]; rfl)
  have c12 : ∀ x : Cls (AnsW w0 w s x1 x2 cc), x.w.cell? ⟨x1, 12, none⟩ = some (.string tk) := fun x => (x.ok.c.cell 12).trans (by rw [HCC.out]; rfl)
  have h0 : ∀ x : Cls (AnsW w0 w s x1 x2 cc), x.w.cell? ⟨s.wb, 0, none⟩ = some (.pointer (some ⟨s.p, 0, none⟩)) := fun x => x.ok.h.blk.cell 0
  refine wp_region_cls (AnsW w0 w s x1 x2 cc) (HS.out.up (Upd.refl [] w2).drew) (by kernel_rfl) (by kernel_rfl) (fun _ => ?_)
  repeat (go_big_quiet_step (first | (go_at_call 46; rename_i x; with_reducible exact Calls.cls (HPAR.out x.w x.ok.u) (fun e w' h => ⟨h.1, x.ok.up h.2⟩)) | (go_at_call 59; rename_i x; with_reducible exact Calls.cls (HGET.out x.w x.ok.h) (fun e w' h => ⟨h.1, x.ok.up h.2⟩))))
  refine wpQuiet_nil ?_
  intro _ hw'
  obtain ⟨nq, hw''⟩ := hw'
  subst hw''
  have HQ := Hd.mk nq.ok
  generalize nq.w = w3 at HQ ⊢
  clear c0 c1 c2 c3 c4 c5 c6 c7 c8 c9 c10 c11 c12 h0
  rcases hc with rfl | rfl | rfl
  · go_wp2_with fail
    refine (hplain_ok 200 gv w3).mono ?_
    rintro e w4 ⟨rfl, u4⟩
    simp only [Pc]
    have HQ := Hd.mk (HQ.out.up u4)
    go_upto_region 7 with (fail)
    refine wp_abs (fun W => Blk W w4.heap.size [.int .i64 200, .slice none 0 0, .string gv, .bool false] 40 ∧ AnsW w0 w s x1 x2 cc W) ⟨Blk.new w4 _ _ _ rfl, HQ.out.up ((Upd.refl [] w4).alloc _)⟩ ?_
    have HY := Hd.mk (show x2 < w4.heap.size from HQ.out.r.lt)
    generalize w4.heap.size = y at HY ⊢
    clear u4 HQ
    rintro w5 ⟨by5, q5⟩
    have HB := Hd.mk by5
    have HQ := Hd.mk q5
    clear by5 q5
    go_wp2_with fail
    refine (tag_ok gv w5 HVZ.out (HTT.out.upd HQ.out.h.upd0)).mono ?_
    rintro e w6 ⟨rfl, u6⟩
    have HTS := Hd.mk (show tagS gv = ⟨(tagL gv.data.toList).toArray⟩ from rfl)
    rw [← HTS.out]
    obtain ⟨ts, hts⟩ : ∃ ts, tagS gv = ts := ⟨_, rfl⟩
    rw [hts]
    have HTSE := Hd.mk hts
    clear hts
    have b9 := u6.blk HB.out (by simp)
    have HB := Hd.mk b9
    have HQ := Hd.mk (HQ.out.up u6)
    have g0 := fun Z => (b9.alloc Z).cell 0
    have g1 := fun Z => (b9.alloc Z).cell 1
    have g2 := fun Z => (b9.alloc Z).cell 2
    have g3 := fun Z => (b9.alloc Z).cell 3
    have l1 := fun Z => (b9.alloc Z).free 1
    simp only [List.getElem?_cons_zero, List.getElem?_cons_succ] at g0 g1 g2 g3
    clear b9 u6 HTS
    go_upto_region 8 with (fail)
    have HBF := Hd.mk (Blk.new w6 [.string ⟨#[101, 116, 97, 103]⟩, .string ts] 62 _ rfl)
    have hlt := HB.out.lt
    refine wp_abs (fun W => Blk W y [.int .i64 200, .slice (some ⟨w6.heap.size, 0, none⟩) 1 1, .string gv, .bool false] 40 ∧ Blk W w6.heap.size [.string ⟨#[101, 116, 97, 103]⟩, .string ts] 62 ∧ AnsW w0 w s x1 x2 cc W) ⟨(HB.out.alloc _).set 1 _, HBF.out.set_ne _ _ (by simp; omega), (HQ.out.up ((Upd.refl [] w6).alloc _)).setR (HB.out.alloc _) (by have := HY.out; have := HX.out.1; have := HX.out.2; omega) (by have := HY.out; omega) 1 _⟩ ?_
    generalize w6.heap.size = fb
    clear g0 g1 g2 g3 l1 hlt HBF HB HQ
    rintro w7 ⟨b7, bf7, q7⟩
    have HQ := Hd.mk q7
    have HBF := Hd.mk bf7
    have g0 := b7.cell 0
    have g1 := b7.cell 1
    have g2 := b7.cell 2
    have g3 := b7.cell 3
    simp only [List.getElem?_cons_zero, List.getElem?_cons_succ] at g0 g1 g2 g3
    have dd := q7.r
    clear b7 bf7 q7
    unfold zR at dd
    have d0 := dd.cell 0
    have d1 := dd.cell 1
    have d2 := dd.cell 2
    have d3 := dd.cell 3
    simp only [List.getElem?_cons_zero, List.getElem?_cons_succ] at d0 d1 d2 d3
    have f0 := dd.free 0
    have f1 := dd.free 1
    have f2 := dd.free 2
    have f3 := dd.free 3
    clear dd
    go_wp2_with fail
    have hrf : RfB w7 (some ⟨fb, 0, none⟩) [(etagB, ts)] := fun _ => ⟨fb, 0, rfl, HBF.out.lt, fun i hi => by
      obtain rfl : i = 0 := by simpa using hi
      exact ⟨HBF.out.cell 0, HBF.out.cell 1⟩⟩
    exact bodyPost_ret (results_cell _ _ _ 6 40 x2 (Pc 200 (some ⟨fb, 0, none⟩) 1 1 gv false) 40 rfl rfl (HQ.out.r.set4 rfl _ _ _ _) (by kernel_rfl) (by kernel_rfl)) rfl (.inl ⟨rfl, by rw [HTSE.out]; exact ans_end HH.out.upd0 HQ.out.h HQ.out.r (by have := HX.out.1; have := HX.out.2; omega) (HQ.out.u.mono (by simp)) hrf 200 1 gv false⟩)
  · go_wp2_with fail
    refine (failed_ok 5 w3 (by simp)).mono ?_
    rintro e w4 ⟨rfl, u4⟩
    have HQ := Hd.mk (HQ.out.up u4)
    have dd := HQ.out.r
    clear u4
    unfold zR at dd
    have d0 := dd.cell 0
    have d1 := dd.cell 1
    have d2 := dd.cell 2
    have d3 := dd.cell 3
    simp only [List.getElem?_cons_zero, List.getElem?_cons_succ] at d0 d1 d2 d3
    have f0 := dd.free 0
    have f1 := dd.free 1
    have f2 := dd.free 2
    have f3 := dd.free 3
    clear dd
    simp only [Pc]
    go_wp2_with fail
    exact bodyPost_ret (results_cell _ _ _ 6 40 x2 (Pc (failN 5 : Nat) none 0 0 (wB (failN 5)) false) 40 rfl rfl (HQ.out.r.set4 rfl _ _ _ _) (by kernel_rfl) (by kernel_rfl)) rfl (.inr ⟨by decide, ans_end HH.out.upd0 HQ.out.h HQ.out.r (by have := HX.out.1; have := HX.out.2; omega) (HQ.out.u.mono (by simp)) (RfB.nil _ none) _ 0 _ false⟩)
  · go_wp2_with fail
    refine (failed_ok 8 w3 (by simp)).mono ?_
    rintro e w4 ⟨rfl, u4⟩
    have HQ := Hd.mk (HQ.out.up u4)
    have dd := HQ.out.r
    clear u4
    unfold zR at dd
    have d0 := dd.cell 0
    have d1 := dd.cell 1
    have d2 := dd.cell 2
    have d3 := dd.cell 3
    simp only [List.getElem?_cons_zero, List.getElem?_cons_succ] at d0 d1 d2 d3
    have f0 := dd.free 0
    have f1 := dd.free 1
    have f2 := dd.free 2
    have f3 := dd.free 3
    clear dd
    simp only [Pc]
    go_wp2_with fail
    exact bodyPost_ret (results_cell _ _ _ 6 40 x2 (Pc (failN 8 : Nat) none 0 0 (wB (failN 8)) false) 40 rfl rfl (HQ.out.r.set4 rfl _ _ _ _) (by kernel_rfl) (by kernel_rfl)) rfl (.inr ⟨by decide, ans_end HH.out.upd0 HQ.out.h HQ.out.r (by have := HX.out.1; have := HX.out.2; omega) (HQ.out.u.mono (by simp)) (RfB.nil _ none) _ 0 _ false⟩)
end Go.Proofs.YtndlbkiogagnaaaGreatDoor

namespace Go.Proofs.YtndlbkiogagnaaaGreatDoor
set_option linter.unusedSimpArgs false
set_option linter.unusedVariables false
set_option linter.unnecessarySimpa false
open Go.RowKit BigFrame

def putB : ByteArray := ⟨#[112, 117, 116]⟩
def delB : ByteArray := ⟨#[100, 101, 108, 101, 116, 101]⟩
def PutQ (F : List Nat) (K : World → Prop) (pc : Int) (there : Bool) (w : World) (e : Ending) (w' : World) : Prop := (pc = 0 ∧ HQ F K (if there = true then 200 else 201) [] ⟨#[]⟩ false w e w') ∨ (pc ≠ 0 ∧ HQ F K (failN pc : Nat) [] (wB (failN pc)) false w e w')
def DelQ (F : List Nat) (K : World → Prop) (pc : Int) (w : World) (e : Ending) (w' : World) : Prop := (pc = 0 ∧ HQ F K 200 [] ⟨#[]⟩ false w e w') ∨ (pc ≠ 0 ∧ HQ F K (failN pc : Nat) [] (wB (failN pc)) false w e w')
theorem AnsW.put {w0 w W W' : World} {s s' : Ws} {x1 x2 : Nat} {c : Cc} (h : AnsW w0 w s x1 x2 c W) {j : Nat} (hu : Upd [j] W W') (hj : j ∈ foot s.p s.r) : Blk W' x2 zR 40 ∧ Upd s.foot w W' :=
  ⟨hu.blk h.r (fun e => by rw [List.mem_singleton] at e; subst e; exact h.h.sto.notFoot h.r (by decide) hj), (h.u.mono (by simp) : Upd s.foot w W).trans hu (fun k _ e => by rw [List.mem_singleton] at e; subst e; exact foot_sub s _ hj)⟩
set_option maxRecDepth 100000 in
set_option maxHeartbeats 8000000 in
theorem ans_put (c : Cc) (P fs : List (Bs × Bs)) (fa : Option Addr) (fcap : Nat) (kb tb : ByteArray) (ow : Int) (w0 w : World) (s : Ws) (h : Hw w0 w s) (hT : Tb w0) (hh : c.handler = putB) (hp : RdP w c.params P) (hf : c.fields = .slice fa fs.length fcap) (hrf : Rf w fa fs) (hfn : fs.length ≤ 900000) (hkb : S (parV P) = .string kb) (htb : S (tagV fs) = .string tb) (hk : kb.size ≤ 140737488351232) (hv : Vals s) (hc : putC s ow kb tb = 0 ∨ putC s ow kb tb = 4 ∨ putC s ow kb tb = 6 ∨ putC s ow kb tb = 8) :
    Calls Tryz.prog 38 #[.pointer (some ⟨s.wb, 0, none⟩), .agg c.cells.toArray, .int .i64 ow] w (PutQ s.foot (fun W => Hw w0 W (putS s kb c.body (putC s ow kb tb))) (putC s ow kb tb) (s.m kb).isSome w) := by
  have HH := Hd.mk h
  have HS := Hd.mk (AnsW.start c h)
  have HPAR := Hd.mk (fun W (hu : Upd [] w W) => param_ok c P W (hp.upd hu))
  have HTAG := Hd.mk (fun W (hu : Upd [] w W) => htag_ok c fs fa fcap W hf (hrf.upd hu) hfn)
  have HOP := Hd.mk (fun W (hW : Hw w0 W s) => store_put hW hT ow kb c.body tb hk hv)
  rw [hkb] at HPAR
  rw [htb] at HTAG
  clear h hp hkb htb hv hT hf hrf
  obtain ⟨bb, hbb⟩ : ∃ bb, c.body = bb := ⟨_, rfl⟩
  rw [hbb] at HOP ⊢
  generalize putC s ow kb tb = pc at *
  generalize hss : putS s kb bb pc = s2 at HOP ⊢
  generalize (s.m kb).isSome = th at *
  clear hss
  obtain ⟨mm, tg, fl, bo, cs, cn, sq, vr, hd, pr, aw, fd, tk⟩ := c
  simp only at hh
  subst hh
  simp only at hbb
  subst hbb
  simp only [Cc.cells] at *
  have D1 := HS.out.c
  simp only [Cc.cells] at D1
  have c0 := D1.cell 0
  have c1 := D1.cell 1
  have c2 := D1.cell 2
  have c3 := D1.cell 3
  have c4 := D1.cell 4
  have c5 := D1.cell 5
  have c6 := D1.cell 6
  have c7 := D1.cell 7
  have c8 := D1.cell 8
  have c9 := D1.cell 9
  have c10 := D1.cell 10
  have c11 := D1.cell 11
  have c12 := D1.cell 12
  simp only [List.getElem?_cons_zero, List.getElem?_cons_succ] at c0 c1 c2 c3 c4 c5 c6 c7 c8 c9 c10 c11 c12
  clear D1
  unfold putB at *
  go_enter Tryz.func38, Tryz.ntmps38
  go_upto_region 10 with (fail)
  clear c0 c1 c2 c3 c4 c5 c6 c7 c8 c9 c10 c11 c12
  obtain ⟨cc, hcc⟩ : ∃ cc : Cc, cc = ⟨mm, tg, fl, bo, cs, cn, sq, vr, ⟨#[112, 117, 116]⟩, pr, aw, fd, tk⟩ := ⟨_, rfl⟩
  have HCC := Hd.mk (show cc.cells = [.string mm, .string tg, fl, .string bo, .bool cs, .int .i64 cn, .int .i64 sq, .int .i64 vr, .string ⟨#[112, 117, 116]⟩, pr, aw, .bool fd, .string tk] by rw [hcc]; rfl)
  refine wp_abs (AnsW w0 w s w.heap.size (w.heap.size + 1) cc) (by rw [hcc]; exact HS.out) ?_
  obtain ⟨x2, hx2⟩ : ∃ x, w.heap.size + 1 = x := ⟨_, rfl⟩
  obtain ⟨x1, hx1⟩ : ∃ x, w.heap.size = x := ⟨_, rfl⟩
  rw [hx2, hx1]
  have HX := Hd.mk (And.intro hx1 hx2)
  clear hx1 hx2 hcc HS
  intro w2 hw2
  have HS := Hd.mk hw2
  clear hw2
  have c0 : ∀ x : Cls (AnsW w0 w s x1 x2 cc), x.w.cell? ⟨x1, 0, none⟩ = some (.string mm) := fun x => (x.ok.c.cell 0).trans (by rw [HCC.out]; rfl)
  have c1 : ∀ x : Cls (AnsW w0 w s x1 x2 cc), x.w.cell? ⟨x1, 1, none⟩ = some (.string tg) := fun x => (x.ok.c.cell 1).trans (by rw [HCC.out]; rfl)
  have c2 : ∀ x : Cls (AnsW w0 w s x1 x2 cc), x.w.cell? ⟨x1, 2, none⟩ = some (fl) := fun x => (x.ok.c.cell 2).trans (by rw [HCC.out]; rfl)
  have c3 : ∀ x : Cls (AnsW w0 w s x1 x2 cc), x.w.cell? ⟨x1, 3, none⟩ = some (.string bo) := fun x => (x.ok.c.cell 3).trans (by rw [HCC.out]; rfl)
  have c4 : ∀ x : Cls (AnsW w0 w s x1 x2 cc), x.w.cell? ⟨x1, 4, none⟩ = some (.bool cs) := fun x => (x.ok.c.cell 4).trans (by rw [HCC.out]; rfl)
  have c5 : ∀ x : Cls (AnsW w0 w s x1 x2 cc), x.w.cell? ⟨x1, 5, none⟩ = some (.int .i64 cn) := fun x => (x.ok.c.cell 5).trans (by rw [HCC.out]; rfl)
  have c6 : ∀ x : Cls (AnsW w0 w s x1 x2 cc), x.w.cell? ⟨x1, 6, none⟩ = some (.int .i64 sq) := fun x => (x.ok.c.cell 6).trans (by rw [HCC.out]; rfl)
  have c7 : ∀ x : Cls (AnsW w0 w s x1 x2 cc), x.w.cell? ⟨x1, 7, none⟩ = some (.int .i64 vr) := fun x => (x.ok.c.cell 7).trans (by rw [HCC.out]; rfl)
  have c8 : ∀ x : Cls (AnsW w0 w s x1 x2 cc), x.w.cell? ⟨x1, 8, none⟩ = some (.string ⟨#[112, 117, 116]⟩) := fun x => (x.ok.c.cell 8).trans (by rw [HCC.out]; rfl)
  have c9 : ∀ x : Cls (AnsW w0 w s x1 x2 cc), x.w.cell? ⟨x1, 9, none⟩ = some (pr) := fun x => (x.ok.c.cell 9).trans (by rw [HCC.out]; rfl)
  have c10 : ∀ x : Cls (AnsW w0 w s x1 x2 cc), x.w.cell? ⟨x1, 10, none⟩ = some (aw) := fun x => (x.ok.c.cell 10).trans (by rw [HCC.out]; rfl)
  have c11 : ∀ x : Cls (AnsW w0 w s x1 x2 cc), x.w.cell? ⟨x1, 11, none⟩ = some (.bool fd) := fun x => (x.ok.c.cell 11).trans (by rw [HCC.out]; rfl)
  have c12 : ∀ x : Cls (AnsW w0 w s x1 x2 cc), x.w.cell? ⟨x1, 12, none⟩ = some (.string tk) := fun x => (x.ok.c.cell 12).trans (by rw [HCC.out]; rfl)
  have h0 : ∀ x : Cls (AnsW w0 w s x1 x2 cc), x.w.cell? ⟨s.wb, 0, none⟩ = some (.pointer (some ⟨s.p, 0, none⟩)) := fun x => x.ok.h.blk.cell 0
  refine wp_cls_mid (AnsW w0 w s x1 x2 cc) 12 _ _ _ _ rfl rfl rfl (HS.out.up (Upd.refl [] w2).drew) (by kernel_rfl) (by kernel_rfl) (fun _ => ?_)
  simp only [Nat.reduceAdd, List.take_succ_cons, List.take_zero, List.drop_succ_cons, List.drop_zero]
  repeat (go_big_quiet_step (first | (go_at_call 46; rename_i x; with_reducible exact Calls.cls (HPAR.out x.w x.ok.u) (fun e w' h => ⟨h.1, x.ok.up h.2⟩)) | (go_at_call 63; rename_i x; with_reducible exact Calls.cls (HTAG.out x.w x.ok.u) (fun e w' h => ⟨h.1, x.ok.up h.2⟩))))
  refine wpQuiet_nil ?_
  refine ⟨_, by go_simp, by go_simp, fun w3 hw3 => (HOP.out w3 hw3.h).mono ?_⟩
  have HQ := Hd.mk hw3
  clear hw3
  clear c0 c1 c2 c3 c4 c5 c6 c7 c8 c9 c10 c11 c12 h0
  rintro e w4 ⟨rfl, hs2, u4⟩
  have hj := shd_foot s.p s.r kb
  have HQ := Hd.mk (And.intro (AnsW.put (s' := s) HQ.out u4 hj) hs2)
  clear u4 hs2 hj
  refine ⟨_, rfl, ?_⟩
  simp only [Act.put, List.setIfInBounds_toArray, List.set_cons_succ, List.set_cons_zero]
  repeat (go_big_quiet_step (fail))
  refine wpQuiet_nil ?_
  rcases hc with rfl | rfl | rfl | rfl
  · cases th with
    | true =>
      simp only [decide_true, Bool.true_and]
      go_wp2_with fail
      refine (hplain_ok 200 ⟨#[]⟩ w4).mono ?_
      rintro e w5 ⟨rfl, u5⟩
      have HQ := Hd.mk (And.intro (And.intro (u5.blk HQ.out.1.1 (by simp)) (HQ.out.1.2.trans u5 (by simp))) (HQ.out.2.up u5))
      have dd := HQ.out.1.1
      clear u5
      unfold zR at dd
      have d0 := dd.cell 0
      have d1 := dd.cell 1
      have d2 := dd.cell 2
      have d3 := dd.cell 3
      simp only [List.getElem?_cons_zero, List.getElem?_cons_succ] at d0 d1 d2 d3
      have f0 := dd.free 0
      have f1 := dd.free 1
      have f2 := dd.free 2
      have f3 := dd.free 3
      clear dd
      simp only [Pc]
      go_wp2_with fail
      exact bodyPost_ret (results_cell _ _ _ 6 40 x2 (Pc 200 none 0 0 ⟨#[]⟩ false) 40 rfl rfl (HQ.out.1.1.set4 rfl _ _ _ _) (by kernel_rfl) (by kernel_rfl)) rfl (.inl ⟨rfl, ans_end HH.out.upd0 HQ.out.2 HQ.out.1.1 (by have := HX.out.1; have := HX.out.2; omega) HQ.out.1.2 (RfB.nil _ none) _ 0 _ false⟩)
    | false =>
      simp only [decide_true, Bool.true_and]
      go_wp2_with fail
      refine (hplain_ok 201 ⟨#[]⟩ w4).mono ?_
      rintro e w5 ⟨rfl, u5⟩
      have HQ := Hd.mk (And.intro (And.intro (u5.blk HQ.out.1.1 (by simp)) (HQ.out.1.2.trans u5 (by simp))) (HQ.out.2.up u5))
      have dd := HQ.out.1.1
      clear u5
      unfold zR at dd
      have d0 := dd.cell 0
      have d1 := dd.cell 1
      have d2 := dd.cell 2
      have d3 := dd.cell 3
      simp only [List.getElem?_cons_zero, List.getElem?_cons_succ] at d0 d1 d2 d3
      have f0 := dd.free 0
      have f1 := dd.free 1
      have f2 := dd.free 2
      have f3 := dd.free 3
      clear dd
      simp only [Pc]
      go_wp2_with fail
      exact bodyPost_ret (results_cell _ _ _ 6 40 x2 (Pc 201 none 0 0 ⟨#[]⟩ false) 40 rfl rfl (HQ.out.1.1.set4 rfl _ _ _ _) (by kernel_rfl) (by kernel_rfl)) rfl (.inl ⟨rfl, ans_end HH.out.upd0 HQ.out.2 HQ.out.1.1 (by have := HX.out.1; have := HX.out.2; omega) HQ.out.1.2 (RfB.nil _ none) _ 0 _ false⟩)
  · go_wp2_with fail
    refine (failed_ok 4 w4 (by simp)).mono ?_
    rintro e w5 ⟨rfl, u5⟩
    have HQ := Hd.mk (And.intro (And.intro (u5.blk HQ.out.1.1 (by simp)) (HQ.out.1.2.trans u5 (by simp))) (HQ.out.2.up u5))
    have dd := HQ.out.1.1
    clear u5
    unfold zR at dd
    have d0 := dd.cell 0
    have d1 := dd.cell 1
    have d2 := dd.cell 2
    have d3 := dd.cell 3
    simp only [List.getElem?_cons_zero, List.getElem?_cons_succ] at d0 d1 d2 d3
    have f0 := dd.free 0
    have f1 := dd.free 1
    have f2 := dd.free 2
    have f3 := dd.free 3
    clear dd
    simp only [Pc]
    go_wp2_with fail
    exact bodyPost_ret (results_cell _ _ _ 6 40 x2 (Pc (failN 4 : Nat) none 0 0 (wB (failN 4)) false) 40 rfl rfl (HQ.out.1.1.set4 rfl _ _ _ _) (by kernel_rfl) (by kernel_rfl)) rfl (.inr ⟨by decide, ans_end HH.out.upd0 HQ.out.2 HQ.out.1.1 (by have := HX.out.1; have := HX.out.2; omega) HQ.out.1.2 (RfB.nil _ none) _ 0 _ false⟩)
  · go_wp2_with fail
    refine (failed_ok 6 w4 (by simp)).mono ?_
    rintro e w5 ⟨rfl, u5⟩
    have HQ := Hd.mk (And.intro (And.intro (u5.blk HQ.out.1.1 (by simp)) (HQ.out.1.2.trans u5 (by simp))) (HQ.out.2.up u5))
    have dd := HQ.out.1.1
    clear u5
    unfold zR at dd
    have d0 := dd.cell 0
    have d1 := dd.cell 1
    have d2 := dd.cell 2
    have d3 := dd.cell 3
    simp only [List.getElem?_cons_zero, List.getElem?_cons_succ] at d0 d1 d2 d3
    have f0 := dd.free 0
    have f1 := dd.free 1
    have f2 := dd.free 2
    have f3 := dd.free 3
    clear dd
    simp only [Pc]
    go_wp2_with fail
    exact bodyPost_ret (results_cell _ _ _ 6 40 x2 (Pc (failN 6 : Nat) none 0 0 (wB (failN 6)) false) 40 rfl rfl (HQ.out.1.1.set4 rfl _ _ _ _) (by kernel_rfl) (by kernel_rfl)) rfl (.inr ⟨by decide, ans_end HH.out.upd0 HQ.out.2 HQ.out.1.1 (by have := HX.out.1; have := HX.out.2; omega) HQ.out.1.2 (RfB.nil _ none) _ 0 _ false⟩)
  · go_wp2_with fail
    refine (failed_ok 8 w4 (by simp)).mono ?_
    rintro e w5 ⟨rfl, u5⟩
    have HQ := Hd.mk (And.intro (And.intro (u5.blk HQ.out.1.1 (by simp)) (HQ.out.1.2.trans u5 (by simp))) (HQ.out.2.up u5))
    have dd := HQ.out.1.1
    clear u5
    unfold zR at dd
    have d0 := dd.cell 0
    have d1 := dd.cell 1
    have d2 := dd.cell 2
    have d3 := dd.cell 3
    simp only [List.getElem?_cons_zero, List.getElem?_cons_succ] at d0 d1 d2 d3
    have f0 := dd.free 0
    have f1 := dd.free 1
    have f2 := dd.free 2
    have f3 := dd.free 3
    clear dd
    simp only [Pc]
    go_wp2_with fail
    exact bodyPost_ret (results_cell _ _ _ 6 40 x2 (Pc (failN 8 : Nat) none 0 0 (wB (failN 8)) false) 40 rfl rfl (HQ.out.1.1.set4 rfl _ _ _ _) (by kernel_rfl) (by kernel_rfl)) rfl (.inr ⟨by decide, ans_end HH.out.upd0 HQ.out.2 HQ.out.1.1 (by have := HX.out.1; have := HX.out.2; omega) HQ.out.1.2 (RfB.nil _ none) _ 0 _ false⟩)
set_option maxRecDepth 100000 in
set_option maxHeartbeats 8000000 in
theorem ans_del (c : Cc) (P fs : List (Bs × Bs)) (fa : Option Addr) (fcap : Nat) (kb tb : ByteArray) (ow : Int) (w0 w : World) (s : Ws) (h : Hw w0 w s) (hT : Tb w0) (hh : c.handler = delB) (hp : RdP w c.params P) (hf : c.fields = .slice fa fs.length fcap) (hrf : Rf w fa fs) (hfn : fs.length ≤ 900000) (hkb : S (parV P) = .string kb) (htb : S (tagV fs) = .string tb) (hk : kb.size ≤ 140737488351232) (hv : Vals s) (hc : delC s ow kb tb = 0 ∨ delC s ow kb tb = 5 ∨ delC s ow kb tb = 6 ∨ delC s ow kb tb = 8) :
    Calls Tryz.prog 38 #[.pointer (some ⟨s.wb, 0, none⟩), .agg c.cells.toArray, .int .i64 ow] w (DelQ s.foot (fun W => Hw w0 W (delS s kb (delC s ow kb tb))) (delC s ow kb tb) w) := by
  have HH := Hd.mk h
  have HS := Hd.mk (AnsW.start c h)
  have HPAR := Hd.mk (fun W (hu : Upd [] w W) => param_ok c P W (hp.upd hu))
  have HTAG := Hd.mk (fun W (hu : Upd [] w W) => htag_ok c fs fa fcap W hf (hrf.upd hu) hfn)
  have HOP := Hd.mk (fun W (hW : Hw w0 W s) => store_del hW hT ow kb tb hk hv)
  rw [hkb] at HPAR
  rw [htb] at HTAG
  clear h hp hkb htb hv hT hf hrf
  generalize delC s ow kb tb = pc at *
  generalize hss : delS s kb pc = s2 at HOP ⊢
  clear hss
  obtain ⟨mm, tg, fl, bo, cs, cn, sq, vr, hd, pr, aw, fd, tk⟩ := c
  simp only at hh
  subst hh
  simp only [Cc.cells] at *
  have D1 := HS.out.c
  simp only [Cc.cells] at D1
  have c0 := D1.cell 0
  have c1 := D1.cell 1
  have c2 := D1.cell 2
  have c3 := D1.cell 3
  have c4 := D1.cell 4
  have c5 := D1.cell 5
  have c6 := D1.cell 6
  have c7 := D1.cell 7
  have c8 := D1.cell 8
  have c9 := D1.cell 9
  have c10 := D1.cell 10
  have c11 := D1.cell 11
  have c12 := D1.cell 12
  simp only [List.getElem?_cons_zero, List.getElem?_cons_succ] at c0 c1 c2 c3 c4 c5 c6 c7 c8 c9 c10 c11 c12
  clear D1
  unfold delB at *
  go_enter Tryz.func38, Tryz.ntmps38
  go_upto_region 17 with (fail)
  clear c0 c1 c2 c3 c4 c5 c6 c7 c8 c9 c10 c11 c12
  obtain ⟨cc, hcc⟩ : ∃ cc : Cc, cc = ⟨mm, tg, fl, bo, cs, cn, sq, vr, ⟨#[100, 101, 108, 101, 116, 101]⟩, pr, aw, fd, tk⟩ := ⟨_, rfl⟩
  have HCC := Hd.mk (show cc.cells = [.string mm, .string tg, fl, .string bo, .bool cs, .int .i64 cn, .int .i64 sq, .int .i64 vr, .string ⟨#[100, 101, 108, 101, 116, 101]⟩, pr, aw, .bool fd, .string tk] by rw [hcc]; rfl)
  refine wp_abs (AnsW w0 w s w.heap.size (w.heap.size + 1) cc) (by rw [hcc]; exact HS.out) ?_
  obtain ⟨x2, hx2⟩ : ∃ x, w.heap.size + 1 = x := ⟨_, rfl⟩
  obtain ⟨x1, hx1⟩ : ∃ x, w.heap.size = x := ⟨_, rfl⟩
  rw [hx2, hx1]
  have HX := Hd.mk (And.intro hx1 hx2)
  clear hx1 hx2 hcc HS
  intro w2 hw2
  have HS := Hd.mk hw2
  clear hw2
  have c0 : ∀ x : Cls (AnsW w0 w s x1 x2 cc), x.w.cell? ⟨x1, 0, none⟩ = some (.string mm) := fun x => (x.ok.c.cell 0).trans (by rw [HCC.out]; rfl)
  have c1 : ∀ x : Cls (AnsW w0 w s x1 x2 cc), x.w.cell? ⟨x1, 1, none⟩ = some (.string tg) := fun x => (x.ok.c.cell 1).trans (by rw [HCC.out]; rfl)
  have c2 : ∀ x : Cls (AnsW w0 w s x1 x2 cc), x.w.cell? ⟨x1, 2, none⟩ = some (fl) := fun x => (x.ok.c.cell 2).trans (by rw [HCC.out]; rfl)
  have c3 : ∀ x : Cls (AnsW w0 w s x1 x2 cc), x.w.cell? ⟨x1, 3, none⟩ = some (.string bo) := fun x => (x.ok.c.cell 3).trans (by rw [HCC.out]; rfl)
  have c4 : ∀ x : Cls (AnsW w0 w s x1 x2 cc), x.w.cell? ⟨x1, 4, none⟩ = some (.bool cs) := fun x => (x.ok.c.cell 4).trans (by rw [HCC.out]; rfl)
  have c5 : ∀ x : Cls (AnsW w0 w s x1 x2 cc), x.w.cell? ⟨x1, 5, none⟩ = some (.int .i64 cn) := fun x => (x.ok.c.cell 5).trans (by rw [HCC.out]; rfl)
  have c6 : ∀ x : Cls (AnsW w0 w s x1 x2 cc), x.w.cell? ⟨x1, 6, none⟩ = some (.int .i64 sq) := fun x => (x.ok.c.cell 6).trans (by rw [HCC.out]; rfl)
  have c7 : ∀ x : Cls (AnsW w0 w s x1 x2 cc), x.w.cell? ⟨x1, 7, none⟩ = some (.int .i64 vr) := fun x => (x.ok.c.cell 7).trans (by rw [HCC.out]; rfl)
  have c8 : ∀ x : Cls (AnsW w0 w s x1 x2 cc), x.w.cell? ⟨x1, 8, none⟩ = some (.string ⟨#[100, 101, 108, 101, 116, 101]⟩) := fun x => (x.ok.c.cell 8).trans (by rw [HCC.out]; rfl)
  have c9 : ∀ x : Cls (AnsW w0 w s x1 x2 cc), x.w.cell? ⟨x1, 9, none⟩ = some (pr) := fun x => (x.ok.c.cell 9).trans (by rw [HCC.out]; rfl)
  have c10 : ∀ x : Cls (AnsW w0 w s x1 x2 cc), x.w.cell? ⟨x1, 10, none⟩ = some (aw) := fun x => (x.ok.c.cell 10).trans (by rw [HCC.out]; rfl)
  have c11 : ∀ x : Cls (AnsW w0 w s x1 x2 cc), x.w.cell? ⟨x1, 11, none⟩ = some (.bool fd) := fun x => (x.ok.c.cell 11).trans (by rw [HCC.out]; rfl)
  have c12 : ∀ x : Cls (AnsW w0 w s x1 x2 cc), x.w.cell? ⟨x1, 12, none⟩ = some (.string tk) := fun x => (x.ok.c.cell 12).trans (by rw [HCC.out]; rfl)
  have h0 : ∀ x : Cls (AnsW w0 w s x1 x2 cc), x.w.cell? ⟨s.wb, 0, none⟩ = some (.pointer (some ⟨s.p, 0, none⟩)) := fun x => x.ok.h.blk.cell 0
  refine wp_cls_mid (AnsW w0 w s x1 x2 cc) 9 _ _ _ _ rfl rfl rfl (HS.out.up (Upd.refl [] w2).drew) (by kernel_rfl) (by kernel_rfl) (fun _ => ?_)
  simp only [Nat.reduceAdd, List.take_succ_cons, List.take_zero, List.drop_succ_cons, List.drop_zero]
  repeat (go_big_quiet_step (first | (go_at_call 46; rename_i x; with_reducible exact Calls.cls (HPAR.out x.w x.ok.u) (fun e w' h => ⟨h.1, x.ok.up h.2⟩)) | (go_at_call 63; rename_i x; with_reducible exact Calls.cls (HTAG.out x.w x.ok.u) (fun e w' h => ⟨h.1, x.ok.up h.2⟩))))
  refine wpQuiet_nil ?_
  refine ⟨_, by go_simp, by go_simp, fun w3 hw3 => (HOP.out w3 hw3.h).mono ?_⟩
  have HQ := Hd.mk hw3
  clear hw3
  clear c0 c1 c2 c3 c4 c5 c6 c7 c8 c9 c10 c11 c12 h0
  rintro e w4 ⟨rfl, hs2, u4⟩
  have hj := shd_foot s.p s.r kb
  have HQ := Hd.mk (And.intro (AnsW.put (s' := s) HQ.out u4 hj) hs2)
  clear u4 hs2 hj
  refine ⟨_, rfl, ?_⟩
  simp only [Act.put, List.setIfInBounds_toArray, List.set_cons_succ, List.set_cons_zero]
  repeat (go_big_quiet_step (fail))
  refine wpQuiet_nil ?_
  rcases hc with rfl | rfl | rfl | rfl
  · go_wp2_with fail
    refine (hplain_ok 200 ⟨#[]⟩ w4).mono ?_
    rintro e w5 ⟨rfl, u5⟩
    have HQ := Hd.mk (And.intro (And.intro (u5.blk HQ.out.1.1 (by simp)) (HQ.out.1.2.trans u5 (by simp))) (HQ.out.2.up u5))
    have dd := HQ.out.1.1
    clear u5
    unfold zR at dd
    have d0 := dd.cell 0
    have d1 := dd.cell 1
    have d2 := dd.cell 2
    have d3 := dd.cell 3
    simp only [List.getElem?_cons_zero, List.getElem?_cons_succ] at d0 d1 d2 d3
    have f0 := dd.free 0
    have f1 := dd.free 1
    have f2 := dd.free 2
    have f3 := dd.free 3
    clear dd
    simp only [Pc]
    go_wp2_with fail
    exact bodyPost_ret (results_cell _ _ _ 6 40 x2 (Pc 200 none 0 0 ⟨#[]⟩ false) 40 rfl rfl (HQ.out.1.1.set4 rfl _ _ _ _) (by kernel_rfl) (by kernel_rfl)) rfl (.inl ⟨rfl, ans_end HH.out.upd0 HQ.out.2 HQ.out.1.1 (by have := HX.out.1; have := HX.out.2; omega) HQ.out.1.2 (RfB.nil _ none) _ 0 _ false⟩)
  · go_wp2_with fail
    refine (failed_ok 5 w4 (by simp)).mono ?_
    rintro e w5 ⟨rfl, u5⟩
    have HQ := Hd.mk (And.intro (And.intro (u5.blk HQ.out.1.1 (by simp)) (HQ.out.1.2.trans u5 (by simp))) (HQ.out.2.up u5))
    have dd := HQ.out.1.1
    clear u5
    unfold zR at dd
    have d0 := dd.cell 0
    have d1 := dd.cell 1
    have d2 := dd.cell 2
    have d3 := dd.cell 3
    simp only [List.getElem?_cons_zero, List.getElem?_cons_succ] at d0 d1 d2 d3
    have f0 := dd.free 0
    have f1 := dd.free 1
    have f2 := dd.free 2
    have f3 := dd.free 3
    clear dd
    simp only [Pc]
    go_wp2_with fail
    exact bodyPost_ret (results_cell _ _ _ 6 40 x2 (Pc (failN 5 : Nat) none 0 0 (wB (failN 5)) false) 40 rfl rfl (HQ.out.1.1.set4 rfl _ _ _ _) (by kernel_rfl) (by kernel_rfl)) rfl (.inr ⟨by decide, ans_end HH.out.upd0 HQ.out.2 HQ.out.1.1 (by have := HX.out.1; have := HX.out.2; omega) HQ.out.1.2 (RfB.nil _ none) _ 0 _ false⟩)
  · go_wp2_with fail
    refine (failed_ok 6 w4 (by simp)).mono ?_
    rintro e w5 ⟨rfl, u5⟩
    have HQ := Hd.mk (And.intro (And.intro (u5.blk HQ.out.1.1 (by simp)) (HQ.out.1.2.trans u5 (by simp))) (HQ.out.2.up u5))
    have dd := HQ.out.1.1
    clear u5
    unfold zR at dd
    have d0 := dd.cell 0
    have d1 := dd.cell 1
    have d2 := dd.cell 2
    have d3 := dd.cell 3
    simp only [List.getElem?_cons_zero, List.getElem?_cons_succ] at d0 d1 d2 d3
    have f0 := dd.free 0
    have f1 := dd.free 1
    have f2 := dd.free 2
    have f3 := dd.free 3
    clear dd
    simp only [Pc]
    go_wp2_with fail
    exact bodyPost_ret (results_cell _ _ _ 6 40 x2 (Pc (failN 6 : Nat) none 0 0 (wB (failN 6)) false) 40 rfl rfl (HQ.out.1.1.set4 rfl _ _ _ _) (by kernel_rfl) (by kernel_rfl)) rfl (.inr ⟨by decide, ans_end HH.out.upd0 HQ.out.2 HQ.out.1.1 (by have := HX.out.1; have := HX.out.2; omega) HQ.out.1.2 (RfB.nil _ none) _ 0 _ false⟩)
  · go_wp2_with fail
    refine (failed_ok 8 w4 (by simp)).mono ?_
    rintro e w5 ⟨rfl, u5⟩
    have HQ := Hd.mk (And.intro (And.intro (u5.blk HQ.out.1.1 (by simp)) (HQ.out.1.2.trans u5 (by simp))) (HQ.out.2.up u5))
    have dd := HQ.out.1.1
    clear u5
    unfold zR at dd
    have d0 := dd.cell 0
    have d1 := dd.cell 1
    have d2 := dd.cell 2
    have d3 := dd.cell 3
    simp only [List.getElem?_cons_zero, List.getElem?_cons_succ] at d0 d1 d2 d3
    have f0 := dd.free 0
    have f1 := dd.free 1
    have f2 := dd.free 2
    have f3 := dd.free 3
    clear dd
    simp only [Pc]
    go_wp2_with fail
    exact bodyPost_ret (results_cell _ _ _ 6 40 x2 (Pc (failN 8 : Nat) none 0 0 (wB (failN 8)) false) 40 rfl rfl (HQ.out.1.1.set4 rfl _ _ _ _) (by kernel_rfl) (by kernel_rfl)) rfl (.inr ⟨by decide, ans_end HH.out.upd0 HQ.out.2 HQ.out.1.1 (by have := HX.out.1; have := HX.out.2; omega) HQ.out.1.2 (RfB.nil _ none) _ 0 _ false⟩)
end Go.Proofs.YtndlbkiogagnaaaGreatDoor

namespace Go.Proofs.YtndlbkiogagnaaaGreatDoor
set_option linter.unusedSimpArgs false
set_option linter.unusedVariables false
set_option linter.unnecessarySimpa false
open Go.RowKit BigFrame

def walkB : ByteArray := ⟨#[119, 97, 108, 107]⟩
def reloadB : ByteArray := ⟨#[114, 101, 108, 111, 97, 100]⟩
def stopB : ByteArray := ⟨#[115, 104, 117, 116, 100, 111, 119, 110]⟩
def healthB : ByteArray := ⟨#[104, 101, 97, 108, 116, 104]⟩
def listB : ByteArray := ⟨#[108, 105, 115, 116]⟩
def wkK (o : Option Wk) : Int := match o with | none => 400 | some _ => 200
def wkB (o : Option Wk) : ByteArray := match o with | none => wB 400 | some k => k.upto 4
set_option maxRecDepth 100000 in
set_option maxHeartbeats 8000000 in
theorem oth_walk (c : Cc) (P : List (Bs × Bs)) (kb : ByteArray) (w0 w : World) (s : Ws) (h : Hw w0 w s) (hT : Tab w) (hh : c.handler = walkB) (hp : RdP w c.params P) (hkb : S (parV P) = .string kb) (hk : kb.size ≤ 9223372036854775807) :
    Calls Tryz.prog 67 #[.pointer (some ⟨s.wb, 0, none⟩), .agg c.cells.toArray] w (HQ s.foot (fun W => Hw w0 W s) (wkK (walkM kb.data.toList)) [] (wkB (walkM kb.data.toList)) false w) := by
  have HH := Hd.mk h
  have HS := Hd.mk (AnsW.start c h)
  have HPAR := Hd.mk (fun W (hu : Upd [] w W) => param_ok c P W (hp.upd hu))
  have HWK := Hd.mk (fun W => walk_ok kb W hk)
  have HT := Hd.mk hT
  have HO := Hd.mk (fun k (hm : walkM kb.data.toList = some k) => show k.ok 41 by
    unfold walkM at hm
    split at hm
    · exact (steps_ok _ _ hm).more (by omega)
    · cases hm)
  rw [hkb] at HPAR
  generalize walkM kb.data.toList = o at *
  clear h hp hkb hk hT
  obtain ⟨mm, tg, fl, bo, cs, cn, sq, vr, hd, pr, aw, fd, tk⟩ := c
  simp only at hh
  subst hh
  simp only [Cc.cells] at *
  have D1 := HS.out.c
  simp only [Cc.cells] at D1
  have c0 := D1.cell 0
  have c1 := D1.cell 1
  have c2 := D1.cell 2
  have c3 := D1.cell 3
  have c4 := D1.cell 4
  have c5 := D1.cell 5
  have c6 := D1.cell 6
  have c7 := D1.cell 7
  have c8 := D1.cell 8
  have c9 := D1.cell 9
  have c10 := D1.cell 10
  have c11 := D1.cell 11
  have c12 := D1.cell 12
  simp only [List.getElem?_cons_zero, List.getElem?_cons_succ] at c0 c1 c2 c3 c4 c5 c6 c7 c8 c9 c10 c11 c12
  clear D1
  unfold walkB at *
  go_enter Tryz.func67, Tryz.ntmps67
  go_upto_region 3 with (fail)
  clear c0 c1 c2 c3 c4 c5 c6 c7 c8 c9 c10 c11 c12
  obtain ⟨cc, hcc⟩ : ∃ cc : Cc, cc = ⟨mm, tg, fl, bo, cs, cn, sq, vr, ⟨#[119, 97, 108, 107]⟩, pr, aw, fd, tk⟩ := ⟨_, rfl⟩
  have HCC := Hd.mk (show cc.cells = [.string mm, .string tg, fl, .string bo, .bool cs, .int .i64 cn, .int .i64 sq, .int .i64 vr, .string ⟨#[119, 97, 108, 107]⟩, pr, aw, .bool fd, .string tk] by rw [hcc]; rfl)
  refine wp_abs (AnsW w0 w s w.heap.size (w.heap.size + 1) cc) (by rw [hcc]; exact HS.out) ?_
  obtain ⟨x2, hx2⟩ : ∃ x, w.heap.size + 1 = x := ⟨_, rfl⟩
  obtain ⟨x1, hx1⟩ : ∃ x, w.heap.size = x := ⟨_, rfl⟩
  rw [hx2, hx1]
  have HX := Hd.mk (And.intro hx1 hx2)
  clear hx1 hx2 hcc HS
  intro w2 hw2
  have HS := Hd.mk hw2
  clear hw2
  have c0 : (w2).cell? ⟨x1, 0, none⟩ = some (.string mm) := (HS.out.c.cell 0).trans (by rw [HCC.out]; rfl)
  have c1 : (w2).cell? ⟨x1, 1, none⟩ = some (.string tg) := (HS.out.c.cell 1).trans (by rw [HCC.out]; rfl)
  have c2 : (w2).cell? ⟨x1, 2, none⟩ = some (fl) := (HS.out.c.cell 2).trans (by rw [HCC.out]; rfl)
  have c3 : (w2).cell? ⟨x1, 3, none⟩ = some (.string bo) := (HS.out.c.cell 3).trans (by rw [HCC.out]; rfl)
  have c4 : (w2).cell? ⟨x1, 4, none⟩ = some (.bool cs) := (HS.out.c.cell 4).trans (by rw [HCC.out]; rfl)
  have c5 : (w2).cell? ⟨x1, 5, none⟩ = some (.int .i64 cn) := (HS.out.c.cell 5).trans (by rw [HCC.out]; rfl)
  have c6 : (w2).cell? ⟨x1, 6, none⟩ = some (.int .i64 sq) := (HS.out.c.cell 6).trans (by rw [HCC.out]; rfl)
  have c7 : (w2).cell? ⟨x1, 7, none⟩ = some (.int .i64 vr) := (HS.out.c.cell 7).trans (by rw [HCC.out]; rfl)
  have c8 : (w2).cell? ⟨x1, 8, none⟩ = some (.string ⟨#[119, 97, 108, 107]⟩) := (HS.out.c.cell 8).trans (by rw [HCC.out]; rfl)
  have c9 : (w2).cell? ⟨x1, 9, none⟩ = some (pr) := (HS.out.c.cell 9).trans (by rw [HCC.out]; rfl)
  have c10 : (w2).cell? ⟨x1, 10, none⟩ = some (aw) := (HS.out.c.cell 10).trans (by rw [HCC.out]; rfl)
  have c11 : (w2).cell? ⟨x1, 11, none⟩ = some (.bool fd) := (HS.out.c.cell 11).trans (by rw [HCC.out]; rfl)
  have c12 : (w2).cell? ⟨x1, 12, none⟩ = some (.string tk) := (HS.out.c.cell 12).trans (by rw [HCC.out]; rfl)
  go_wp2_with fail
  refine (HPAR.out _ HS.out.u).mono ?_
  rintro e w3 ⟨rfl, u3⟩
  have HS := Hd.mk (HS.out.up u3)
  clear u3 c0 c1 c2 c3 c4 c5 c6 c7 c8 c9 c10 c11 c12
  go_wp2_with fail
  refine (HWK.out _).mono ?_
  rintro e w4 ⟨u4, hr⟩
  have HQ := Hd.mk (HS.out.up u4)
  clear u4 HS
  cases o with
  | none =>
    simp only at hr
    subst hr
    simp only [zeroW]
    go_upto_region 4 with (fail)
    refine wp_abs (AnsW w0 w s x1 x2 cc) (HQ.out.up ((Upd.refl [] w4).alloc _)) ?_
    intro w5 hw5
    have HQ := Hd.mk hw5
    clear hw5
    go_wp2_with fail
    refine (plain_ok 400 false w5 (by decide)).mono ?_
    rintro e w6 ⟨rfl, u6⟩
    rw [plain_pc]
    have HQ := Hd.mk (HQ.out.up u6)
    have dd := HQ.out.r
    clear u6
    unfold zR at dd
    have d0 := dd.cell 0
    have d1 := dd.cell 1
    have d2 := dd.cell 2
    have d3 := dd.cell 3
    simp only [List.getElem?_cons_zero, List.getElem?_cons_succ] at d0 d1 d2 d3
    have f0 := dd.free 0
    have f1 := dd.free 1
    have f2 := dd.free 2
    have f3 := dd.free 3
    clear dd
    simp only [Pc]
    go_wp2_with fail
    exact bodyPost_ret (results_cell _ _ _ 4 40 x2 (Pc 400 none 0 0 (wB 400) false) 40 rfl rfl (HQ.out.r.set4 rfl _ _ _ _) (by kernel_rfl) (by kernel_rfl)) rfl (ans_end HH.out.upd0 HQ.out.h HQ.out.r (by have := HX.out.1; have := HX.out.2; omega) (HQ.out.u.mono (by simp)) (RfB.nil _ none) _ 0 _ false)
  | some k =>
    simp only at hr
    obtain ⟨cs, hcs, rfl⟩ := hr
    have HC := Hd.mk (And.intro hcs (HO.out k rfl))
    obtain ⟨a, b, x, y, rfl, -⟩ := hcs
    simp only
    have HY := Hd.mk (And.intro (Blk.new w4 [.complex .f64 a b, .complex .f64 x y] 57 _ rfl) (HQ.out.up ((Upd.refl [] w4).alloc (.cells #[.complex .f64 a b, .complex .f64 x y] 57))))
    go_upto_region 4 with (fail)
    obtain ⟨x3, hx3⟩ : ∃ x, w4.heap.size = x := ⟨_, rfl⟩
    rw [hx3] at HY ⊢
    refine wp_abs (fun W => Blk W x3 [.complex .f64 a b, .complex .f64 x y] 57 ∧ AnsW w0 w s x1 x2 cc W) HY.out ?_
    clear HY hx3
    intro w5 hw5
    have HQ := Hd.mk hw5.2
    have d0 := hw5.1.cell 0
    have d1 := hw5.1.cell 1
    simp only [List.getElem?_cons_zero, List.getElem?_cons_succ] at d0 d1
    clear hw5
    go_wp2_with fail
    refine (wtext_ok k _ w5 HC.out.1 HC.out.2 (HT.out.upd HQ.out.u)).mono ?_
    rintro e w6 ⟨rfl, u6⟩
    have HQ := Hd.mk (HQ.out.up u6)
    clear u6 d0 d1
    go_wp2_with fail
    refine (hplain_ok 200 _ w6).mono ?_
    rintro e w7 ⟨rfl, u7⟩
    have HQ := Hd.mk (HQ.out.up u7)
    have dd := HQ.out.r
    clear u7
    unfold zR at dd
    have d0 := dd.cell 0
    have d1 := dd.cell 1
    have d2 := dd.cell 2
    have d3 := dd.cell 3
    simp only [List.getElem?_cons_zero, List.getElem?_cons_succ] at d0 d1 d2 d3
    have f0 := dd.free 0
    have f1 := dd.free 1
    have f2 := dd.free 2
    have f3 := dd.free 3
    clear dd
    simp only [Pc]
    go_wp2_with fail
    exact bodyPost_ret (results_cell _ _ _ 4 40 x2 (Pc 200 none 0 0 (k.upto 4) false) 40 rfl rfl (HQ.out.r.set4 rfl _ _ _ _) (by kernel_rfl) (by kernel_rfl)) rfl (ans_end HH.out.upd0 HQ.out.h HQ.out.r (by have := HX.out.1; have := HX.out.2; omega) (HQ.out.u.mono (by simp)) (RfB.nil _ none) _ 0 _ false)
set_option maxRecDepth 100000 in
set_option maxHeartbeats 8000000 in
theorem oth_health (c : Cc) (w0 w : World) (s : Ws) (h : Hw w0 w s) (hh : c.handler = healthB) :
    Calls Tryz.prog 67 #[.pointer (some ⟨s.wb, 0, none⟩), .agg c.cells.toArray] w (HQ s.foot (fun W => Hw w0 W s) 200 [] ⟨#[102, 105, 110, 101]⟩ false w) := by
  have HH := Hd.mk h
  have HS := Hd.mk (AnsW.start c h)
  clear h
  obtain ⟨mm, tg, fl, bo, cs, cn, sq, vr, hd, pr, aw, fd, tk⟩ := c
  simp only at hh
  subst hh
  simp only [Cc.cells] at *
  have D1 := HS.out.c
  simp only [Cc.cells] at D1
  have c0 := D1.cell 0
  have c1 := D1.cell 1
  have c2 := D1.cell 2
  have c3 := D1.cell 3
  have c4 := D1.cell 4
  have c5 := D1.cell 5
  have c6 := D1.cell 6
  have c7 := D1.cell 7
  have c8 := D1.cell 8
  have c9 := D1.cell 9
  have c10 := D1.cell 10
  have c11 := D1.cell 11
  have c12 := D1.cell 12
  simp only [List.getElem?_cons_zero, List.getElem?_cons_succ] at c0 c1 c2 c3 c4 c5 c6 c7 c8 c9 c10 c11 c12
  clear D1
  unfold healthB at *
  go_enter Tryz.func67, Tryz.ntmps67
  go_upto_region 18 with (fail)
  clear c0 c1 c2 c3 c4 c5 c6 c7 c8 c9 c10 c11 c12
  obtain ⟨cc, hcc⟩ : ∃ cc : Cc, cc = ⟨mm, tg, fl, bo, cs, cn, sq, vr, ⟨#[104, 101, 97, 108, 116, 104]⟩, pr, aw, fd, tk⟩ := ⟨_, rfl⟩
  have HCC := Hd.mk (show cc.cells = [.string mm, .string tg, fl, .string bo, .bool cs, .int .i64 cn, .int .i64 sq, .int .i64 vr, .string ⟨#[104, 101, 97, 108, 116, 104]⟩, pr, aw, .bool fd, .string tk] by rw [hcc]; rfl)
  refine wp_abs (AnsW w0 w s w.heap.size (w.heap.size + 1) cc) (by rw [hcc]; exact HS.out) ?_
  obtain ⟨x2, hx2⟩ : ∃ x, w.heap.size + 1 = x := ⟨_, rfl⟩
  obtain ⟨x1, hx1⟩ : ∃ x, w.heap.size = x := ⟨_, rfl⟩
  rw [hx2, hx1]
  have HX := Hd.mk (And.intro hx1 hx2)
  clear hx1 hx2 hcc HS
  intro w2 hw2
  have HS := Hd.mk hw2
  clear hw2
  go_wp2_with fail
  refine (hplain_ok 200 _ w2).mono ?_
  rintro e w3 ⟨rfl, u3⟩
  have HQ := Hd.mk (HS.out.up u3)
  have dd := HQ.out.r
  clear u3
  unfold zR at dd
  have d0 := dd.cell 0
  have d1 := dd.cell 1
  have d2 := dd.cell 2
  have d3 := dd.cell 3
  simp only [List.getElem?_cons_zero, List.getElem?_cons_succ] at d0 d1 d2 d3
  have f0 := dd.free 0
  have f1 := dd.free 1
  have f2 := dd.free 2
  have f3 := dd.free 3
  clear dd
  simp only [Pc]
  go_wp2_with fail
  exact bodyPost_ret (results_cell _ _ _ 4 40 x2 (Pc 200 none 0 0 ⟨#[102, 105, 110, 101]⟩ false) 40 rfl rfl (HQ.out.r.set4 rfl _ _ _ _) (by kernel_rfl) (by kernel_rfl)) rfl (ans_end HH.out.upd0 HQ.out.h HQ.out.r (by have := HX.out.1; have := HX.out.2; omega) (HQ.out.u.mono (by simp)) (RfB.nil _ none) _ 0 _ false)
theorem Hw.foots {w0 w : World} {s : Ws} (h : Hw w0 w s) {k : Nat} {cs : List Value} (hb : Blk w k cs 52) : k ∉ Go.Proofs.YtndlbkiogagnaaaGreatDoor.foot s.p s.r := h.sto.notFoot hb (by decide)
/-- It was asked to stop. -/
theorem Hw.stopped {w0 w : World} {s : Ws} (h : Hw w0 w s) (b : Bool) : Hw w0 (w.setCell ⟨s.wb, 3, none⟩ (.bool b)) { s with stop := b } := by
  have hu : Upd [s.wb] w (w.setCell ⟨s.wb, 3, none⟩ (.bool b)) := (Upd.refl [s.wb] w).set _ _ (by simp)
  have hf := h.foots h.blk
  exact ⟨h.blk.set 3 (.bool b), h.sto.beside hu (fun k hk => by rw [List.mem_singleton] at hk; subst hk; exact ⟨hf, h.wge⟩), ⟨hu.blk h.hol.blk (fun e => by rw [List.mem_singleton] at e; have h2 := h.hol.blk; rw [e] at h2; exact absurd (h2.uniq h.blk).2 (by decide)), h.hol.sn.upd hu (fun k hk => by rw [List.mem_singleton] at hk; subst hk; exact h.blk.fgn (by decide))⟩, h.wge, h.hge⟩
theorem Ws.wb_foot (s : Ws) : s.wb ∈ s.foot := List.mem_cons_self
theorem Ws.hb_foot (s : Ws) : s.hb ∈ s.foot := List.mem_cons_of_mem _ List.mem_cons_self
set_option maxRecDepth 100000 in
set_option maxHeartbeats 8000000 in
theorem oth_stop (c : Cc) (w0 w : World) (s : Ws) (h : Hw w0 w s) (hh : c.handler = stopB) :
    Calls Tryz.prog 67 #[.pointer (some ⟨s.wb, 0, none⟩), .agg c.cells.toArray] w (HQ s.foot (fun W => Hw w0 W { s with stop := true }) 200 [] ⟨#[115, 116, 111, 112, 112, 105, 110, 103]⟩ false w) := by
  have HH := Hd.mk h
  have HS := Hd.mk (AnsW.start c h)
  clear h
  obtain ⟨mm, tg, fl, bo, cs, cn, sq, vr, hd, pr, aw, fd, tk⟩ := c
  simp only at hh
  subst hh
  simp only [Cc.cells] at *
  have D1 := HS.out.c
  simp only [Cc.cells] at D1
  have c0 := D1.cell 0
  have c1 := D1.cell 1
  have c2 := D1.cell 2
  have c3 := D1.cell 3
  have c4 := D1.cell 4
  have c5 := D1.cell 5
  have c6 := D1.cell 6
  have c7 := D1.cell 7
  have c8 := D1.cell 8
  have c9 := D1.cell 9
  have c10 := D1.cell 10
  have c11 := D1.cell 11
  have c12 := D1.cell 12
  simp only [List.getElem?_cons_zero, List.getElem?_cons_succ] at c0 c1 c2 c3 c4 c5 c6 c7 c8 c9 c10 c11 c12
  clear D1
  unfold stopB at *
  go_enter Tryz.func67, Tryz.ntmps67
  go_upto_region 16 with (fail)
  clear c0 c1 c2 c3 c4 c5 c6 c7 c8 c9 c10 c11 c12
  obtain ⟨cc, hcc⟩ : ∃ cc : Cc, cc = ⟨mm, tg, fl, bo, cs, cn, sq, vr, ⟨#[115, 104, 117, 116, 100, 111, 119, 110]⟩, pr, aw, fd, tk⟩ := ⟨_, rfl⟩
  have HCC := Hd.mk (show cc.cells = [.string mm, .string tg, fl, .string bo, .bool cs, .int .i64 cn, .int .i64 sq, .int .i64 vr, .string ⟨#[115, 104, 117, 116, 100, 111, 119, 110]⟩, pr, aw, .bool fd, .string tk] by rw [hcc]; rfl)
  refine wp_abs (AnsW w0 w s w.heap.size (w.heap.size + 1) cc) (by rw [hcc]; exact HS.out) ?_
  obtain ⟨x2, hx2⟩ : ∃ x, w.heap.size + 1 = x := ⟨_, rfl⟩
  obtain ⟨x1, hx1⟩ : ∃ x, w.heap.size = x := ⟨_, rfl⟩
  rw [hx2, hx1]
  have HX := Hd.mk (And.intro hx1 hx2)
  clear hx1 hx2 hcc HS
  intro w2 hw2
  have HS := Hd.mk hw2
  clear hw2
  have f0 := HS.out.h.blk.free 3
  have e0 : w2.cell? ⟨s.wb, 3, none⟩ = some (.bool s.stop) := HS.out.h.blk.cell 3
  have H2 := Hd.mk (HS.out.h.stopped true)
  have U2 := Hd.mk ((HS.out.u.mono (by simp) : Upd s.foot w w2).set ⟨s.wb, 3, none⟩ (.bool true) (fun _ => s.wb_foot))
  have R2 := Hd.mk (HS.out.r.set_ne ⟨s.wb, 3, none⟩ (.bool true) (fun e => by have h2 := HS.out.r; simp only at e; (first | rw [e] at h2 | rw [← e] at h2); exact absurd (h2.uniq HS.out.h.blk).2 (by decide)))
  go_upto_region 17 with (fail)
  generalize w2.setCell ⟨s.wb, 3, none⟩ (.bool true) = w3 at *
  clear f0 e0
  go_wp2_with fail
  refine (hplain_ok 200 _ w3).mono ?_
  rintro e w4 ⟨rfl, u4⟩
  have HQ := Hd.mk (And.intro (u4.blk R2.out (by simp)) (And.intro (U2.out.trans u4 (by simp)) (H2.out.up u4)))
  have dd := HQ.out.1
  clear u4
  unfold zR at dd
  have d0 := dd.cell 0
  have d1 := dd.cell 1
  have d2 := dd.cell 2
  have d3 := dd.cell 3
  simp only [List.getElem?_cons_zero, List.getElem?_cons_succ] at d0 d1 d2 d3
  have f0 := dd.free 0
  have f1 := dd.free 1
  have f2 := dd.free 2
  have f3 := dd.free 3
  clear dd
  simp only [Pc]
  go_wp2_with fail
  exact bodyPost_ret (results_cell _ _ _ 4 40 x2 (Pc 200 none 0 0 ⟨#[115, 116, 111, 112, 112, 105, 110, 103]⟩ false) 40 rfl rfl (HQ.out.1.set4 rfl _ _ _ _) (by kernel_rfl) (by kernel_rfl)) rfl (ans_end (s' := { s with stop := true }) HH.out.upd0 HQ.out.2.2 HQ.out.1 (by have := HX.out.1; have := HX.out.2; omega) HQ.out.2.1 (RfB.nil _ none) _ 0 _ false)
set_option maxRecDepth 100000 in
set_option maxHeartbeats 8000000 in
theorem ans_oth_walk (c : Cc) (ow : Int) (K : World → Prop) (k : Int) (bd : ByteArray) (w0 w : World) (s : Ws) (h : Hw w0 w s) (hh : c.handler = walkB) (hK : Keeps w K)
    (hin : ∀ W, Upd [] w W → Hw w0 W s → Calls Tryz.prog 67 #[.pointer (some ⟨s.wb, 0, none⟩), .agg c.cells.toArray] W (HQ s.foot K k [] bd false W)) :
    Calls Tryz.prog 38 #[.pointer (some ⟨s.wb, 0, none⟩), .agg c.cells.toArray, .int .i64 ow] w (HQ s.foot K k [] bd false w) := by
  have HLT := Hd.mk h.lt
  have HS := Hd.mk (AnsW.start c h)
  have HI := Hd.mk hin
  have HK := Hd.mk hK
  clear h hin hK
  obtain ⟨mm, tg, fl, bo, cs, cn, sq, vr, hd, pr, aw, fd, tk⟩ := c
  simp only at hh
  subst hh
  simp only [Cc.cells] at *
  have D1 := HS.out.c
  simp only [Cc.cells] at D1
  have c0 := D1.cell 0
  have c1 := D1.cell 1
  have c2 := D1.cell 2
  have c3 := D1.cell 3
  have c4 := D1.cell 4
  have c5 := D1.cell 5
  have c6 := D1.cell 6
  have c7 := D1.cell 7
  have c8 := D1.cell 8
  have c9 := D1.cell 9
  have c10 := D1.cell 10
  have c11 := D1.cell 11
  have c12 := D1.cell 12
  simp only [List.getElem?_cons_zero, List.getElem?_cons_succ] at c0 c1 c2 c3 c4 c5 c6 c7 c8 c9 c10 c11 c12
  clear D1
  unfold walkB at *
  go_enter Tryz.func38, Tryz.ntmps38
  go_upto_region 26 with (fail)
  clear c0 c1 c2 c3 c4 c5 c6 c7 c8 c9 c10 c11 c12
  obtain ⟨cc, hcc⟩ : ∃ cc : Cc, cc = ⟨mm, tg, fl, bo, cs, cn, sq, vr, ⟨#[119, 97, 108, 107]⟩, pr, aw, fd, tk⟩ := ⟨_, rfl⟩
  have HCC := Hd.mk (show cc.cells = [.string mm, .string tg, fl, .string bo, .bool cs, .int .i64 cn, .int .i64 sq, .int .i64 vr, .string ⟨#[119, 97, 108, 107]⟩, pr, aw, .bool fd, .string tk] by rw [hcc]; rfl)
  refine wp_abs (AnsW w0 w s w.heap.size (w.heap.size + 1) cc) (by rw [hcc]; exact HS.out) ?_
  obtain ⟨x2, hx2⟩ : ∃ x, w.heap.size + 1 = x := ⟨_, rfl⟩
  obtain ⟨x1, hx1⟩ : ∃ x, w.heap.size = x := ⟨_, rfl⟩
  rw [hx2, hx1]
  have HX := Hd.mk (And.intro hx1 hx2)
  clear hx1 hx2 hcc HS
  intro w2 hw2
  have HS := Hd.mk hw2
  clear hw2
  have c0 : (w2).cell? ⟨x1, 0, none⟩ = some (.string mm) := (HS.out.c.cell 0).trans (by rw [HCC.out]; rfl)
  have c1 : (w2).cell? ⟨x1, 1, none⟩ = some (.string tg) := (HS.out.c.cell 1).trans (by rw [HCC.out]; rfl)
  have c2 : (w2).cell? ⟨x1, 2, none⟩ = some (fl) := (HS.out.c.cell 2).trans (by rw [HCC.out]; rfl)
  have c3 : (w2).cell? ⟨x1, 3, none⟩ = some (.string bo) := (HS.out.c.cell 3).trans (by rw [HCC.out]; rfl)
  have c4 : (w2).cell? ⟨x1, 4, none⟩ = some (.bool cs) := (HS.out.c.cell 4).trans (by rw [HCC.out]; rfl)
  have c5 : (w2).cell? ⟨x1, 5, none⟩ = some (.int .i64 cn) := (HS.out.c.cell 5).trans (by rw [HCC.out]; rfl)
  have c6 : (w2).cell? ⟨x1, 6, none⟩ = some (.int .i64 sq) := (HS.out.c.cell 6).trans (by rw [HCC.out]; rfl)
  have c7 : (w2).cell? ⟨x1, 7, none⟩ = some (.int .i64 vr) := (HS.out.c.cell 7).trans (by rw [HCC.out]; rfl)
  have c8 : (w2).cell? ⟨x1, 8, none⟩ = some (.string ⟨#[119, 97, 108, 107]⟩) := (HS.out.c.cell 8).trans (by rw [HCC.out]; rfl)
  have c9 : (w2).cell? ⟨x1, 9, none⟩ = some (pr) := (HS.out.c.cell 9).trans (by rw [HCC.out]; rfl)
  have c10 : (w2).cell? ⟨x1, 10, none⟩ = some (aw) := (HS.out.c.cell 10).trans (by rw [HCC.out]; rfl)
  have c11 : (w2).cell? ⟨x1, 11, none⟩ = some (.bool fd) := (HS.out.c.cell 11).trans (by rw [HCC.out]; rfl)
  have c12 : (w2).cell? ⟨x1, 12, none⟩ = some (.string tk) := (HS.out.c.cell 12).trans (by rw [HCC.out]; rfl)
  go_wp2_with fail
  refine (HI.out _ HS.out.u HS.out.h).mono ?_
  rintro e w3 ⟨a, cap, rfl, hrf, hk, hu⟩
  have hx : x2 ∉ s.foot := fun hm => by have := HLT.out _ hm; have := HX.out.1; have := HX.out.2; omega
  have HQ := Hd.mk (And.intro (hu.blk HS.out.r hx) (And.intro hrf (And.intro hk ((HS.out.u.mono (by simp) : Upd s.foot w w2).trans hu (fun _ _ h => h)))))
  have dd := HQ.out.1
  clear hu hrf hk hx c0 c1 c2 c3 c4 c5 c6 c7 c8 c9 c10 c11 c12
  unfold zR at dd
  have d0 := dd.cell 0
  have d1 := dd.cell 1
  have d2 := dd.cell 2
  have d3 := dd.cell 3
  simp only [List.getElem?_cons_zero, List.getElem?_cons_succ] at d0 d1 d2 d3
  have f0 := dd.free 0
  have f1 := dd.free 1
  have f2 := dd.free 2
  have f3 := dd.free 3
  clear dd
  simp only [Pc]
  go_wp2_with fail
  exact bodyPost_ret (results_cell _ _ _ 6 40 x2 (Pc k a _ cap bd false) 40 rfl rfl (HQ.out.1.set4 rfl _ _ _ _) (by kernel_rfl) (by kernel_rfl)) rfl ⟨a, cap, rfl, pass_end HK.out HQ.out.2.2.1 HQ.out.2.1 HQ.out.1 (by have := HX.out.1; have := HX.out.2; omega) HQ.out.2.2.2 _ _ _ _⟩
set_option maxRecDepth 100000 in
set_option maxHeartbeats 8000000 in
theorem ans_oth_reload (c : Cc) (ow : Int) (K : World → Prop) (k : Int) (bd : ByteArray) (w0 w : World) (s : Ws) (h : Hw w0 w s) (hh : c.handler = reloadB) (hK : Keeps w K)
    (hin : ∀ W, Upd [] w W → Hw w0 W s → Calls Tryz.prog 67 #[.pointer (some ⟨s.wb, 0, none⟩), .agg c.cells.toArray] W (HQ s.foot K k [] bd false W)) :
    Calls Tryz.prog 38 #[.pointer (some ⟨s.wb, 0, none⟩), .agg c.cells.toArray, .int .i64 ow] w (HQ s.foot K k [] bd false w) := by
  have HLT := Hd.mk h.lt
  have HS := Hd.mk (AnsW.start c h)
  have HI := Hd.mk hin
  have HK := Hd.mk hK
  clear h hin hK
  obtain ⟨mm, tg, fl, bo, cs, cn, sq, vr, hd, pr, aw, fd, tk⟩ := c
  simp only at hh
  subst hh
  simp only [Cc.cells] at *
  have D1 := HS.out.c
  simp only [Cc.cells] at D1
  have c0 := D1.cell 0
  have c1 := D1.cell 1
  have c2 := D1.cell 2
  have c3 := D1.cell 3
  have c4 := D1.cell 4
  have c5 := D1.cell 5
  have c6 := D1.cell 6
  have c7 := D1.cell 7
  have c8 := D1.cell 8
  have c9 := D1.cell 9
  have c10 := D1.cell 10
  have c11 := D1.cell 11
  have c12 := D1.cell 12
  simp only [List.getElem?_cons_zero, List.getElem?_cons_succ] at c0 c1 c2 c3 c4 c5 c6 c7 c8 c9 c10 c11 c12
  clear D1
  unfold reloadB at *
  go_enter Tryz.func38, Tryz.ntmps38
  go_upto_region 26 with (fail)
  clear c0 c1 c2 c3 c4 c5 c6 c7 c8 c9 c10 c11 c12
  obtain ⟨cc, hcc⟩ : ∃ cc : Cc, cc = ⟨mm, tg, fl, bo, cs, cn, sq, vr, ⟨#[114, 101, 108, 111, 97, 100]⟩, pr, aw, fd, tk⟩ := ⟨_, rfl⟩
  have HCC := Hd.mk (show cc.cells = [.string mm, .string tg, fl, .string bo, .bool cs, .int .i64 cn, .int .i64 sq, .int .i64 vr, .string ⟨#[114, 101, 108, 111, 97, 100]⟩, pr, aw, .bool fd, .string tk] by rw [hcc]; rfl)
  refine wp_abs (AnsW w0 w s w.heap.size (w.heap.size + 1) cc) (by rw [hcc]; exact HS.out) ?_
  obtain ⟨x2, hx2⟩ : ∃ x, w.heap.size + 1 = x := ⟨_, rfl⟩
  obtain ⟨x1, hx1⟩ : ∃ x, w.heap.size = x := ⟨_, rfl⟩
  rw [hx2, hx1]
  have HX := Hd.mk (And.intro hx1 hx2)
  clear hx1 hx2 hcc HS
  intro w2 hw2
  have HS := Hd.mk hw2
  clear hw2
  have c0 : (w2).cell? ⟨x1, 0, none⟩ = some (.string mm) := (HS.out.c.cell 0).trans (by rw [HCC.out]; rfl)
  have c1 : (w2).cell? ⟨x1, 1, none⟩ = some (.string tg) := (HS.out.c.cell 1).trans (by rw [HCC.out]; rfl)
  have c2 : (w2).cell? ⟨x1, 2, none⟩ = some (fl) := (HS.out.c.cell 2).trans (by rw [HCC.out]; rfl)
  have c3 : (w2).cell? ⟨x1, 3, none⟩ = some (.string bo) := (HS.out.c.cell 3).trans (by rw [HCC.out]; rfl)
  have c4 : (w2).cell? ⟨x1, 4, none⟩ = some (.bool cs) := (HS.out.c.cell 4).trans (by rw [HCC.out]; rfl)
  have c5 : (w2).cell? ⟨x1, 5, none⟩ = some (.int .i64 cn) := (HS.out.c.cell 5).trans (by rw [HCC.out]; rfl)
  have c6 : (w2).cell? ⟨x1, 6, none⟩ = some (.int .i64 sq) := (HS.out.c.cell 6).trans (by rw [HCC.out]; rfl)
  have c7 : (w2).cell? ⟨x1, 7, none⟩ = some (.int .i64 vr) := (HS.out.c.cell 7).trans (by rw [HCC.out]; rfl)
  have c8 : (w2).cell? ⟨x1, 8, none⟩ = some (.string ⟨#[114, 101, 108, 111, 97, 100]⟩) := (HS.out.c.cell 8).trans (by rw [HCC.out]; rfl)
  have c9 : (w2).cell? ⟨x1, 9, none⟩ = some (pr) := (HS.out.c.cell 9).trans (by rw [HCC.out]; rfl)
  have c10 : (w2).cell? ⟨x1, 10, none⟩ = some (aw) := (HS.out.c.cell 10).trans (by rw [HCC.out]; rfl)
  have c11 : (w2).cell? ⟨x1, 11, none⟩ = some (.bool fd) := (HS.out.c.cell 11).trans (by rw [HCC.out]; rfl)
  have c12 : (w2).cell? ⟨x1, 12, none⟩ = some (.string tk) := (HS.out.c.cell 12).trans (by rw [HCC.out]; rfl)
  go_wp2_with fail
  refine (HI.out _ HS.out.u HS.out.h).mono ?_
  rintro e w3 ⟨a, cap, rfl, hrf, hk, hu⟩
  have hx : x2 ∉ s.foot := fun hm => by have := HLT.out _ hm; have := HX.out.1; have := HX.out.2; omega
  have HQ := Hd.mk (And.intro (hu.blk HS.out.r hx) (And.intro hrf (And.intro hk ((HS.out.u.mono (by simp) : Upd s.foot w w2).trans hu (fun _ _ h => h)))))
  have dd := HQ.out.1
  clear hu hrf hk hx c0 c1 c2 c3 c4 c5 c6 c7 c8 c9 c10 c11 c12
  unfold zR at dd
  have d0 := dd.cell 0
  have d1 := dd.cell 1
  have d2 := dd.cell 2
  have d3 := dd.cell 3
  simp only [List.getElem?_cons_zero, List.getElem?_cons_succ] at d0 d1 d2 d3
  have f0 := dd.free 0
  have f1 := dd.free 1
  have f2 := dd.free 2
  have f3 := dd.free 3
  clear dd
  simp only [Pc]
  go_wp2_with fail
  exact bodyPost_ret (results_cell _ _ _ 6 40 x2 (Pc k a _ cap bd false) 40 rfl rfl (HQ.out.1.set4 rfl _ _ _ _) (by kernel_rfl) (by kernel_rfl)) rfl ⟨a, cap, rfl, pass_end HK.out HQ.out.2.2.1 HQ.out.2.1 HQ.out.1 (by have := HX.out.1; have := HX.out.2; omega) HQ.out.2.2.2 _ _ _ _⟩
set_option maxRecDepth 100000 in
set_option maxHeartbeats 8000000 in
theorem ans_oth_stop (c : Cc) (ow : Int) (K : World → Prop) (k : Int) (bd : ByteArray) (w0 w : World) (s : Ws) (h : Hw w0 w s) (hh : c.handler = stopB) (hK : Keeps w K)
    (hin : ∀ W, Upd [] w W → Hw w0 W s → Calls Tryz.prog 67 #[.pointer (some ⟨s.wb, 0, none⟩), .agg c.cells.toArray] W (HQ s.foot K k [] bd false W)) :
    Calls Tryz.prog 38 #[.pointer (some ⟨s.wb, 0, none⟩), .agg c.cells.toArray, .int .i64 ow] w (HQ s.foot K k [] bd false w) := by
  have HLT := Hd.mk h.lt
  have HS := Hd.mk (AnsW.start c h)
  have HI := Hd.mk hin
  have HK := Hd.mk hK
  clear h hin hK
  obtain ⟨mm, tg, fl, bo, cs, cn, sq, vr, hd, pr, aw, fd, tk⟩ := c
  simp only at hh
  subst hh
  simp only [Cc.cells] at *
  have D1 := HS.out.c
  simp only [Cc.cells] at D1
  have c0 := D1.cell 0
  have c1 := D1.cell 1
  have c2 := D1.cell 2
  have c3 := D1.cell 3
  have c4 := D1.cell 4
  have c5 := D1.cell 5
  have c6 := D1.cell 6
  have c7 := D1.cell 7
  have c8 := D1.cell 8
  have c9 := D1.cell 9
  have c10 := D1.cell 10
  have c11 := D1.cell 11
  have c12 := D1.cell 12
  simp only [List.getElem?_cons_zero, List.getElem?_cons_succ] at c0 c1 c2 c3 c4 c5 c6 c7 c8 c9 c10 c11 c12
  clear D1
  unfold stopB at *
  go_enter Tryz.func38, Tryz.ntmps38
  go_upto_region 26 with (fail)
  clear c0 c1 c2 c3 c4 c5 c6 c7 c8 c9 c10 c11 c12
  obtain ⟨cc, hcc⟩ : ∃ cc : Cc, cc = ⟨mm, tg, fl, bo, cs, cn, sq, vr, ⟨#[115, 104, 117, 116, 100, 111, 119, 110]⟩, pr, aw, fd, tk⟩ := ⟨_, rfl⟩
  have HCC := Hd.mk (show cc.cells = [.string mm, .string tg, fl, .string bo, .bool cs, .int .i64 cn, .int .i64 sq, .int .i64 vr, .string ⟨#[115, 104, 117, 116, 100, 111, 119, 110]⟩, pr, aw, .bool fd, .string tk] by rw [hcc]; rfl)
  refine wp_abs (AnsW w0 w s w.heap.size (w.heap.size + 1) cc) (by rw [hcc]; exact HS.out) ?_
  obtain ⟨x2, hx2⟩ : ∃ x, w.heap.size + 1 = x := ⟨_, rfl⟩
  obtain ⟨x1, hx1⟩ : ∃ x, w.heap.size = x := ⟨_, rfl⟩
  rw [hx2, hx1]
  have HX := Hd.mk (And.intro hx1 hx2)
  clear hx1 hx2 hcc HS
  intro w2 hw2
  have HS := Hd.mk hw2
  clear hw2
  have c0 : (w2).cell? ⟨x1, 0, none⟩ = some (.string mm) := (HS.out.c.cell 0).trans (by rw [HCC.out]; rfl)
  have c1 : (w2).cell? ⟨x1, 1, none⟩ = some (.string tg) := (HS.out.c.cell 1).trans (by rw [HCC.out]; rfl)
  have c2 : (w2).cell? ⟨x1, 2, none⟩ = some (fl) := (HS.out.c.cell 2).trans (by rw [HCC.out]; rfl)
  have c3 : (w2).cell? ⟨x1, 3, none⟩ = some (.string bo) := (HS.out.c.cell 3).trans (by rw [HCC.out]; rfl)
  have c4 : (w2).cell? ⟨x1, 4, none⟩ = some (.bool cs) := (HS.out.c.cell 4).trans (by rw [HCC.out]; rfl)
  have c5 : (w2).cell? ⟨x1, 5, none⟩ = some (.int .i64 cn) := (HS.out.c.cell 5).trans (by rw [HCC.out]; rfl)
  have c6 : (w2).cell? ⟨x1, 6, none⟩ = some (.int .i64 sq) := (HS.out.c.cell 6).trans (by rw [HCC.out]; rfl)
  have c7 : (w2).cell? ⟨x1, 7, none⟩ = some (.int .i64 vr) := (HS.out.c.cell 7).trans (by rw [HCC.out]; rfl)
  have c8 : (w2).cell? ⟨x1, 8, none⟩ = some (.string ⟨#[115, 104, 117, 116, 100, 111, 119, 110]⟩) := (HS.out.c.cell 8).trans (by rw [HCC.out]; rfl)
  have c9 : (w2).cell? ⟨x1, 9, none⟩ = some (pr) := (HS.out.c.cell 9).trans (by rw [HCC.out]; rfl)
  have c10 : (w2).cell? ⟨x1, 10, none⟩ = some (aw) := (HS.out.c.cell 10).trans (by rw [HCC.out]; rfl)
  have c11 : (w2).cell? ⟨x1, 11, none⟩ = some (.bool fd) := (HS.out.c.cell 11).trans (by rw [HCC.out]; rfl)
  have c12 : (w2).cell? ⟨x1, 12, none⟩ = some (.string tk) := (HS.out.c.cell 12).trans (by rw [HCC.out]; rfl)
  go_wp2_with fail
  refine (HI.out _ HS.out.u HS.out.h).mono ?_
  rintro e w3 ⟨a, cap, rfl, hrf, hk, hu⟩
  have hx : x2 ∉ s.foot := fun hm => by have := HLT.out _ hm; have := HX.out.1; have := HX.out.2; omega
  have HQ := Hd.mk (And.intro (hu.blk HS.out.r hx) (And.intro hrf (And.intro hk ((HS.out.u.mono (by simp) : Upd s.foot w w2).trans hu (fun _ _ h => h)))))
  have dd := HQ.out.1
  clear hu hrf hk hx c0 c1 c2 c3 c4 c5 c6 c7 c8 c9 c10 c11 c12
  unfold zR at dd
  have d0 := dd.cell 0
  have d1 := dd.cell 1
  have d2 := dd.cell 2
  have d3 := dd.cell 3
  simp only [List.getElem?_cons_zero, List.getElem?_cons_succ] at d0 d1 d2 d3
  have f0 := dd.free 0
  have f1 := dd.free 1
  have f2 := dd.free 2
  have f3 := dd.free 3
  clear dd
  simp only [Pc]
  go_wp2_with fail
  exact bodyPost_ret (results_cell _ _ _ 6 40 x2 (Pc k a _ cap bd false) 40 rfl rfl (HQ.out.1.set4 rfl _ _ _ _) (by kernel_rfl) (by kernel_rfl)) rfl ⟨a, cap, rfl, pass_end HK.out HQ.out.2.2.1 HQ.out.2.1 HQ.out.1 (by have := HX.out.1; have := HX.out.2; omega) HQ.out.2.2.2 _ _ _ _⟩
set_option maxRecDepth 100000 in
set_option maxHeartbeats 8000000 in
theorem ans_oth_health (c : Cc) (ow : Int) (K : World → Prop) (k : Int) (bd : ByteArray) (w0 w : World) (s : Ws) (h : Hw w0 w s) (hh : c.handler = healthB) (hK : Keeps w K)
    (hin : ∀ W, Upd [] w W → Hw w0 W s → Calls Tryz.prog 67 #[.pointer (some ⟨s.wb, 0, none⟩), .agg c.cells.toArray] W (HQ s.foot K k [] bd false W)) :
    Calls Tryz.prog 38 #[.pointer (some ⟨s.wb, 0, none⟩), .agg c.cells.toArray, .int .i64 ow] w (HQ s.foot K k [] bd false w) := by
  have HLT := Hd.mk h.lt
  have HS := Hd.mk (AnsW.start c h)
  have HI := Hd.mk hin
  have HK := Hd.mk hK
  clear h hin hK
  obtain ⟨mm, tg, fl, bo, cs, cn, sq, vr, hd, pr, aw, fd, tk⟩ := c
  simp only at hh
  subst hh
  simp only [Cc.cells] at *
  have D1 := HS.out.c
  simp only [Cc.cells] at D1
  have c0 := D1.cell 0
  have c1 := D1.cell 1
  have c2 := D1.cell 2
  have c3 := D1.cell 3
  have c4 := D1.cell 4
  have c5 := D1.cell 5
  have c6 := D1.cell 6
  have c7 := D1.cell 7
  have c8 := D1.cell 8
  have c9 := D1.cell 9
  have c10 := D1.cell 10
  have c11 := D1.cell 11
  have c12 := D1.cell 12
  simp only [List.getElem?_cons_zero, List.getElem?_cons_succ] at c0 c1 c2 c3 c4 c5 c6 c7 c8 c9 c10 c11 c12
  clear D1
  unfold healthB at *
  go_enter Tryz.func38, Tryz.ntmps38
  go_upto_region 26 with (fail)
  clear c0 c1 c2 c3 c4 c5 c6 c7 c8 c9 c10 c11 c12
  obtain ⟨cc, hcc⟩ : ∃ cc : Cc, cc = ⟨mm, tg, fl, bo, cs, cn, sq, vr, ⟨#[104, 101, 97, 108, 116, 104]⟩, pr, aw, fd, tk⟩ := ⟨_, rfl⟩
  have HCC := Hd.mk (show cc.cells = [.string mm, .string tg, fl, .string bo, .bool cs, .int .i64 cn, .int .i64 sq, .int .i64 vr, .string ⟨#[104, 101, 97, 108, 116, 104]⟩, pr, aw, .bool fd, .string tk] by rw [hcc]; rfl)
  refine wp_abs (AnsW w0 w s w.heap.size (w.heap.size + 1) cc) (by rw [hcc]; exact HS.out) ?_
  obtain ⟨x2, hx2⟩ : ∃ x, w.heap.size + 1 = x := ⟨_, rfl⟩
  obtain ⟨x1, hx1⟩ : ∃ x, w.heap.size = x := ⟨_, rfl⟩
  rw [hx2, hx1]
  have HX := Hd.mk (And.intro hx1 hx2)
  clear hx1 hx2 hcc HS
  intro w2 hw2
  have HS := Hd.mk hw2
  clear hw2
  have c0 : (w2).cell? ⟨x1, 0, none⟩ = some (.string mm) := (HS.out.c.cell 0).trans (by rw [HCC.out]; rfl)
  have c1 : (w2).cell? ⟨x1, 1, none⟩ = some (.string tg) := (HS.out.c.cell 1).trans (by rw [HCC.out]; rfl)
  have c2 : (w2).cell? ⟨x1, 2, none⟩ = some (fl) := (HS.out.c.cell 2).trans (by rw [HCC.out]; rfl)
  have c3 : (w2).cell? ⟨x1, 3, none⟩ = some (.string bo) := (HS.out.c.cell 3).trans (by rw [HCC.out]; rfl)
  have c4 : (w2).cell? ⟨x1, 4, none⟩ = some (.bool cs) := (HS.out.c.cell 4).trans (by rw [HCC.out]; rfl)
  have c5 : (w2).cell? ⟨x1, 5, none⟩ = some (.int .i64 cn) := (HS.out.c.cell 5).trans (by rw [HCC.out]; rfl)
  have c6 : (w2).cell? ⟨x1, 6, none⟩ = some (.int .i64 sq) := (HS.out.c.cell 6).trans (by rw [HCC.out]; rfl)
  have c7 : (w2).cell? ⟨x1, 7, none⟩ = some (.int .i64 vr) := (HS.out.c.cell 7).trans (by rw [HCC.out]; rfl)
  have c8 : (w2).cell? ⟨x1, 8, none⟩ = some (.string ⟨#[104, 101, 97, 108, 116, 104]⟩) := (HS.out.c.cell 8).trans (by rw [HCC.out]; rfl)
  have c9 : (w2).cell? ⟨x1, 9, none⟩ = some (pr) := (HS.out.c.cell 9).trans (by rw [HCC.out]; rfl)
  have c10 : (w2).cell? ⟨x1, 10, none⟩ = some (aw) := (HS.out.c.cell 10).trans (by rw [HCC.out]; rfl)
  have c11 : (w2).cell? ⟨x1, 11, none⟩ = some (.bool fd) := (HS.out.c.cell 11).trans (by rw [HCC.out]; rfl)
  have c12 : (w2).cell? ⟨x1, 12, none⟩ = some (.string tk) := (HS.out.c.cell 12).trans (by rw [HCC.out]; rfl)
  go_wp2_with fail
  refine (HI.out _ HS.out.u HS.out.h).mono ?_
  rintro e w3 ⟨a, cap, rfl, hrf, hk, hu⟩
  have hx : x2 ∉ s.foot := fun hm => by have := HLT.out _ hm; have := HX.out.1; have := HX.out.2; omega
  have HQ := Hd.mk (And.intro (hu.blk HS.out.r hx) (And.intro hrf (And.intro hk ((HS.out.u.mono (by simp) : Upd s.foot w w2).trans hu (fun _ _ h => h)))))
  have dd := HQ.out.1
  clear hu hrf hk hx c0 c1 c2 c3 c4 c5 c6 c7 c8 c9 c10 c11 c12
  unfold zR at dd
  have d0 := dd.cell 0
  have d1 := dd.cell 1
  have d2 := dd.cell 2
  have d3 := dd.cell 3
  simp only [List.getElem?_cons_zero, List.getElem?_cons_succ] at d0 d1 d2 d3
  have f0 := dd.free 0
  have f1 := dd.free 1
  have f2 := dd.free 2
  have f3 := dd.free 3
  clear dd
  simp only [Pc]
  go_wp2_with fail
  exact bodyPost_ret (results_cell _ _ _ 6 40 x2 (Pc k a _ cap bd false) 40 rfl rfl (HQ.out.1.set4 rfl _ _ _ _) (by kernel_rfl) (by kernel_rfl)) rfl ⟨a, cap, rfl, pass_end HK.out HQ.out.2.2.1 HQ.out.2.1 HQ.out.1 (by have := HX.out.1; have := HX.out.2; omega) HQ.out.2.2.2 _ _ _ _⟩
end Go.Proofs.YtndlbkiogagnaaaGreatDoor
