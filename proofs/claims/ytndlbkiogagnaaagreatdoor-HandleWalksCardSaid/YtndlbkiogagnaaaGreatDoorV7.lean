/- Tries: a route more. -/
import Derived.Test.YtndlbkiogagnaaaGreatDoorV6
import Derived.Test.YtndlbkiogagnaaaGreatDoorApf
import Derived.Shelf.Abstract
namespace Go.Proofs.YtndlbkiogagnaaaGreatDoor
set_option linter.unusedSimpArgs false
set_option linter.unusedVariables false
set_option linter.unnecessarySimpa false
open Go.RowKit BigFrame

theorem Bd.step {N : Nat} {n : T} (h : Bd N n) (s : Bs) : Bd N (step n s) := fun pat hp => by
  have := h (.word s :: pat) hp
  rwa [den] at this
theorem Bd.pa {N : Nat} {n : T} (h : Bd N n) : Bd N n.pa := fun pat hp => by
  have := h (.any :: pat) hp
  rwa [den] at this
theorem Bd.en {N : Nat} {n : T} (h : Bd N n) : n.en.length ≤ N := by
  have := h [] trivial
  rwa [den] at this
theorem Bd.re {N : Nat} {n : T} (h : Bd N n) : n.re.en.length ≤ N := by
  have := h [.all] (rfl : ([] : List Sg) = [])
  rwa [den] at this
theorem enters (g : Nat) (fn : Func) (c : Code) (hf : Tryz.prog.funcs[g]? = some fn) (hn : (fn.name == "runtime.NumGoroutine") = false) (hb : fn.body = some c) : ∀ (args : Array Value) (W : World), (callFunc g args).run Tryz.prog W = .ok (.enter g args) W := enters_of hf hn hb
theorem kind_ok (s : Bs) (w : World) : Calls Tryz.prog 88 #[S s] w fun e w' => e = .returned (.int .i64 (kindL s)) ∧ Upd [] w w' := by
  unfold S
  cases s with
  | nil =>
    go_enter Tryz.func88, Tryz.ntmps88
    go_wp2_with fail
    go_ret
    exact ⟨rfl, Upd.refl _ _⟩
  | cons c l =>
    have y := str_ne0 (a := ⟨(c :: l).toArray⟩) (fun e => by have := congrArg (fun t : ByteArray => t.data.toList) e; simp at this)
    have hz : 0 < (⟨(c :: l).toArray⟩ : ByteArray).size := by show 0 < (c :: l).toArray.size; simp
    obtain ⟨sb, hsb⟩ : ∃ sb : ByteArray, (⟨(c :: l).toArray⟩ : ByteArray) = sb := ⟨_, rfl⟩
    have h0 : ∀ h : 0 < sb.size, sb[0] = c := by subst hsb; exact fun _ => rfl
    rw [hsb] at y hz ⊢
    clear hsb
    have h1 := h0 hz
    clear h0
    have HK := Hd.mk (show (kindL (c :: l) : Int) = if c.toNat = 58 then 1 else if c.toNat = 42 then 2 else 0 by
      show ((if c = 58 then 1 else if c = 42 then 2 else 0 : Nat) : Int) = _
      by_cases e : c = 58
      · subst e; rfl
      · have e' : ¬ c.toNat = 58 := fun q => e (UInt8.toNat_inj.1 q)
        rw [if_neg e, if_neg e']
        by_cases e2 : c = 42
        · subst e2; rfl
        · have e2' : ¬ c.toNat = 42 := fun q => e2 (UInt8.toNat_inj.1 q)
          rw [if_neg e2, if_neg e2']; rfl)
    by_cases k1 : c.toNat = 58
    · have d1 : ((c.toNat : Int) == 58) = true := by rw [k1]; rfl
      rw [if_pos k1] at HK
      rw [HK.out]
      clear k1
      go_enter Tryz.func88, Tryz.ntmps88
      go_wp2_with fail
      go_ret
      exact ⟨rfl, Upd.refl _ _⟩
    · have d1 : ((c.toNat : Int) == 58) = false := by rw [beq_eq_false_iff_ne]; omega
      rw [if_neg k1] at HK
      by_cases k2 : c.toNat = 42
      · have d2 : ((c.toNat : Int) == 42) = true := by rw [k2]; rfl
        rw [if_pos k2] at HK
        rw [HK.out]
        clear k1 k2
        go_enter Tryz.func88, Tryz.ntmps88
        go_wp2_with fail
        go_ret
        exact ⟨rfl, Upd.refl _ _⟩
      · have d2 : ((c.toNat : Int) == 42) = false := by rw [beq_eq_false_iff_ne]; omega
        rw [if_neg k2] at HK
        rw [HK.out]
        clear k1 k2
        go_enter Tryz.func88, Tryz.ntmps88
        go_wp2_with fail
        go_ret
        exact ⟨rfl, Upd.refl _ _⟩
/-- A copied node with a route more. -/
theorem Cpy.ends {w w1 w2 w3 : World} {X : Nat → Prop} {x : Nat} {n : T} {ev nv pv rv sv sv' : Value} {k : Nat} {cs : List Value} (h : Cpy w w1 X x n ev nv pv rv sv k cs) (hX : ∀ k, X k → k < w.heap.size) (hu : Upd [] w1 w2) (r : Rt)
    (hs : Sl w3 90 3 sv' (n.en.length + 1) (n.en.flatMap Rt.cells ++ r.cells)) (hu3 : Upd [] w2 w3) (ho : ∀ k, k ∈ ownB sv' → w2.heap.size ≤ k) :
    NdV (w3.setCell ⟨x, 4, none⟩ sv') X (endT n r) (.pointer (some ⟨x, 0, none⟩)) ∧ Upd [] w (w3.setCell ⟨x, 4, none⟩ sv') := by
  have hn := h.new
  have h13 : Upd [] w1 w3 := hu.trans hu3 (by simp)
  have b3 := h13.blk h.blk (by simp)
  have u0 : Upd [] w w3 := h.es.upd.trans h13 (by simp)
  have u1 : Upd [] w (w3.setCell ⟨x, 4, none⟩ sv') := u0.set _ _ (by simp; omega)
  have u3 : Upd [x] w3 (w3.setCell ⟨x, 4, none⟩ sv') := (Upd.refl _ _).set _ _ (by simp)
  have hne : ∀ q, q ∈ ownB ev → q ∉ [x] := fun q hq e => by
    rw [List.mem_singleton] at e
    subst e
    exact h.es.sl.other (t := 164) (by decide) _ hq _ h.blk
  unfold endT
  refine ⟨NdV.mk (b3.set 4 sv') (fun e => by have := hX x e; omega) ((h.es.sl.upd h13 (by simp)).upd u3 hne) (fun q hq e => by have := h.es.own q hq; have := hX q e; omega) (h.ed.upd u1) (h.nx.upd u1) (h.pa.upd u1) (h.re.upd u1) ?_ (fun q hq e => ?_), u1⟩
  · rw [List.length_append, List.flatMap_append]
    simp only [List.length_cons, List.length_nil, List.flatMap_cons, List.flatMap_nil, List.append_nil, Nat.zero_add]
    refine hs.upd u3 (fun q hq e => ?_)
    rw [List.mem_singleton] at e
    subst e
    have := ho _ hq
    have := h.blk.lt
    have := hu.size
    omega
  · have := ho q hq
    have := hX q e
    have := h.es.upd.size
    have := hu.size
    omega
/-- A copied node whose param (2), or rest (3), is another one. -/
theorem Cpy.param {w w1 w2 : World} {X : Nat → Prop} {x : Nat} {n m : T} {ev nv pv rv sv p : Value} {k : Nat} {cs : List Value} (h : Cpy w w1 X x n ev nv pv rv sv k cs) (hX : ∀ k, X k → k < w.heap.size) (hu : Upd [] w1 w2) (hp : NdV w2 (fun k => X k ∨ k = x) m p) :
    NdV (w2.setCell ⟨x, 2, none⟩ p) X (.node n.es n.nx m n.re n.en) (.pointer (some ⟨x, 0, none⟩)) ∧ Upd [] w (w2.setCell ⟨x, 2, none⟩ p) := by
  have b2 := hu.blk h.blk (by simp)
  have u0 : Upd [] w w2 := h.es.upd.trans hu (by simp)
  have u1 : Upd [] w (w2.setCell ⟨x, 2, none⟩ p) := u0.set _ _ (by have := h.new; simp; omega)
  have u2 : Upd [x] w2 (w2.setCell ⟨x, 2, none⟩ p) := (Upd.refl _ _).set _ _ (by simp)
  have hn := h.new
  refine ⟨NdV.mk (b2.set 2 p) (fun e => by have := hX x e; omega) ((h.es.sl.upd hu (by simp)).upd u2 (fun q hq e => by
      rw [List.mem_singleton] at e
      subst e
      exact (h.es.sl.upd hu (by simp)).other (t := 164) (by decide) _ hq _ b2)) (fun q hq e => by have := h.es.own q hq; have := hX q e; omega) (h.ed.upd u1) (h.nx.upd u1) (hp.move u2 (by simp) (fun q hq => .inl (.inl hq))) (h.re.upd u1) (h.en.sl.upd u1 (by simp)) h.en.av, u1⟩
theorem Cpy.rest {w w1 w2 : World} {X : Nat → Prop} {x : Nat} {n m : T} {ev nv pv rv sv p : Value} {k : Nat} {cs : List Value} (h : Cpy w w1 X x n ev nv pv rv sv k cs) (hX : ∀ k, X k → k < w.heap.size) (hu : Upd [] w1 w2) (hp : NdV w2 (fun k => X k ∨ k = x) m p) :
    NdV (w2.setCell ⟨x, 3, none⟩ p) X (.node n.es n.nx n.pa m n.en) (.pointer (some ⟨x, 0, none⟩)) ∧ Upd [] w (w2.setCell ⟨x, 3, none⟩ p) := by
  have b2 := hu.blk h.blk (by simp)
  have u0 : Upd [] w w2 := h.es.upd.trans hu (by simp)
  have u1 : Upd [] w (w2.setCell ⟨x, 3, none⟩ p) := u0.set _ _ (by have := h.new; simp; omega)
  have u2 : Upd [x] w2 (w2.setCell ⟨x, 3, none⟩ p) := (Upd.refl _ _).set _ _ (by simp)
  have hn := h.new
  refine ⟨NdV.mk (b2.set 3 p) (fun e => by have := hX x e; omega) ((h.es.sl.upd hu (by simp)).upd u2 (fun q hq e => by
      rw [List.mem_singleton] at e
      subst e
      exact (h.es.sl.upd hu (by simp)).other (t := 164) (by decide) _ hq _ b2)) (fun q hq e => by have := h.es.own q hq; have := hX q e; omega) (h.ed.upd u1) (h.nx.upd u1) (h.pa.upd u1) (hp.move u2 (by simp) (fun q hq => .inl (.inl hq))) (h.en.sl.upd u1 (by simp)) h.en.av, u1⟩
/-- What put says of itself. -/
def PutC (N : Nat) (l : List Bs) (r : Rt) : Prop := ∀ (X : Nat → Prop) (n : T) (v lv : Value) (w : World), (∀ k, X k → k < w.heap.size) → NdV w X n v → Ok n → Bd N n → Sl w 9 1 lv l.length (l.map S) →
  Calls Tryz.prog 122 #[v, lv, .agg r.cells.toArray] w (NdQ w X (putT n l r))
set_option maxHeartbeats 1000000 in
theorem on_ok (N : Nat) (x : Bs) (l : List Bs) (r : Rt) (hl : l.length ≤ 1000000) (ih : PutC N l r) (lv : Value) (lb rb : Nat) (w : World) (h1 : Blk w lb [lv] 22) (h2 : Blk w rb r.cells 90) (h3 : Sl w 9 1 lv (l.length + 1) ((x :: l).map S)) :
    Then w 153 #[.pointer (some ⟨lb, 0, none⟩), .pointer (some ⟨rb, 0, none⟩)] N (fun m => putT m l r) := by
  refine ⟨enters _ _ _ Tryz.func153 (by kernel_rfl) rfl, fun W X m v hW hX hm ho hb => ?_⟩
  have h1 := hW.blk h1 (by simp)
  have h2 := hW.blk h2 (by simp)
  have h3 := h3.upd hW (by simp)
  obtain ⟨lv', hrun, hsl, -⟩ := run_from_sl (P := Tryz.prog) 22 9 1 Tryz.underlying22 (by kernel_rfl) W lv (l.length + 1) _ h3 1 (by omega) (by omega)
  simp only [Nat.add_sub_cancel, Nat.mul_one, List.map_cons, List.drop_succ_cons, List.drop_zero] at hsl
  rw [show ((1 : Nat) : Int) = 1 from rfl] at hrun
  obtain ⟨la, lc, rfl⟩ := h3.form
  obtain ⟨la', lc', rfl⟩ := hsl.form
  have c0 := h1.cell 0
  have d0 := h2.cell 0
  have d1 := h2.cell 1
  have d2 := h2.cell 2
  simp only [Rt.cells, S, List.getElem?_cons_zero, List.getElem?_cons_succ] at c0 d0 d1 d2
  have HH := Hd.mk (And.intro hX (And.intro hm (And.intro ho (And.intro hb hsl))))
  have HI := Hd.mk ih
  clear h1 h2 h3 hX hm ho hb hsl ih hW
  show Calls Tryz.prog 153 #[v, .pointer (some ⟨lb, 0, none⟩), .pointer (some ⟨rb, 0, none⟩)] W (NdQ W X (putT m l r))
  go_enter Tryz.func153, Tryz.ntmps153
  go_upto_region 1 with (fail)
  refine wp_quiet_tail 4 (by kernel_rfl) (by kernel_rfl) ?_
  simp only [List.take_succ_cons, List.take_zero, List.drop_succ_cons, List.drop_zero]
  repeat (go_big_quiet_step (fail))
  refine wpQuiet_nil ?_
  (intro _ hw'; obtain ⟨nq, hw''⟩ := hw'; subst hw'')
  go_wp2_with fail
  refine (HI.out X m v (.slice la' l.length lc') (W.drewN nq) HH.out.1 (HH.out.2.1.upd ((Upd.refl _ _).drewN nq)) HH.out.2.2.1 HH.out.2.2.2.1 (HH.out.2.2.2.2.drewN nq)).mono ?_
  rintro e w2 ⟨v2, rfl, hv2, u2⟩
  have HV := Hd.mk (And.intro hv2 (((Upd.refl [] W).drewN nq).trans u2 (by simp)))
  clear hv2 u2
  go_wp2_with fail
  go_ret
  exact ⟨_, rfl, HV.out.1, HV.out.2⟩
set_option maxRecDepth 100000 in
set_option maxHeartbeats 2000000 in
theorem put_end (N : Nat) (hN : N < 900000) (r : Rt) (X : Nat → Prop) (n : T) (v lv : Value) (w : World) (hX : ∀ k, X k → k < w.heap.size) (hn : NdV w X n v) (ho : Ok n) (hb : n.en.length ≤ N) (hl : Sl w 9 1 lv 0 []) :
    Calls Tryz.prog 122 #[v, lv, .agg r.cells.toArray] w (NdQ w X (putT n [] r)) := by
  obtain ⟨la, lc, rfl⟩ := hl.form
  have HX := Hd.mk hX
  have HN := Hd.mk hn
  have HO := Hd.mk ho
  have HB := Hd.mk hb
  clear hX hn ho hb hl
  go_enter Tryz.func122, Tryz.ntmps122
  go_upto_region 2 with (fail)
  refine wp_abs (fun W => Blk W (w.heap.size + 1) r.cells 90 ∧ Upd [] w W) ⟨Blk.new _ r.cells _ _ (by simp), ((Upd.refl _ _).alloc _).alloc _⟩ ?_
  generalize w.heap.size + 1 = rb
  rintro w1 ⟨b1, u1⟩
  have HW := Hd.mk (And.intro b1 u1)
  clear b1 u1
  go_wp2_with fail
  refine (copied_ok X n v w1 (HN.out.upd HW.out.2) HO.out.parts.1).mono ?_
  rintro e w2 ⟨x, ev, nv, pv, rv, sv, k, cs, rfl, hc⟩
  obtain ⟨ea, ec, np, pp, rp, sa, sc, rfl, rfl, rfl, rfl, hsv⟩ := hc.forms
  obtain ⟨sa, hsv, hsl, -⟩ := hc.en
  subst hsv
  have hen := HB.out
  have hblk := hc.blk
  have hrb := hc.es.upd.blk HW.out.1 (by simp)
  have HC := Hd.mk hc
  have HS := Hd.mk (hsl.upd hc.es.upd (by simp))
  have HRB := Hd.mk hrb
  have c0 := hblk.cell 0
  have c1 := hblk.cell 1
  have c2 := hblk.cell 2
  have c3 := hblk.cell 3
  have c4 := hblk.cell 4
  simp only [List.getElem?_cons_zero, List.getElem?_cons_succ] at c0 c1 c2 c3 c4
  have d0 := hrb.cell 0
  have d1 := hrb.cell 1
  have d2 := hrb.cell 2
  simp only [Rt.cells, List.getElem?_cons_zero, List.getElem?_cons_succ] at d0 d1 d2
  simp only [S] at d0 d1 d2
  clear hc hblk hrb hsl
  go_upto_region 3 with (fail)
  have x4a := (HC.out.blk.alloc (.cells #[.string ⟨r.m.toArray⟩, .string ⟨r.p.toArray⟩, .string ⟨r.h.toArray⟩] 90)).cell 4
  simp only [List.getElem?_cons_zero, List.getElem?_cons_succ] at x4a
  have HXX := Hd.mk (show ∀ k, X k → k < w1.heap.size from fun k hk => by have := HX.out k hk; have := HW.out.2.size; omega)
  go_region_law ((refine step_append_full rfl (.tmp 20) (.tmp 22) 26 rfl 90 (.agg #[.string ⟨#[]⟩, .string ⟨#[]⟩, .string ⟨#[]⟩]) 3 48 Tryz.underlying26 (by kernel_rfl) rfl sa n.en.length (n.en.flatMap Rt.cells) (by go_simp) (HS.out.upd (((Upd.refl [] w2).alloc (.cells r.cells.toArray 90)).drew) (by simp)) w2.heap.size 1 1 r.cells (by go_simp) ((Blk.new w2 r.cells 90 _ rfl).drew.sl 3 1 rfl (by unfold maxLen; omega)) rfl (by omega) (by omega) (by omega) ?_; intro g9 o9 k9 w9 s9 u9 h9; have Y9 := Hd.mk (And.intro s9 (And.intro u9 h9)); clear s9 u9 h9; have v9 := Y9.out.2.1.blk ((HC.out.blk.alloc (.cells r.cells.toArray 90)).drew); have x4 := (v9 (by simp)).cell 4; have f4 := (v9 (by simp)).free 4; simp only [List.getElem?_cons_zero, List.getElem?_cons_succ] at x4; clear v9))
  all_goals
    go_wp2_with fail
    go_ret
    have HR := HC.out.ends (sv' := .slice (some ⟨g9, o9, none⟩) (n.en.length + 1) k9) HXX.out (((Upd.refl [] w2).alloc (.cells r.cells.toArray 90)).drew) r Y9.out.1 Y9.out.2.1 (fun q hq => by simp [ownB] at hq; subst hq; exact Y9.out.2.2)
    exact ⟨_, rfl, HR.1, HW.out.2.trans HR.2 (by simp)⟩
theorem put_nil (N : Nat) (hN : N < 900000) (r : Rt) : PutC N [] r := fun X n v lv w hX hn ho hb hl => put_end N hN r X n v lv w hX hn ho hb.en hl
set_option maxRecDepth 100000 in
set_option maxHeartbeats 2000000 in
theorem put_ok (N : Nat) (hN : N < 900000) (r : Rt) : ∀ (l : List Bs), l.length ≤ 1000 → (∀ x ∈ l, x.length ≤ 1000000) → PutC N l r := by
  intro l
  induction l with
  | nil => exact fun _ _ => put_nil N hN r
  | cons x l ih =>
    intro hl hx X n v lv w hX hn ho hb hsl
    obtain ⟨la, lc, rfl⟩ := hsl.form
    have HI := Hd.mk (ih (by simp at hl; omega) (fun y hy => hx y (by simp [hy])))
    have HX := Hd.mk hX
    have HN := Hd.mk hn
    have HO := Hd.mk ho
    have HB := Hd.mk hb
    have HL := Hd.mk hsl
    have HXL := Hd.mk (hx x (by simp))
    clear hX hn ho hb ih hx hsl
    simp only [List.length_cons] at hl HL ⊢
    have hne : ((l.length : Int) + 1 == 0) = false := by rw [beq_eq_false_iff_ne]; omega
    go_enter Tryz.func122, Tryz.ntmps122
    go_upto_region 5 with (fail)
    refine wp_abs (fun W => Blk W w.heap.size [.slice la (l.length + 1) lc] 22 ∧ Blk W (w.heap.size + 1) r.cells 90 ∧ Upd [] w W) ⟨(Blk.new w [.slice la (l.length + 1) lc] _ _ rfl).alloc _, Blk.new _ r.cells _ _ (by simp), ((Upd.refl _ _).alloc _).alloc _⟩ ?_
    generalize w.heap.size + 1 = rb
    generalize hlb : w.heap.size = lb
    rintro w1 ⟨b1, b2, u1⟩
    have HW := Hd.mk (And.intro b1 (And.intro b2 u1))
    have c0 := b1.cell 0
    simp only [List.getElem?_cons_zero, List.getElem?_cons_succ] at c0
    clear b1 b2 u1
    have HT := Hd.mk (on_ok N x l r (by omega) HI.out (.slice la (l.length + 1) lc) lb rb w1 HW.out.1 HW.out.2.1 (HL.out.upd HW.out.2.2 (by simp)))
    obtain ⟨xb, xo, xc, hxv, -, -, hxc⟩ := (HL.out.upd HW.out.2.2 (by simp)).some (by omega)
    simp only [Value.slice.injEq] at hxv
    obtain ⟨rfl, -, rfl⟩ := hxv
    have x0 := hxc 0 (by omega)
    simp only [List.map_cons, List.getElem?_cons_zero, Nat.add_zero] at x0
    clear hxc hlb
    go_upto_region 6 with (fail)
    go_wp2_with fail
    refine (kind_ok x w1).mono ?_
    rintro e w2 ⟨rfl, u2⟩
    have c0' := (u2.blk HW.out.1 (by simp)).cell 0
    have x0' := (u2.cell (p := ⟨xb, xo, none⟩) ((HL.out.upd HW.out.2.2 (by simp)).lt xb (by simp [ownB])) (by simp)).trans x0
    simp only [List.getElem?_cons_zero] at c0'
    have HW2 := Hd.mk (And.intro (u2.blk HW.out.2.1 (by simp)) (HW.out.2.2.trans u2 (by simp)))
    have HT2 := Hd.mk (HT.out.up u2)
    clear c0 x0 u2
    obtain ⟨κ, hκ⟩ : ∃ κ, kindL x = κ := ⟨_, rfl⟩
    rw [hκ]
    have HK := Hd.mk hκ
    clear hκ
    have HX2 := Hd.mk (show ∀ k, X k → k < w2.heap.size from fun k hk => by have := HX.out k hk; have := HW2.out.2.size; omega)
    by_cases k0 : κ = 0
    · subst k0
      have HWD := Hd.mk (tword_ok 153 #[.pointer (some ⟨lb, 0, none⟩), .pointer (some ⟨rb, 0, none⟩)] N (fun m => putT m l r) 1000000 x X n v w2 HXL.out (Nat.le_refl _) HX2.out (HN.out.upd HW2.out.2) HO.out (HB.out.step x) HT2.out)
      go_wp2_with fail
      refine HWD.out.mono ?_
      rintro e w3 ⟨v3, rfl, hv3, u3⟩
      have HV := Hd.mk (show NdV w3 X (putT n (x :: l) r) v3 ∧ Upd [] w w3 from ⟨by rw [putT, if_pos HK.out]; exact hv3, HW2.out.2.trans u3 (by simp)⟩)
      clear hv3 u3
      go_wp2_with fail
      go_ret
      exact ⟨_, rfl, HV.out.1, HV.out.2⟩
    · have d0 : ((κ : Int) == 0) = false := by rw [beq_eq_false_iff_ne]; omega
      by_cases k1 : κ = 1
      · subst k1
        have hent := HT2.out.ent
        clear k0
        go_wp2_with fail
        refine (copied_ok X n v w2 (HN.out.upd HW2.out.2) HO.out.parts.1).mono ?_
        rintro e w3 ⟨y, ev, nv, pv, rv, sv, k, cs, rfl, hc⟩
        obtain ⟨ea, ec, np, pp, rp, sa, sc, rfl, rfl, rfl, rfl, rfl⟩ := hc.forms
        have hblk := hc.blk
        have HC := Hd.mk hc
        have e0 := hblk.cell 0
        have e1 := hblk.cell 1
        have e2 := hblk.cell 2
        have e3 := hblk.cell 3
        have e4 := hblk.cell 4
        simp only [List.getElem?_cons_zero, List.getElem?_cons_succ] at e0 e1 e2 e3 e4
        clear hc hblk
        go_wp2_with fail
        refine (HT2.out.run w3 (fun k => X k ∨ k = y) n.pa (.pointer pp) HC.out.es.upd (fun k hk => by
          rcases hk with hk | hk
          · have := HX2.out k hk; have := HC.out.es.upd.size; omega
          · rw [hk]; exact HC.out.blk.lt) (HC.out.pa.move HC.out.es.upd (by simp) (fun k hk => by
          rcases hk with hk | hk
          · exact .inl hk
          · have := HC.out.new; right; omega)) HO.out.parts.2.2.1 HB.out.pa).mono ?_
        rintro e w4 ⟨v2, rfl, hv2, u2⟩
        obtain ⟨p2, rfl⟩ := hv2.form
        have b2 := u2.blk HC.out.blk (by simp)
        have HV := Hd.mk (HC.out.param HX2.out u2 hv2)
        clear e0 e1 e2 e3 e4
        have e2 := b2.cell 2
        have f2 := b2.free 2
        simp only [List.getElem?_cons_zero, List.getElem?_cons_succ] at e2
        clear hv2 u2 b2
        go_wp2_with fail
        go_ret
        exact ⟨_, rfl, by rw [putT, if_neg (by rw [HK.out]; decide), if_pos HK.out]; exact HV.out.1, HW2.out.2.trans HV.out.2 (by simp)⟩
      · have d1 : ((κ : Int) == 1) = false := by rw [beq_eq_false_iff_ne]; omega
        have HK0 := Hd.mk (show ¬ kindL x = 0 ∧ ¬ kindL x = 1 by rw [HK.out]; exact ⟨k0, k1⟩)
        clear k0 k1
        go_wp2_with fail
        refine (copied_ok X n v w2 (HN.out.upd HW2.out.2) HO.out.parts.1).mono ?_
        rintro e w3 ⟨y, ev, nv, pv, rv, sv, k, cs, rfl, hc⟩
        obtain ⟨ea, ec, np, pp, rp, sa, sc, rfl, rfl, rfl, rfl, rfl⟩ := hc.forms
        have hblk := hc.blk
        have hrb := hc.es.upd.blk HW2.out.1 (by simp)
        have HC := Hd.mk hc
        have e0 := hblk.cell 0
        have e1 := hblk.cell 1
        have e2 := hblk.cell 2
        have e3 := hblk.cell 3
        have e4 := hblk.cell 4
        simp only [List.getElem?_cons_zero, List.getElem?_cons_succ] at e0 e1 e2 e3 e4
        have d0 := hrb.cell 0
        have d1 := hrb.cell 1
        have d2 := hrb.cell 2
        simp only [Rt.cells, List.getElem?_cons_zero, List.getElem?_cons_succ] at d0 d1 d2
        simp only [S] at d0 d1 d2
        clear hc hblk hrb
        have HCALL := Hd.mk (put_end N hN r (fun k => X k ∨ k = y) n.re (.pointer rp) (.slice none 0 0) w3.drew (fun k hk => by
          rcases hk with hk | hk
          · have := HX2.out k hk; have := HC.out.es.upd.size; show k < w3.heap.size; omega
          · rw [hk]; exact HC.out.blk.lt) (HC.out.re.move HC.out.es.upd.drew (by simp) (fun k hk => by
          rcases hk with hk | hk
          · exact .inl hk
          · have := HC.out.new; right; omega)) HO.out.parts.2.2.2 HB.out.re (Sl.nil _ _ _))
        have tok := HCALL
        go_upto_region 14 with (fail)
        go_region_law ((have _t := tok; refine step_func_ex rfl 122 #[.tmp 60, .const (.slice none 0 0), .tmp 61] #[126, 22, 90] rfl #[.pointer rp, .slice none 0 0, .agg r.cells.toArray] (by (go_simp; rfl)) (by go_simp) ?_; refine HCALL.out.mono ?_; rintro e w4 ⟨v4, he, hv4, u4⟩; obtain ⟨p4, rfl⟩ := hv4.form; refine ⟨_, he, ?_⟩; have U4 := Hd.mk (show Upd [] w3 w4 from ((Upd.refl [] w3).drew).trans u4 (by simp)); have b4 := U4.out.blk HC.out.blk (by simp); have y3 := b4.cell 3; have f3 := b4.free 3; simp only [List.getElem?_cons_zero, List.getElem?_cons_succ] at y3; have HV := Hd.mk (HC.out.rest HX2.out U4.out hv4); clear tok _t he hv4 u4 b4))
        all_goals
          go_wp2_with fail
          go_ret
          exact ⟨_, rfl, by rw [putT, if_neg HK0.out.1, if_neg HK0.out.2]; exact HV.out.1, HW2.out.2.trans HV.out.2 (by simp)⟩
end Go.Proofs.YtndlbkiogagnaaaGreatDoor
