/- Chain: Mark. -/
import Derived.Test.YtghjdjbjdjbkkaaDoorK2
import Derived.Test.YtghjdjbjdjbkkaaDoorSl
import Derived.Deep.RegionLaw
import Derived.Deep.DeepCutAuto
import Derived.Deep.CutBlock
import Derived.Deep.LoopGhost

namespace Go.Proofs.YtghjdjbjdjbkkaaDoor
set_option linter.unusedSimpArgs false
set_option linter.unusedVariables false
set_option linter.unnecessarySimpa false
open Go.RowKit BigFrame

/-- Fields that can be read at a. -/
def Rf (w : World) (a : Option Addr) (fs : List (ByteArray × ByteArray)) : Prop := 0 < fs.length → ∃ b off, a = some ⟨b, off, none⟩ ∧ b < w.heap.size ∧ ∀ i (h : i < fs.length), w.cell? ⟨b, off + i * 2, none⟩ = some (.string fs[i].1) ∧ w.cell? ⟨b, off + i * 2 + 1, none⟩ = some (.string fs[i].2)
theorem Rf.upd {w w' : World} {a : Option Addr} {fs : List (ByteArray × ByteArray)} (h : Rf w a fs) (hu : Upd [] w w') : Rf w' a fs := by
  intro h0
  obtain ⟨b, off, ha, hb, hc⟩ := h h0
  have hsz := hu.size
  exact ⟨b, off, ha, by omega, fun i hi => ⟨(hu.cell (p := ⟨b, _, none⟩) hb (by simp)).trans (hc i hi).1, (hu.cell (p := ⟨b, _, none⟩) hb (by simp)).trans (hc i hi).2⟩⟩
theorem Rf.nil (w : World) (a : Option Addr) : Rf w a [] := fun h => by simp at h
def fcells (fs : List (ByteArray × ByteArray)) : List Value := fs.flatMap fun f => [.string f.1, .string f.2]
theorem fcells_len (fs : List (ByteArray × ByteArray)) : (fcells fs).length = fs.length * 2 := by
  unfold fcells
  induction fs with
  | nil => rfl
  | cons f t ih => rw [List.flatMap_cons, List.length_append, ih]; simp; omega
theorem fcells_at : ∀ (fs : List (ByteArray × ByteArray)) (i : Nat) (h : i < fs.length), (fcells fs)[i * 2]? = some (.string fs[i].1) ∧ (fcells fs)[i * 2 + 1]? = some (.string fs[i].2)
  | [], i, h => by simp at h
  | f :: t, 0, h => by simp [fcells]
  | f :: t, i + 1, h => by
    have := fcells_at t i (by simpa using h)
    unfold fcells at *
    rw [List.flatMap_cons]
    have e1 : (i + 1) * 2 = i * 2 + 1 + 1 := by omega
    rw [e1]
    simpa using this
theorem fcells_one (fs : List (ByteArray × ByteArray)) : (fcells fs).all (·.oneCell') = true := by
  rw [List.all_eq_true]
  intro v hv
  unfold fcells at hv
  rw [List.mem_flatMap] at hv
  obtain ⟨f, -, hv⟩ := hv
  simp at hv
  rcases hv with rfl | rfl <;> rfl
/-- append(two fields, some fields...). -/
theorem run_app_f (w : World) (ty : TypeId) (f1 f2 : ByteArray × ByteArray) (a : Option Addr) (n cap : Nat) (fs : List (ByteArray × ByteArray)) (hn : fs.length = n) (hs : n ≤ 100000) (h : Rf w a fs) :
    ∃ a' c' w', (Builtin.append_ #[26, 26] ty #[.slice (some ⟨w.heap.size, 0, none⟩) 2 2, .slice a n cap]).run Tryd.prog (w.alloc (.cells #[.string f1.1, .string f1.2, .string f2.1, .string f2.2] 44)) = .ok (.slice a' (n + 2) c') w' ∧ Rf w' a' (f1 :: f2 :: fs) ∧ (∀ b off, a' = some ⟨b, off, none⟩ → w.heap.size ≤ b) ∧ Upd [] w w' := by
  have hb := Blk.new w (fcells [f1, f2]) 44 _ rfl
  have hsl := hb.sl 2 2 rfl (by unfold maxLen; omega)
  by_cases h0 : n = 0
  · have hf : fs = [] := List.eq_nil_of_length_eq_zero (by omega)
    subst hf
    subst h0
    refine ⟨some ⟨w.heap.size, 0, none⟩, 2, w.alloc (.cells #[.string f1.1, .string f1.2, .string f2.1, .string f2.2] 44), ?_, fun _ => ⟨w.heap.size, 0, rfl, by simp, fun i hi => ?_⟩, fun b off e => by cases e; exact Nat.le_refl _, (Upd.refl _ _).alloc _⟩
    · obtain ⟨i, hi2, hz, hs2, hby⟩ := info_parts (show (Tryd.prog.info? 44).map (fun i => (i.zero, i.size, i.bytes)) = some (some (.agg #[.string ⟨#[]⟩, .string ⟨#[]⟩]), 2, 32) by kernel_rfl)
      cases a <;> simp [Builtin.append_, run_underlying Tryd.underlying26, sizeOf, typeInfo, hi2, Builtin.lenOf, Builtin.firstCells, loadCells, loadCellsFrom, storeCells]
    · have := fcells_at [f1, f2] i hi
      have c1 := hb.cell (0 + i * 2)
      have c2 := hb.cell (0 + i * 2 + 1)
      rw [Nat.zero_add] at c1 c2
      rw [Nat.zero_add]
      exact ⟨c1.trans this.1, c2.trans this.2⟩
  · obtain ⟨b, off, rfl, hbw, hc⟩ := h (by omega)
    obtain ⟨g, o, c', w', hr, h2, h3, h4, h5⟩ := run_append_sl (P := Tryd.prog) (w.alloc (.cells (fcells [f1, f2]).toArray 44)) 26 ty 44 (.agg #[.string ⟨#[]⟩, .string ⟨#[]⟩]) 2 32 Tryd.underlying26 (by kernel_rfl) rfl
      (.slice (some ⟨w.heap.size, 0, none⟩) 2 2) 2 (fcells [f1, f2]) hsl ⟨b, off, none⟩ n cap (fcells fs) (by rw [fcells_len, hn]) (fun j u hu => by
        rw [Addr.add_lit]
        have hj : j < n * 2 := by
          have := (List.getElem?_eq_some_iff.1 hu).1
          rw [fcells_len, hn] at this
          exact this
        have hcell : ∀ p : Addr, p.block = b → (w.alloc (.cells (fcells [f1, f2]).toArray 44)).cell? p = w.cell? p := fun p hp => ((Upd.refl [] w).alloc _).cell (by rw [hp]; exact hbw) (by simp)
        rw [hcell _ rfl]
        have hq := fcells_at fs (j / 2) (by omega)
        have hq2 := hc (j / 2) (by omega)
        rcases Nat.mod_two_eq_zero_or_one j with e | e
        · have ej : j = j / 2 * 2 := by omega
          rw [ej] at hu ⊢
          rw [hq.1] at hu
          rw [hq2.1]
          exact hu
        · have ej : j = j / 2 * 2 + 1 := by omega
          rw [ej] at hu ⊢
          rw [hq.2] at hu
          rw [← Nat.add_assoc, hq2.2]
          exact hu) (fcells_one fs) (by omega) (by unfold maxLen; omega) (by omega)
    refine ⟨some ⟨g, o, none⟩, c', w', ?_, fun _ => ⟨g, o, rfl, h5, fun i hi => ?_⟩, fun b off e => ?_, ?_⟩
    · rw [show n + 2 = 2 + n by omega]
      exact hr
    · simp only [List.length_cons] at hi
      have e : fcells [f1, f2] ++ fcells fs = fcells (f1 :: f2 :: fs) := by unfold fcells; simp
      rw [e] at h2
      have hq := fcells_at (f1 :: f2 :: fs) i (by simpa using hi)
      have k1 := h2.cell (i * 2) (by omega)
      have k2 := h2.cell (i * 2 + 1) (by omega)
      rw [← Nat.add_assoc] at k2
      exact ⟨k1.trans hq.1, k2.trans hq.2⟩
    · cases e
      rcases h4 with h4 | h4
      · simp [ownB] at h4
        omega
      · simp at h4
        omega
    · refine ((Upd.refl [] w).alloc _).trans h3 (fun k hk h => ?_)
      simp [ownB] at h
      omega
theorem step_func {P : Program} {ops : Array Oper} {o : Oper} {a : Act} {w : World} {K : Act → World → Prop} {Q : Exit → Act → World → Prop} {E : Prop} (hgd : o.guard = none) (f : FuncId) (xs : Array Operand) (ts : Array TypeId)
    (ho : o.op = .call { callee := .value (.func f), args := xs, argTypes := ts }) (vals : Array Value) (hv : xs.map a.eval = vals) (hcf : (callFunc f (#[] ++ vals ++ #[])).run P w = .ok (.enter f vals) w) (v : Value) (h : Calls P f vals w fun e w' => e = .returned v ∧ K (a.put o.dst v) w') :
    if Region.wanted o (yielded ops a.tmps) = true then Oper.wp P o a w K Q else E := by
  have hw : Region.wanted o (yielded ops a.tmps) = true := by simp [Region.wanted, hgd]
  rw [if_pos hw]
  subst hv
  have key : (execOp a.eval o).run P w = .ok (.enter f (xs.map a.eval)) w := by
    rw [← hcf]
    cases o
    simp only at ho
    subst ho
    rfl
  unfold Oper.wp
  rw [key]
  exact h.mono fun e w' h' => by obtain ⟨rfl, h2⟩ := h'; exact h2
theorem step_app_f {ops : Array Oper} {o : Oper} {act : Act} {w : World} {K : Act → World → Prop} {Q : Exit → Act → World → Prop} {E : Prop} (hgd : o.guard = none) (s x : Operand)
    (ho : o.op = .call { callee := .builtin .append, args := #[s, x], argTypes := #[26, 26] }) (f1 f2 : ByteArray × ByteArray) (a : Option Addr) (n cap : Nat) (fs : List (ByteArray × ByteArray)) (hn : fs.length = n) (hz : n ≤ 100000) (hr : Rf w a fs)
    (hs : act.eval s = .slice (some ⟨w.heap.size, 0, none⟩) 2 2) (hx : act.eval x = .slice a n cap)
    (h : ∀ a' c' w', Rf w' a' (f1 :: f2 :: fs) → (∀ b off, a' = some ⟨b, off, none⟩ → w.heap.size ≤ b) → Upd [] w w' → K (act.put o.dst (.slice a' (n + 2) c')) w') :
    if Region.wanted o (yielded ops act.tmps) = true then Oper.wp Tryd.prog o act (w.alloc (.cells #[.string f1.1, .string f1.2, .string f2.1, .string f2.2] 44)) K Q else E := by
  have hw : Region.wanted o (yielded ops act.tmps) = true := by simp [Region.wanted, hgd]
  rw [if_pos hw]
  obtain ⟨a', c', w', hq, h2, h4, h3⟩ := run_app_f w o.type f1 f2 a n cap fs hn hz hr
  unfold Oper.wp execOp
  simp only [ho, resolve, invoke, builtin, Sem.run_bind, Sem.run_pure, Result.andThen_ok, List.map_toArray, List.map_cons, List.map_nil, hs, hx, hq]
  exact h a' c' w' h2 h4 h3
/-- Worlds behind the inner handle: the boxes stand. -/
def Mk3 (w : World) (x1 x2 x3 : Nat) (cs zs ds : List Value) (W : World) : Prop := Blk W x1 cs 34 ∧ Blk W x2 zs 36 ∧ Blk W x3 ds 36 ∧ Upd [] w W
theorem Mk3.up {w W W' : World} {x1 x2 x3 : Nat} {cs zs ds : List Value} (h : Mk3 w x1 x2 x3 cs zs ds W) (hu : Upd [] W W') : Mk3 w x1 x2 x3 cs zs ds W' := ⟨hu.blk h.1 (by simp), hu.blk h.2.1 (by simp), hu.blk h.2.2.1 (by simp), h.2.2.2.trans hu (by simp)⟩
/-- Worlds behind the inner handle: the call's box and the answer's stand. -/
def MkW (w : World) (b1 b2 : Nat) (cs ds : List Value) (W : World) : Prop := Blk W b1 cs 34 ∧ Blk W b2 ds 36 ∧ Upd [] w W
theorem MkW.up {w W W' : World} {b1 b2 : Nat} {cs ds : List Value} (h : MkW w b1 b2 cs ds W) (hu : Upd [] W W') : MkW w b1 b2 cs ds W' := ⟨hu.blk h.1 (by simp), hu.blk h.2.1 (by simp), h.2.2.trans hu (by simp)⟩
theorem Rf.set {w : World} {a : Option Addr} {fs : List (ByteArray × ByteArray)} (h : Rf w a fs) (p : Addr) (v : Value) (hne : ∀ b off, a = some ⟨b, off, none⟩ → b ≠ p.block) : Rf (w.setCell p v) a fs := by
  intro h0
  obtain ⟨b, off, ha, hb, hc⟩ := h h0
  have hu : Upd [p.block] w (w.setCell p v) := (Upd.refl _ _).set _ _ (by simp)
  have hn : b ∉ [p.block] := by rw [List.mem_singleton]; exact hne b off ha
  have hsz := hu.size
  exact ⟨b, off, ha, by omega, fun i hi => ⟨(hu.cell (p := ⟨b, _, none⟩) hb hn).trans (hc i hi).1, (hu.cell (p := ⟨b, _, none⟩) hb hn).trans (hc i hi).2⟩⟩
/-- The answer's own box is written: the others stand. -/
theorem mark_set {w w3 w6 : World} {x1 x2 x3 : Nat} {cs zs : List Value} {k v bd cl : Value} (h : Mk3 w x1 x2 x3 cs zs [k, v, bd, cl] w3) (hu : Upd [] w3 w6) (h1 : w.heap.size = x1) (h2 : w.heap.size + 1 = x2) (h3 : x2 < x3) (v' : Value) :
    Mk3 w x1 x2 x3 cs zs [k, v', bd, cl] (w6.setCell ⟨x3, 1, none⟩ v') := by
  have h' := h.up hu
  exact ⟨h'.1.set_ne _ _ (by simp; omega), h'.2.1.set_ne _ _ (by simp; omega), h'.2.2.1.set 1 v', h'.2.2.2.set _ _ (by simp; omega)⟩
theorem mark_end {w w7 : World} {x1 x2 x3 : Nat} {cs zs ds : List Value} (h : Mk3 w x1 x2 x3 cs zs ds w7) (hz : zs.length = 4) (h1 : w.heap.size = x1) (h2 : w.heap.size + 1 = x2) (h3 : x2 < x3) (c x y z u : Value) :
    Blk (((((w7.setCell ⟨x3, 3, none⟩ c).setCell ⟨x2, 0, none⟩ x).setCell ⟨x2, 1, none⟩ y).setCell ⟨x2, 2, none⟩ z).setCell ⟨x2, 3, none⟩ u) x2 [x, y, z, u] 36 ∧ Upd [] w (((((w7.setCell ⟨x3, 3, none⟩ c).setCell ⟨x2, 0, none⟩ x).setCell ⟨x2, 1, none⟩ y).setCell ⟨x2, 2, none⟩ z).setCell ⟨x2, 3, none⟩ u) :=
  ⟨Blk.set4 (h.2.1.set_ne ⟨x3, 3, none⟩ c (by simp; omega)) hz x y z u, (h.2.2.2.set ⟨x3, 3, none⟩ c (by simp; omega)).set4 (by omega) x y z u⟩
theorem mark_rf {w7 : World} {a : Option Addr} {fs : List (ByteArray × ByteArray)} {x2 x3 n : Nat} (h : Rf w7 a fs) (h3 : x2 < x3) (hx : x3 < n) (hn : ∀ b off, a = some ⟨b, off, none⟩ → n ≤ b) (c x y z u : Value) :
    Rf (((((w7.setCell ⟨x3, 3, none⟩ c).setCell ⟨x2, 0, none⟩ x).setCell ⟨x2, 1, none⟩ y).setCell ⟨x2, 2, none⟩ z).setCell ⟨x2, 3, none⟩ u) a fs := by
  have h3' : ∀ b off, a = some ⟨b, off, none⟩ → b ≠ x3 := fun b off e q => by have := hn b off e; omega
  have h2' : ∀ b off, a = some ⟨b, off, none⟩ → b ≠ x2 := fun b off e q => by have := hn b off e; omega
  exact ((((h.set ⟨x3, 3, none⟩ c h3').set ⟨x2, 0, none⟩ x h2').set ⟨x2, 1, none⟩ y h2').set ⟨x2, 2, none⟩ z h2').set ⟨x2, 3, none⟩ u h2'
def okI (k : Int) : Prop := -9223372036854775808 ≤ k ∧ k ≤ 9223372036854775807
def idB (x y : Int) : ByteArray := itoaB x ++ ⟨#[45]⟩ ++ itoaB y
def xid : ByteArray := ⟨#[120, 45, 105, 100]⟩
def xver : ByteArray := ⟨#[120, 45, 118, 101, 114, 115, 105, 111, 110]⟩
/-- What a marked answer is. -/
def MarkQ (w : World) (k : Int) (fs : List (ByteArray × ByteArray)) (bd : ByteArray) (cl : Bool) (e : Ending) (w' : World) : Prop :=
  ∃ a cap, e = .returned (.agg (Pc k a fs.length cap bd cl).toArray) ∧ Rf w' a fs ∧ Upd [] w w'
set_option maxRecDepth 100000 in
set_option maxHeartbeats 2000000 in
theorem mark_ok (c : Cc) (g b b2 : Nat) (k : Int) (fs : List (ByteArray × ByteArray)) (bd : ByteArray) (cl : Bool) (w : World) (hT : Tab w) (hn : fs.length ≤ 100000) (hi1 : okI c.conn) (hi2 : okI c.seq) (hi3 : okI c.version)
    (hc : w.cell? ⟨b, 0, none⟩ = some (.func (.func g) #[] #[.pointer (some ⟨b2, 0, none⟩)])) (hb : b < w.heap.size)
    (he : ∀ (args : Array Value) (W : World), (callFunc g args).run Tryd.prog W = .ok (.enter g args) W)
    (hin : ∀ W, Upd [] w W → Calls Tryd.prog g #[.agg c.cells.toArray, .pointer (some ⟨b2, 0, none⟩)] W (MarkQ W k fs bd cl)) :
    Calls Tryd.prog 27 #[.agg c.cells.toArray, .pointer (some ⟨b, 0, none⟩)] w (MarkQ w k ((xid, idB c.conn c.seq) :: (xver, itoaB c.version) :: fs) bd (cl || c.close)) := by
  have HI := Hd.mk hin
  have HT := Hd.mk hT
  clear hin hT
  have B1 := Blk.new w c.cells 34 _ rfl
  have U1 := (Upd.refl [] w).alloc (.cells c.cells.toArray 34)
  have B2 := Blk.new (w.alloc (.cells c.cells.toArray 34)) [.int .i64 0, .slice none 0 0, .string ⟨#[]⟩, .bool false] 36 (w.heap.size + 1) (by simp)
  have U2 := U1.alloc (.cells #[.int .i64 0, .slice none 0 0, .string ⟨#[]⟩, .bool false] 36)
  have D1 := B1.alloc (.cells #[.int .i64 0, .slice none 0 0, .string ⟨#[]⟩, .bool false] 36)
  have hc2 := (U2.cell (p := ⟨b, 0, none⟩) hb (by simp)).trans hc
  have HB := Hd.mk (And.intro D1 (And.intro B2 U2))
  clear B1 B2 U1 U2 hc
  obtain ⟨mm, tg, fl, bo, cs, cn, sq, vr, hd, pr, aw, fd, tk⟩ := c
  simp only [Cc.cells] at *
  have HI1 := Hd.mk hi1
  have HI2 := Hd.mk hi2
  have HI3 := Hd.mk hi3
  clear hi1 hi2 hi3
  have c0 := D1.cell 0
  have c1 := D1.cell 1
  have c2 := D1.cell 2
  have c3 := D1.cell 3
  have c4 := D1.cell 4
  have c5 := D1.cell 5
  have c6 := D1.cell 6
  have c7 := D1.cell 7
  have c8 := D1.cell 8
  have c9 := D1.cell 9
  have c10 := D1.cell 10
  have c11 := D1.cell 11
  have c12 := D1.cell 12
  simp only [List.getElem?_cons_zero, List.getElem?_cons_succ] at c0 c1 c2 c3 c4 c5 c6 c7 c8 c9 c10 c11 c12
  clear D1
  go_enter Tryd.func27, Tryd.ntmps27
  go_wp2_with fail
  refine (HI.out _ HB.out.2.2).mono ?_
  rintro e w1 ⟨a, cap, rfl, hrf, u1⟩
  have HB := Hd.mk (And.intro (u1.blk HB.out.1 (by simp)) (And.intro (u1.blk HB.out.2.1 (by simp)) (HB.out.2.2.trans u1 (by simp))))
  have HR := Hd.mk hrf
  clear u1 hrf c0 c1 c2 c3 c4 c5 c6 c7 c8 c9 c10 c11 c12
  simp only [Pc]
  go_upto_region 2 with (fail)
  obtain ⟨cc, hcc⟩ : ∃ l : List Value, [.string mm, .string tg, fl, .string bo, .bool cs, .int .i64 cn, .int .i64 sq, .int .i64 vr, .string hd, pr, aw, .bool fd, .string tk] = l := ⟨_, rfl⟩
  have HCC := Hd.mk hcc
  have m3 : Mk3 w w.heap.size (w.heap.size + 1) w1.heap.size cc [.int .i64 0, .slice none 0 0, .string ⟨#[]⟩, .bool false] [.int .i64 k, .slice a fs.length cap, .string bd, .bool cl] (w1.alloc (.cells #[.int .i64 k, .slice a fs.length cap, .string bd, .bool cl] 36)) :=
    ⟨by rw [← hcc]; exact HB.out.1.alloc _, HB.out.2.1.alloc _, Blk.new w1 _ _ _ rfl, HB.out.2.2.alloc _⟩
  have HR := Hd.mk (HR.out.upd ((Upd.refl [] w1).alloc (.cells #[.int .i64 k, .slice a fs.length cap, .string bd, .bool cl] 36)))
  refine wp_abs (fun W => Mk3 w w.heap.size (w.heap.size + 1) w1.heap.size cc [.int .i64 0, .slice none 0 0, .string ⟨#[]⟩, .bool false] [.int .i64 k, .slice a fs.length cap, .string bd, .bool cl] W ∧ Rf W a fs) ⟨m3, HR.out⟩ ?_
  have HN3 := Hd.mk (show w.heap.size + 1 < w1.heap.size from HB.out.2.1.lt)
  have hcd : cc[5]? = some (.int .i64 cn) ∧ cc[6]? = some (.int .i64 sq) ∧ cc[7]? = some (.int .i64 vr) ∧ cc[4]? = some (.bool cs) := by rw [← hcc]; exact ⟨rfl, rfl, rfl, rfl⟩
  have HCD := Hd.mk hcd
  clear m3 HB HR hcc hc2 hcd HCC
  obtain ⟨x2, hx2⟩ : ∃ x, w.heap.size + 1 = x := ⟨_, rfl⟩
  obtain ⟨x1, hx1⟩ : ∃ x, w.heap.size = x := ⟨_, rfl⟩
  obtain ⟨x3, hx3⟩ : ∃ x, w1.heap.size = x := ⟨_, rfl⟩
  rw [hx2, hx1, hx3]
  rw [hx2, hx3] at HN3
  have HX := Hd.mk (And.intro hx1 hx2)
  clear hx1 hx2 hx3
  rintro w2 ⟨m2, r2⟩
  have HM := Hd.mk m2
  have HR := Hd.mk r2
  clear m2 r2
  obtain ⟨R, hR⟩ : ∃ R : World → Prop, R = fun W => Mk3 w x1 x2 x3 cc [.int .i64 0, .slice none 0 0, .string ⟨#[]⟩, .bool false] [.int .i64 k, .slice a fs.length cap, .string bd, .bool cl] W ∧ Rf W a fs := ⟨_, rfl⟩
  have hRW : ∀ W, R W → Mk3 w x1 x2 x3 cc [.int .i64 0, .slice none 0 0, .string ⟨#[]⟩, .bool false] [.int .i64 k, .slice a fs.length cap, .string bd, .bool cl] W ∧ Rf W a fs := fun W h => by rw [hR] at h; exact h
  have hRM : ∀ x : Cls R, Mk3 w x1 x2 x3 cc [.int .i64 0, .slice none 0 0, .string ⟨#[]⟩, .bool false] [.int .i64 k, .slice a fs.length cap, .string bd, .bool cl] x.w ∧ Rf x.w a fs := fun x => hRW x.w x.ok
  have HRW := Hd.mk hRW
  have c1 : ∀ x : Cls R, x.w.cell? ⟨x1, 5, none⟩ = some (.int .i64 cn) := fun x => ((hRM x).1.1.cell 5).trans HCD.out.1
  have c2 : ∀ x : Cls R, x.w.cell? ⟨x1, 6, none⟩ = some (.int .i64 sq) := fun x => ((hRM x).1.1.cell 6).trans HCD.out.2.1
  have hR0 : R w2.drew := by rw [hR]; exact ⟨HM.out.up ((Upd.refl [] w2).drew), HR.out.upd ((Upd.refl [] w2).drew)⟩
  have hup : ∀ (x : Cls R) w', Upd [] x.w w' → R w' := fun x w' hu => by rw [hR]; exact ⟨(hRM x).1.up hu, (hRM x).2.upd hu⟩
  have htab : ∀ x : Cls R, Tab x.w := fun x => HT.out.upd (hRM x).1.2.2.2
  obtain ⟨i1, hi1⟩ : ∃ t, itoaB cn = t := ⟨_, rfl⟩
  obtain ⟨i2, hi2⟩ : ∃ t, itoaB sq = t := ⟨_, rfl⟩
  have z1 := itoaB_size cn HI1.out.1 HI1.out.2
  have z2 := itoaB_size sq HI2.out.1 HI2.out.2
  rw [hi1] at z1
  rw [hi2] at z2
  have HIT1 := Hd.mk (show ∀ x : Cls R, Calls Tryd.prog 28 #[.int .i64 cn] x.w fun e w'' => e = .returned (.string i1) ∧ ∃ y : Cls R, w'' = y.w from fun x => Calls.cls (itoa_ok cn x.w HI1.out.1 HI1.out.2 (htab x)) (fun e w' h => ⟨h.1.trans (by rw [hi1]), hup x w' h.2⟩))
  have HIT2 := Hd.mk (show ∀ x : Cls R, Calls Tryd.prog 28 #[.int .i64 sq] x.w fun e w'' => e = .returned (.string i2) ∧ ∃ y : Cls R, w'' = y.w from fun x => Calls.cls (itoa_ok sq x.w HI2.out.1 HI2.out.2 (htab x)) (fun e w' h => ⟨h.1.trans (by rw [hi2]), hup x w' h.2⟩))
  have HID := Hd.mk (show idB cn sq = i1 ++ ⟨#[45]⟩ ++ i2 by unfold idB; rw [hi1, hi2])
  clear hup htab hi1 hi2 hRM hRW hR HM HR
  refine wp_region_cls R hR0 (by kernel_rfl) (by kernel_rfl) (fun _ => ?_)
  repeat (go_big_quiet_step (first | (go_at_call 28; rename_i x; with_reducible exact HIT1.out x) | (go_at_call 28; rename_i x; with_reducible exact HIT2.out x)))
  refine wpQuiet_nil ?_
  intro _ hw'
  obtain ⟨nq, hw''⟩ := hw'
  subst hw''
  have HQ := Hd.mk (show Mk3 w x1 x2 x3 cc [.int .i64 0, .slice none 0 0, .string ⟨#[]⟩, .bool false] [.int .i64 k, .slice a fs.length cap, .string bd, .bool cl] nq.w ∧ Rf nq.w a fs from HRW.out _ nq.ok)
  clear c1 c2 hR0
  generalize nq.w = w3 at HQ ⊢
  go_upto_region 3 with (fail)
  rw [← HID.out]
  have hidz : (idB cn sq).size ≤ 100 := by
    rw [HID.out]
    simp only [ByteArray.size_append]
    have : (⟨#[45]⟩ : ByteArray).size = 1 := rfl
    omega
  clear z1 z2 HID HIT1 HIT2
  obtain ⟨idb, hidb⟩ : ∃ t, idB cn sq = t := ⟨_, rfl⟩
  rw [hidb] at hidz ⊢
  have HIDE := Hd.mk hidb
  obtain ⟨i3, hi3⟩ : ∃ t, itoaB vr = t := ⟨_, rfl⟩
  have z3 := itoaB_size vr HI3.out.1 HI3.out.2
  rw [hi3] at z3
  have HI3' := Hd.mk hi3
  clear hidb hi3
  have c7 := (HQ.out.1.1.cell 7).trans HCD.out.2.2.1
  have e1 := HQ.out.1.2.2.1.cell 1
  have f1 := HQ.out.1.2.2.1.free 1
  simp only [List.getElem?_cons_zero, List.getElem?_cons_succ] at e1
  have tok1 := HI3'
  go_region_law (first
    | (have _t := tok1; refine step_func rfl 28 #[.tmp 20] #[3] rfl #[.int .i64 vr] (by go_simp) (by go_simp) (.string i3) ?_; refine (itoa_ok vr _ HI3.out.1 HI3.out.2 (HT.out.upd (HQ.out.1.2.2.2.drew))).mono ?_; rintro e w4 ⟨he, u4⟩; rw [HI3'.out] at he; refine ⟨he, ?_⟩; clear he; have v4 : Upd [] w3 w4 := ((Upd.refl [] w3).drew).trans u4 (by simp); have U4 : Hd (True ∧ Upd [] w3 w4) := Hd.mk ⟨trivial, v4⟩; have R4 : Hd (Rf w4 a fs) := Hd.mk (HQ.out.2.upd v4); have e4 := (v4.blk HQ.out.1.2.2.1 (by simp)).cell 1; have e5 := ((v4.alloc (.cells #[.string ⟨#[120, 45, 105, 100]⟩, .string idb, .string ⟨#[120, 45, 118, 101, 114, 115, 105, 111, 110]⟩, .string i3] 44)).blk HQ.out.1.2.2.1 (by simp)).cell 1; simp only [List.getElem?_cons_zero, List.getElem?_cons_succ] at e4 e5; clear u4 v4 tok1 _t c7 e1 f1)
    | (have _t := R4; clear _t; refine step_app_f rfl (.tmp 23) (.tmp 25) rfl (⟨#[120, 45, 105, 100]⟩, idb) (⟨#[120, 45, 118, 101, 114, 115, 105, 111, 110]⟩, i3) a fs.length cap fs rfl hn R4.out (by go_simp) (by go_simp) ?_; intro a6 p6 w6 r6 n6 u6; have U6 : Hd (Rf w6 a6 ((⟨#[120, 45, 105, 100]⟩, idb) :: (⟨#[120, 45, 118, 101, 114, 115, 105, 111, 110]⟩, i3) :: fs) ∧ (∀ b off, a6 = some ⟨b, off, none⟩ → w3.heap.size ≤ b) ∧ Upd [] w3 w6) := Hd.mk ⟨r6, fun b off e => Nat.le_trans U4.out.2.size (n6 b off e), U4.out.2.trans u6 (by simp)⟩; have k6 := (U6.out.2.2.blk HQ.out.1.2.2.1 (by simp)).cell 1; have l6 := (U6.out.2.2.blk HQ.out.1.2.2.1 (by simp)).free 1; simp only [List.getElem?_cons_zero, List.getElem?_cons_succ] at k6; clear r6 n6 u6 e4 e5))
  all_goals
    have hz6 := HQ.out.1.2.2.1.lt
    have hu7 : Upd [x3] w6 (w6.setCell ⟨x3, 1, none⟩ (.slice a6 (fs.length + 2) p6)) := (Upd.refl _ _).set _ _ (by simp)
    have h7 := mark_set HQ.out.1 U6.out.2.2 HX.out.1 HX.out.2 HN3.out (.slice a6 (fs.length + 2) p6)
    have r7 := U6.out.1.set ⟨x3, 1, none⟩ (.slice a6 (fs.length + 2) p6) (fun b off e q => by have := U6.out.2.1 b off e; simp only at q; omega)
    refine wp_abs (fun W => Mk3 w x1 x2 x3 cc [.int .i64 0, .slice none 0 0, .string ⟨#[]⟩, .bool false] [.int .i64 k, .slice a6 (fs.length + 2) p6, .string bd, .bool cl] W ∧ Rf W a6 ((⟨#[120, 45, 105, 100]⟩, idb) :: (⟨#[120, 45, 118, 101, 114, 115, 105, 111, 110]⟩, i3) :: fs)) ⟨h7, r7⟩ ?_
    have HA6 := Hd.mk U6.out.2.1
    clear k6 l6 hu7 h7 r7 U6 hz6
    rintro w7 ⟨m7, r7⟩
    have HM := Hd.mk m7
    have HR7 := Hd.mk r7
    have b3 := m7.2.2.1
    have b2 := m7.2.1
    have hn23 : x2 ≠ x3 := by have := HN3.out; omega
    have hn32 : x3 ≠ x2 := fun e => hn23 e.symm
    have l3 := b3.free 3
    have g0 := b2.free 0
    have g1 := b2.free 1
    have g2 := b2.free 2
    have g3 := b2.free 3
    have a4 := (m7.1.cell 4).trans HCD.out.2.2.2
    have d0 := b3.cell 0
    have d1 := b3.cell 1
    have d2 := b3.cell 2
    have d3 := b3.cell 3
    simp only [List.getElem?_cons_zero, List.getElem?_cons_succ] at d0 d1 d2 d3
    have n0 := b2.cell 0
    have n1 := b2.cell 1
    have n2 := b2.cell 2
    have n3 := b2.cell 3
    simp only [List.getElem?_cons_zero, List.getElem?_cons_succ] at n0 n1 n2 n3
    clear m7 r7 b3 b2
    have HLT := Hd.mk HQ.out.1.2.2.1.lt
    cases cl with
    | false =>
      go_wp2_with fail
      have hq := mark_end HM.out rfl HX.out.1 HX.out.2 HN3.out (.bool cs) (.int .i64 k) (.slice a6 (fs.length + 2) p6) (.string bd) (.bool cs)
      have hr := mark_rf HR7.out HN3.out HLT.out HA6.out (.bool cs) (.int .i64 k) (.slice a6 (fs.length + 2) p6) (.string bd) (.bool cs)
      refine bodyPost_ret (results_cell _ _ _ 3 36 x2 (Pc k a6 (fs.length + 2) p6 bd cs) 36 rfl rfl hq.1 (by kernel_rfl) (by kernel_rfl)) rfl ⟨a6, p6, rfl, ?_, hq.2⟩
      rw [HIDE.out, HI3'.out]
      exact hr
    | true =>
      go_wp2_with fail
      have hq := mark_end HM.out rfl HX.out.1 HX.out.2 HN3.out (.bool true) (.int .i64 k) (.slice a6 (fs.length + 2) p6) (.string bd) (.bool true)
      have hr := mark_rf HR7.out HN3.out HLT.out HA6.out (.bool true) (.int .i64 k) (.slice a6 (fs.length + 2) p6) (.string bd) (.bool true)
      refine bodyPost_ret (results_cell _ _ _ 3 36 x2 (Pc k a6 (fs.length + 2) p6 bd true) 36 rfl rfl hq.1 (by kernel_rfl) (by kernel_rfl)) rfl ⟨a6, p6, rfl, ?_, hq.2⟩
      rw [HIDE.out, HI3'.out]
      exact hr
end Go.Proofs.YtghjdjbjdjbkkaaDoor
