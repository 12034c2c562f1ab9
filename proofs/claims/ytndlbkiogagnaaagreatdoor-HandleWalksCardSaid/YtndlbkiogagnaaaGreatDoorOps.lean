/- Structs stored and loaded at any place of a block that is told whole. -/
import Derived.Test.YtndlbkiogagnaaaGreatDoorMem
import Derived.Deep.QuietTactic
import Derived.BigQuiet
namespace Go.Proofs.YtndlbkiogagnaaaGreatDoor
set_option linter.unusedSimpArgs false
set_option linter.unusedVariables false
set_option linter.unnecessarySimpa false
open Go.RowKit
section
variable {P : Program}

/-- A type of several cells: a struct, an array. -/
def aggB (P : Program) (ty : TypeId) : Bool := match P.underlying ty with | some (.struct _) | some (.array _ _) => true | _ => false
theorem run_isAgg {ty : TypeId} (h : aggB P ty = true) (w : World) : (isAgg ty).run P w = .ok true w := by
  unfold aggB at h
  cases hu : P.underlying ty with
  | none => rw [hu] at h; cases h
  | some d =>
    rw [hu] at h
    unfold isAgg
    rw [Sem.run_bind, run_underlying hu w]
    cases d <;> simp_all

/-- The cells vs laid over cs from o on. -/
def putL (cs : List Value) (o : Nat) (vs : List Value) : List Value := cs.take o ++ vs ++ cs.drop (o + vs.length)

theorem putL_len (cs : List Value) (o : Nat) (vs : List Value) (h : o + vs.length ≤ cs.length) : (putL cs o vs).length = cs.length := by
  simp [putL]; omega
theorem putL_in (cs : List Value) (o : Nat) (vs : List Value) (h : o + vs.length ≤ cs.length) (k : Nat) (hk : k < vs.length) : (putL cs o vs)[o + k]? = vs[k]? := by
  have hm : min o cs.length = o := by omega
  simp only [putL, List.getElem?_append, List.length_append, List.length_take, hm]
  rw [if_pos (by omega), if_neg (by omega)]
  congr 1
  omega
theorem putL_out (cs : List Value) (o : Nat) (vs : List Value) (h : o + vs.length ≤ cs.length) (i : Nat) (hi : i < o ∨ o + vs.length ≤ i) : (putL cs o vs)[i]? = cs[i]? := by
  have hm : min o cs.length = o := by omega
  simp only [putL, List.getElem?_append, List.length_append, List.length_take, hm]
  rcases hi with hi | hi
  · rw [if_pos (by omega), if_pos hi, List.getElem?_take, if_pos hi]
  · rw [if_neg (by omega), List.getElem?_drop]
    congr 1
    omega

theorem wp_store_blk {o : Oper} {a : Act} {w : World} {K : Act → World → Prop} {Q : Exit → Act → World → Prop} (ty : TypeId) (x y : Operand) (ho : o.op = .store ty x y)
    (b off : Nat) (vs cs : List Value) (t : TypeId) (hx : a.eval x = .pointer (some ⟨b, off, none⟩)) (hy : a.eval y = .agg vs.toArray) (hb : Blk w b cs t)
    (hi : (P.info? ty).map (·.size) = some vs.length) (hfit : off + vs.length ≤ cs.length) (h1 : vs.all (·.oneCell') = true)
    (h : K (a.put o.dst undef) (w.setRow b (putL cs off vs).toArray)) : o.wp P a w K Q := by
  have hr := run_storeCells_at P b off t vs 0 cs.toArray w hb (by simpa using hfit) (fun v hv => List.all_eq_true.1 h1 v hv)
  simp only [Nat.add_zero] at hr
  have hs : (storeVar ty ⟨b, off, none⟩ (.agg vs.toArray)).run P w = .ok () (w.setRow b (putL cs off vs).toArray) := by
    cases hq : P.info? ty with
    | none => simp [hq] at hi
    | some i =>
      have hz : i.size = vs.length := by simpa [hq] using hi
      simp [storeVar, sizeOf, typeInfo, hq, Value.cells, hz, hr, putL]
  unfold Oper.wp execOp
  simp only [ho, hx, hy, Instr.storeAt, Instr.sureAddr, Sem.run_bind, Sem.run_pure, Result.andThen_ok, hs]
  exact h

theorem wpList_store_blk {ops : Array Oper} {rest : List Oper} {o : Oper} {a : Act} {w : World} {Q : Exit → Act → World → Prop} (hgd : o.guard = none) (hdst : o.dst = none) (ty : TypeId) (x y : Operand) (ho : o.op = .store ty x y)
    (b off : Nat) (vs cs : List Value) (t : TypeId) (hx : a.eval x = .pointer (some ⟨b, off, none⟩)) (hy : a.eval y = .agg vs.toArray) (hb : Blk w b cs t)
    (hi : (P.info? ty).map (·.size) = some vs.length) (hfit : off + vs.length ≤ cs.length) (h1 : vs.all (·.oneCell') = true)
    (h : ∀ w', Blk w' b (putL cs off vs) t → Upd [b] w w' → wpList P ops Q rest a w') : wpList P ops Q (o :: rest) a w :=
  wpList_plain hgd fun _ hK => wp_store_blk ty x y ho b off vs cs t hx hy hb hi hfit h1 (by rw [hdst]; exact hK _ _ (h _ (hb.row _) ((Upd.refl _ _).row _ _ (by simp))))

/-- The world is forgotten but for what is told of it. -/
theorem wp_abs {R : Act → World → Prop} {a : Act} {w : World} (F : World → Prop) (hF : F w) (h : ∀ w', F w' → R a w') : R a w := h w hF

theorem run_load_blk (w : World) (b off : Nat) (ty : TypeId) (cs : List Value) (t : TypeId) (n : Nat) (hb : Blk w b cs t)
    (hA : aggB P ty = true) (hi : (P.info? ty).map (·.size) = some n) (hfit : off + n ≤ cs.length) :
    (loadVar ty ⟨b, off, none⟩).run P w = .ok (.agg ((cs.drop off).take n).toArray) w := by
  have hl : (loadCells ⟨b, off, none⟩ ((cs.drop off).take n).length).run P w = .ok ((cs.drop off).take n).toArray w :=
    run_loadCells_list (P := P) w ⟨b, off, none⟩ _ (fun j v hv => by
      have hadd : (⟨b, off, none⟩ : Addr).add j = ⟨b, off + j, none⟩ := by unfold Addr.add; split <;> simp_all
      rw [hadd, hb.cell]
      rw [List.getElem?_take] at hv
      split at hv
      · rwa [List.getElem?_drop] at hv
      · cases hv)
  have hn : ((cs.drop off).take n).length = n := by simp; omega
  cases hq : P.info? ty with
  | none => simp [hq] at hi
  | some i =>
    have hs : i.size = n := by simpa [hq] using hi
    have hagg := run_isAgg hA w
    rw [hn] at hl
    simp [loadVar, Sem.run_bind, hagg, sizeOf, typeInfo, hq, hs, hl]

theorem wp_load_blk {o : Oper} {a : Act} {w : World} {K : Act → World → Prop} {Q : Exit → Act → World → Prop} (ty : TypeId) (x : Operand) (ho : o.op = .load ty x)
    (b off : Nat) (hx : a.eval x = .pointer (some ⟨b, off, none⟩)) (cs : List Value) (t : TypeId) (n : Nat) (hb : Blk w b cs t)
    (hA : aggB P ty = true) (hi : (P.info? ty).map (·.size) = some n) (hfit : off + n ≤ cs.length)
    (h : K (a.put o.dst (.agg ((cs.drop off).take n).toArray)) w) : o.wp P a w K Q := by
  unfold Oper.wp execOp
  simp only [ho, hx, Instr.loadAt, Instr.sureAddr, Sem.run_bind, Sem.run_pure, Result.andThen_ok, run_load_blk w b off ty cs t n hb hA hi hfit]
  exact h

theorem wpList_load_blk {ops : Array Oper} {rest : List Oper} {o : Oper} {a : Act} {w : World} {Q : Exit → Act → World → Prop} (hgd : o.guard = none) (ty : TypeId) (x : Operand) (ho : o.op = .load ty x)
    (b off : Nat) (hx : a.eval x = .pointer (some ⟨b, off, none⟩)) (cs : List Value) (t : TypeId) (n : Nat) (hb : Blk w b cs t)
    (hA : aggB P ty = true) (hi : (P.info? ty).map (·.size) = some n) (hfit : off + n ≤ cs.length)
    (h : wpList P ops Q rest (a.put o.dst (.agg ((cs.drop off).take n).toArray)) w) : wpList P ops Q (o :: rest) a w :=
  wpList_plain hgd fun _ hK => wp_load_blk ty x ho b off hx cs t n hb hA hi hfit (hK _ _ h)

theorem quiet_load_blk {C : World → Prop} {o : Oper} {a : Act} {K : Act → Prop} (ty : TypeId) (x : Operand) (ho : o.op = .load ty x)
    (b off : Nat) (hx : a.eval x = .pointer (some ⟨b, off, none⟩)) (cs : List Value) (t : TypeId) (n : Nat) (hb : ∀ w, C w → Blk w b cs t)
    (hA : aggB P ty = true) (hi : (P.info? ty).map (·.size) = some n) (hfit : off + n ≤ cs.length)
    (h : K (a.put o.dst (.agg ((cs.drop off).take n).toArray))) : o.quiet P a C K := by
  refine ⟨_, fun w hw => ?_, h⟩
  unfold Oper.quietAt execOp
  simp only [ho, hx, Instr.loadAt, Instr.sureAddr, Sem.run_bind, Sem.run_pure, Result.andThen_ok, run_load_blk w b off ty cs t n (hb w hw) hA hi hfit]
  exact ⟨rfl, rfl⟩

/-- make of so many elements, by numbers that the walk has reckoned. -/
theorem run_make_cells (t e : TypeId) (z : Value) (size bytes : Nat) (ht : P.underlying t = some (.slice e)) (hi : (P.info? e).map (fun i => (i.zero, i.size, i.bytes)) = some (some z, size, bytes)) (hb : bytes ≤ 1048576)
    (c : Int) (w : World) (h0 : 0 ≤ c) (h1 : c ≤ 1048576) : (Instr.makeSlice t (.int .i64 c) (.int .i64 c)).run P w = .ok (.slice (some ⟨w.heap.size, 0, none⟩) c.toNat c.toNat) (w.alloc (.cells (madeCells z.cells (c.toNat * size)) e)) := by
  obtain ⟨i, hi2, hz, hs, hby⟩ := info_parts hi
  subst hs
  refine run_make w t e i z ht hi2 hz .i64 .i64 c c h0 (Int.le_refl _) ?_ (by omega)
  rw [hby]
  have : (bytes : Int) * c ≤ 1048576 * 1048576 := Int.mul_le_mul (by omega) h1 h0 (by omega)
  omega

theorem results_cell (w : World) (fn : Func) (tmps : Array Value) (p : Tmp) (ty : TypeId) (b : Nat) (cs : List Value) (t : TypeId) (h : fn.results = #[.cell p ty]) (hp : tmps.getD p undef = .pointer (some ⟨b, 0, none⟩)) (hb : Blk w b cs t)
    (hA : aggB P ty = true) (hi : (P.info? ty).map (·.size) = some cs.length) :
    (results fn tmps).run P w = .ok (.agg cs.toArray) w := by
  have hp' : tmps[p]?.getD undef = .pointer (some ⟨b, 0, none⟩) := by simpa using hp
  have := run_load_blk (P := P) w b 0 ty cs t cs.length hb hA hi (by omega)
  simp at this
  simp [results, h, hp', asAddr, this]

theorem results_cell_tmp (w : World) (fn : Func) (tmps : Array Value) (p q : Tmp) (ty : TypeId) (b : Nat) (cs : List Value) (t : TypeId) (h : fn.results = #[.cell p ty, .tmp q]) (hp : tmps.getD p undef = .pointer (some ⟨b, 0, none⟩)) (hb : Blk w b cs t)
    (hA : aggB P ty = true) (hi : (P.info? ty).map (·.size) = some cs.length) :
    (results fn tmps).run P w = .ok (.tuple #[.agg cs.toArray, tmps.getD q undef]) w := by
  have hp' : tmps[p]?.getD undef = .pointer (some ⟨b, 0, none⟩) := by simpa using hp
  have := run_load_blk (P := P) w b 0 ty cs t cs.length hb hA hi (by omega)
  simp at this
  simp [results, h, hp', asAddr, this]
end
end Go.Proofs.YtndlbkiogagnaaaGreatDoor
