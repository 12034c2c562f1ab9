/- Blocks of memory, told whole; what a call may have changed; what holds behind stores, new blocks and draws. -/
import Derived.WalkKit
import Derived.WalkSpells
import Derived.WalkLawsBesides
import Derived.Deep.Draws
namespace Go.Proofs.YtndlbkiogagnaaaGreatDoor
set_option linter.unusedSimpArgs false
set_option linter.unusedVariables false
set_option linter.unnecessarySimpa false
open Go.RowKit

/-- A fact that the walk doesn't see. -/
def Hd (p : Prop) : Prop := p
theorem Hd.mk {p : Prop} (h : p) : Hd p := h
theorem Hd.out {p : Prop} (h : Hd p) : p := h

/-- Block b has these cells, none of them frozen. -/
def Blk (w : World) (b : Nat) (cs : List Value) (t : TypeId) : Prop := w.heap[b]? = some (.cells cs.toArray t (0, 0))

theorem Blk.lt {w : World} {b : Nat} {cs : List Value} {t : TypeId} (h : Blk w b cs t) : b < w.heap.size := (Array.getElem?_eq_some_iff.1 h).1
theorem Blk.cell {w : World} {b : Nat} {cs : List Value} {t : TypeId} (h : Blk w b cs t) (j : Nat) : w.cell? ⟨b, j, none⟩ = cs[j]? := by
  rw [cell_of_row w b j cs.toArray t (0, 0) h]; simp
theorem Blk.at {w : World} {b : Nat} {cs : List Value} {t : TypeId} (h : Blk w b cs t) (j : Nat) (hj : j < cs.length) : w.cell? ⟨b, j, none⟩ = some (cs.getD j undef) := by
  rw [h.cell]; simp [List.getD, List.getElem?_eq_getElem hj]
theorem Blk.free {w : World} {b : Nat} {cs : List Value} {t : TypeId} (h : Blk w b cs t) (j : Nat) : w.frozen? ⟨b, j, none⟩ = false := frozen_of_row w b j cs.toArray t h
theorem Blk.of_eq {w w' : World} {b : Nat} {cs : List Value} {t : TypeId} (h : Blk w b cs t) (e : w'.heap[b]? = w.heap[b]?) : Blk w' b cs t := e.trans h
theorem Blk.drewN {w : World} {b : Nat} {cs : List Value} {t : TypeId} (h : Blk w b cs t) (n : Nat) : Blk (w.drewN n) b cs t := h
theorem Blk.drew {w : World} {b : Nat} {cs : List Value} {t : TypeId} (h : Blk w b cs t) : Blk w.drew b cs t := h
theorem Blk.alloc {w : World} {b : Nat} {cs : List Value} {t : TypeId} (h : Blk w b cs t) (o : Obj) : Blk (w.alloc o) b cs t :=
  (Below.heap_alloc w o b h.lt).trans h
theorem Blk.new (w : World) (cs : List Value) (t : TypeId) (n : Nat) (hn : n = w.heap.size) : Blk (w.alloc (.cells cs.toArray t)) n cs t := by
  subst hn; exact heap_alloc_new w _
theorem Blk.set {w : World} {b : Nat} {cs : List Value} {t : TypeId} (h : Blk w b cs t) (i : Nat) (v : Value) : Blk (w.setCell ⟨b, i, none⟩ v) b (cs.set i v) t := by
  have := heap_setCell_same w b i cs.toArray t v h
  simpa [Blk] using this
theorem Blk.set_ne {w : World} {b : Nat} {cs : List Value} {t : TypeId} (h : Blk w b cs t) (a : Addr) (v : Value) (hne : b ≠ a.block) : Blk (w.setCell a v) b cs t :=
  (heap_setCell_other w a b v hne).trans h
theorem Blk.row {w : World} {b : Nat} {cs : List Value} {t : TypeId} (h : Blk w b cs t) (ds : List Value) : Blk (w.setRow b ds.toArray) b ds t :=
  setRow_heap w b cs.toArray ds.toArray t (0, 0) h
theorem Blk.row_ne {w : World} {b : Nat} {cs : List Value} {t : TypeId} (h : Blk w b cs t) (g : Nat) (ds : Array Value) (hne : b ≠ g) : Blk (w.setRow g ds) b cs t :=
  (setRow_other w g b ds hne).trans h
theorem Blk.uniq {w : World} {b : Nat} {cs ds : List Value} {t u : TypeId} (h : Blk w b cs t) (h' : Blk w b ds u) : cs = ds ∧ t = u := by
  have := h.symm.trans h'
  simp at this
  exact this

theorem Blk.as {w : World} {b : Nat} {cs ds : List Value} {t : TypeId} (h : Blk w b cs t) (e : cs = ds) : Blk w b ds t := e ▸ h

/-- But for the blocks S, and for new ones, memory is as it was. -/
structure Upd (S : List Nat) (w w' : World) : Prop where
  os : w'.os = w.os
  tape : w'.tape = w.tape
  output : w'.output = w.output
  size : w.heap.size ≤ w'.heap.size
  block : ∀ k, k < w.heap.size → k ∉ S → w'.heap[k]? = w.heap[k]?

theorem Upd.refl (S : List Nat) (w : World) : Upd S w w := ⟨rfl, rfl, rfl, Nat.le_refl _, fun _ _ _ => rfl⟩
theorem Upd.drewN {S : List Nat} {a w : World} (h : Upd S a w) (n : Nat) : Upd S a (w.drewN n) := ⟨h.os, h.tape, h.output, h.size, h.block⟩
theorem Upd.drew {S : List Nat} {a w : World} (h : Upd S a w) : Upd S a w.drew := ⟨h.os, h.tape, h.output, h.size, h.block⟩
theorem Upd.alloc {S : List Nat} {a w : World} (h : Upd S a w) (o : Obj) : Upd S a (w.alloc o) :=
  ⟨h.os, h.tape, h.output, by have := h.size; simp; omega, fun k hk hS => (Below.heap_alloc w o k (by have := h.size; omega)).trans (h.block k hk hS)⟩
theorem Upd.set {S : List Nat} {a w : World} (h : Upd S a w) (p : Addr) (v : Value) (hp : p.block < a.heap.size → p.block ∈ S) : Upd S a (w.setCell p v) :=
  ⟨h.os, h.tape, h.output, by have := h.size; simpa [World.setCell] using this, fun k hk hS => (heap_setCell_other w p k v (fun e => hS (e ▸ hp (e ▸ hk)))).trans (h.block k hk hS)⟩
theorem Upd.row {S : List Nat} {a w : World} (h : Upd S a w) (g : Nat) (cs : Array Value) (hp : g < a.heap.size → g ∈ S) : Upd S a (w.setRow g cs) :=
  ⟨h.os, h.tape, h.output, by have := h.size; simpa using this, fun k hk hS => (setRow_other w g k cs (fun e => hS (e ▸ hp (e ▸ hk)))).trans (h.block k hk hS)⟩
theorem Upd.trans {S T : List Nat} {a b c : World} (h : Upd S a b) (h' : Upd T b c) (hT : ∀ k, k < a.heap.size → k ∈ T → k ∈ S) : Upd S a c :=
  ⟨h'.os.trans h.os, h'.tape.trans h.tape, h'.output.trans h.output, Nat.le_trans h.size h'.size,
   fun k hk hS => (h'.block k (Nat.lt_of_lt_of_le hk h.size) (fun e => hS (hT k hk e))).trans (h.block k hk hS)⟩
theorem Upd.mono {S T : List Nat} {a b : World} (h : Upd S a b) (hT : ∀ k, k < a.heap.size → k ∈ S → k ∈ T) : Upd T a b :=
  ⟨h.os, h.tape, h.output, h.size, fun k hk hS => h.block k hk (fun e => hS (hT k hk e))⟩
theorem Upd.blk {S : List Nat} {a b : World} (h : Upd S a b) {k : Nat} {cs : List Value} {t : TypeId} (hb : Blk a k cs t) (hk : k ∉ S) : Blk b k cs t :=
  hb.of_eq (h.block k hb.lt hk)
theorem Upd.below {S : List Nat} {a b : World} (h : Upd S a b) (B : Nat) (hB : B ≤ a.heap.size) (hS : ∀ k, k ∈ S → B ≤ k) : Below B a b :=
  ⟨h.os, h.tape, h.output, h.size, fun k hk => h.block k (by omega) (fun e => by have := hS k e; omega)⟩
theorem Upd.of_below {a b : World} {B : Nat} (h : Below B a b) (S : List Nat) (hS : ∀ k, k < a.heap.size → B ≤ k → k ∈ S) : Upd S a b :=
  ⟨h.os, h.tape, h.output, h.size, fun k hk hn => h.block k (by apply Classical.byContradiction; intro e; exact hn (hS k hk (by omega)))⟩
theorem Upd.of_drawn {a b : World} (h : ∃ n, b = a.drewN n) (S : List Nat) : Upd S a b := by
  obtain ⟨n, rfl⟩ := h; exact (Upd.refl S a).drewN n
theorem Upd.nil_below {a b : World} (h : Upd [] a b) : Below a.heap.size a b := h.below _ (Nat.le_refl _) (by simp)
theorem Upd.cell {S : List Nat} {a b : World} (h : Upd S a b) {p : Addr} (hp : p.block < a.heap.size) (hn : p.block ∉ S) : b.cell? p = a.cell? p :=
  World.cell?_of_block (h.block p.block hp hn)
theorem Upd.frozen {S : List Nat} {a b : World} (h : Upd S a b) {p : Addr} (hp : p.block < a.heap.size) (hn : p.block ∉ S) : b.frozen? p = a.frozen? p :=
  World.frozen?_of_block (h.block p.block hp hn)

end Go.Proofs.YtndlbkiogagnaaaGreatDoor
