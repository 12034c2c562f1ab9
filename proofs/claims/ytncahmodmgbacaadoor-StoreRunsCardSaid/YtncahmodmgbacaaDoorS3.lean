/- Store: what a store is; New. -/
import Derived.Test.YtncahmodmgbacaaDoorS2
import Derived.Test.YtncahmodmgbacaaDoorMk
import Derived.Test.YtncahmodmgbacaaDoorRg
import Derived.LoopN
namespace Go.Proofs.YtncahmodmgbacaaDoor
set_option linter.unusedSimpArgs false
set_option linter.unusedVariables false
set_option linter.unnecessarySimpa false
open Go.RowKit BigFrame

abbrev St := ByteArray → Option ByteArray
/-- The map in block r has the keys and values of m, n of them. -/
def MS (w : World) (r : Nat) (m : St) (n : Nat) : Prop := ∃ L, Mp w r (fun k => .string k) L ∧ (∀ k, get L k = (m k).map .string) ∧ L.length = n
theorem MS.upd {w w' : World} {S : List Nat} {r n : Nat} {m : St} (h : MS w r m n) (hu : Upd S w w') (hr : r ∉ S) : MS w' r m n := by
  obtain ⟨L, h1, h2⟩ := h
  exact ⟨L, h1.upd hu hr, h2⟩
theorem MS.lt {w : World} {r n : Nat} {m : St} (h : MS w r m n) : r < w.heap.size := by
  obtain ⟨L, h1, h2⟩ := h
  exact h1.lt
def shd (k : ByteArray) : Nat := shdL k.data.toList
def part (m : St) (i : Nat) : St := fun k => if shd k = i then m k else none
def scells (o : Nat → Int) (r : Nat → Nat) : List Value := [.int .i64 (o 0), .map (some (r 0)), .int .i64 (o 1), .map (some (r 1)), .int .i64 (o 2), .map (some (r 2)), .int .i64 (o 3), .map (some (r 3))]
def foot (p : Nat) (r : Nat → Nat) : List Nat := [p, r 0, r 1, r 2, r 3]
/-- A store made behind w0: its owners, its keys and values, how many each shard has. -/
structure Sto (w0 w : World) (p : Nat) (r : Nat → Nat) (o : Nat → Int) (m : St) (n : Nat → Nat) : Prop where
  blk : Blk w p (scells o r) 63
  map : ∀ i, i < 4 → MS w (r i) (part m i) (n i)
  ne : ∀ i j, i < 4 → j < 4 → i ≠ j → r i ≠ r j
  new : ∀ k, k ∈ foot p r → w0.heap.size ≤ k
  upd : Upd [] w0 w
theorem MS.new (w : World) : MS (w.alloc (.map #[] 0)) w.heap.size (fun _ => none) 0 := ⟨[], Mp.new w _, fun _ => rfl, rfl⟩
theorem MS.new' (w : World) (r : Nat) (h : w.heap.size = r) : MS (w.alloc (.map #[] 0)) r (fun _ => none) 0 := by subst h; exact MS.new w
set_option maxRecDepth 100000 in
theorem new_ok (w : World) : Calls Tryd.prog 15 #[] w fun e w' => ∃ p r, e = .returned (.pointer (some ⟨p, 0, none⟩)) ∧ Sto w w' p r (fun _ => 0) (fun _ => none) (fun _ => 0) := by
  have hmm := @run_makeMap Tryd.prog
  go_enter Tryd.func15, Tryd.ntmps15
  go_upto_region 3 with (fail)
  refine wp_loop_rounds 5 ?_
  rw [rounds_succ]
  go_wp2_with fail
  rw [rounds_succ]
  go_wp2_with fail
  rw [rounds_succ]
  go_wp2_with fail
  rw [rounds_succ]
  go_wp2_with fail
  rw [rounds_succ]
  go_wp2_with fail
  go_ret
  refine ⟨w.heap.size, fun i => w.heap.size + 1 + i, rfl, ?_, ?_, ?_, ?_, ?_⟩
  · exact Blk.as ((((((Blk.new w _ _ _ rfl).alloc _).alloc _).alloc _).alloc _)) (by simp [scells, Nat.add_assoc])
  · intro i hi
    have e : part (fun _ => none) i = fun _ => none := by funext k; simp [part]
    rw [e]
    rcases (by omega : i = 0 ∨ i = 1 ∨ i = 2 ∨ i = 3) with e | e | e | e <;> subst e
    · exact (MS.new' _ _ (by simp)).upd (S := []) (((Upd.refl _ _).alloc _).alloc _ |>.alloc _) (by simp)
    · exact (MS.new' _ _ (by simp)).upd (S := []) (((Upd.refl _ _).alloc _).alloc _) (by simp)
    · exact (MS.new' _ _ (by simp)).upd (S := []) ((Upd.refl _ _).alloc _) (by simp)
    · exact (MS.new' _ _ (by simp))
  · intro i j _ _ h
    simp
    omega
  · intro k hk
    simp [foot] at hk
    omega
  · exact (((((Upd.refl [] w).alloc _).alloc _).alloc _).alloc _).alloc _

/-- May they lock it? -/
def freeB (o : Nat → Int) (ow i : Int) : Bool := decide (0 < ow ∧ 0 ≤ i ∧ i < 4 ∧ (o i.toNat = 0 ∨ o i.toNat = ow))
theorem Sto.ow {w0 w : World} {p : Nat} {r : Nat → Nat} {o : Nat → Int} {m : St} {n : Nat → Nat} (h : Sto w0 w p r o m n) {i : Nat} (hi : i < 4) : w.cell? ⟨p, i * 2, none⟩ = some (.int .i64 (o i)) := by
  rw [h.blk.cell]
  rcases (by omega : i = 0 ∨ i = 1 ∨ i = 2 ∨ i = 3) with e | e | e | e <;> subst e <;> rfl
theorem Sto.mp {w0 w : World} {p : Nat} {r : Nat → Nat} {o : Nat → Int} {m : St} {n : Nat → Nat} (h : Sto w0 w p r o m n) {i : Nat} (hi : i < 4) : w.cell? ⟨p, i * 2 + 1, none⟩ = some (.map (some (r i))) := by
  rw [h.blk.cell]
  rcases (by omega : i = 0 ∨ i = 1 ∨ i = 2 ∨ i = 3) with e | e | e | e <;> subst e <;> rfl
theorem free_ok {w0 w : World} {p : Nat} {r : Nat → Nat} {o : Nat → Int} {m : St} {n : Nat → Nat} (h : Sto w0 w p r o m n) (ow i : Int) :
    Calls Tryd.prog 23 #[.pointer (some ⟨p, 0, none⟩), .int .i64 ow, .int .i64 i] w fun e w' => e = .returned (.bool (freeB o ow i)) ∧ w' = w := by
  have HS := Hd.mk h
  clear h
  by_cases hi : 0 ≤ i ∧ i < 4
  · obtain ⟨k, rfl⟩ : ∃ k : Nat, i = k := ⟨i.toNat, by omega⟩
    have hk : k < 4 := by omega
    have hc := HS.out.ow hk
    have HF := Hd.mk (show freeB o ow k = decide (0 < ow ∧ (o k = 0 ∨ o k = ow)) by unfold freeB; rw [decide_eq_decide]; simp; omega)
    generalize o k = x at hc HF
    by_cases h1 : 0 < ow
    · have d1 : decide (0 < ow) = true := decide_eq_true h1
      by_cases h2 : x = 0
      · subst h2
        go_enter Tryd.func23, Tryd.ntmps23
        go_wp2_with fail
        go_ret
        exact ⟨by rw [HF.out]; exact rb (by simp [h1]), rfl⟩
      · have d2 : (x == 0) = false := by simpa using h2
        by_cases h3 : x = ow
        · subst h3
          go_enter Tryd.func23, Tryd.ntmps23
          go_wp2_with fail
          go_ret
          exact ⟨by rw [HF.out]; exact rb (by simp [h1]), rfl⟩
        · have d3 : (x == ow) = false := by simpa using h3
          go_enter Tryd.func23, Tryd.ntmps23
          go_wp2_with fail
          go_ret
          exact ⟨by rw [HF.out]; exact rb (by simp [h1, h2, h3]), rfl⟩
    · have d1 : decide (0 < ow) = false := decide_eq_false h1
      go_enter Tryd.func23, Tryd.ntmps23
      go_wp2_with fail
      go_ret
      exact ⟨by rw [HF.out, decide_eq_false (by omega)]; rfl, rfl⟩
  · have HF := Hd.mk (show freeB o ow i = false by unfold freeB; exact decide_eq_false (by omega))
    by_cases h1 : 0 < ow
    · have d1 : decide (0 < ow) = true := decide_eq_true h1
      by_cases h2 : 0 ≤ i
      · have d2 : decide (0 ≤ i) = true := decide_eq_true h2
        have d3 : decide (i < 4) = false := decide_eq_false (by omega)
        go_enter Tryd.func23, Tryd.ntmps23
        go_wp2_with fail
        go_ret
        exact ⟨by rw [HF.out]; rfl, rfl⟩
      · have d2 : decide (0 ≤ i) = false := decide_eq_false h2
        go_enter Tryd.func23, Tryd.ntmps23
        go_wp2_with fail
        go_ret
        exact ⟨by rw [HF.out]; rfl, rfl⟩
    · have d1 : decide (0 < ow) = false := decide_eq_false h1
      go_enter Tryd.func23, Tryd.ntmps23
      go_wp2_with fail
      go_ret
      exact ⟨by rw [HF.out]; rfl, rfl⟩

def setO (o : Nat → Int) (i : Nat) (x : Int) : Nat → Int := fun j => if j = i then x else o j
theorem Sto.lock {w0 w : World} {p : Nat} {r : Nat → Nat} {o : Nat → Int} {m : St} {n : Nat → Nat} (h : Sto w0 w p r o m n) {i : Nat} (hi : i < 4) (x : Int) :
    Sto w0 (w.setCell ⟨p, i * 2, none⟩ (.int .i64 x)) p r (setO o i x) m n ∧ Upd [p] w (w.setCell ⟨p, i * 2, none⟩ (.int .i64 x)) := by
  have hu : Upd [p] w (w.setCell ⟨p, i * 2, none⟩ (.int .i64 x)) := (Upd.refl _ _).set _ _ (by simp)
  refine ⟨⟨?_, fun j hj => (h.map j hj).upd hu ?_, h.ne, h.new, h.upd.trans hu ?_⟩, hu⟩
  · refine (h.blk.set (i * 2) _).as ?_
    rcases (by omega : i = 0 ∨ i = 1 ∨ i = 2 ∨ i = 3) with e | e | e | e <;> subst e <;> rfl
  · intro e
    obtain ⟨L, hL, -⟩ := h.map j hj
    rw [List.mem_singleton] at e
    rw [e] at hL
    exact hL.other _ _ h.blk
  · intro k hk e
    rw [List.mem_singleton] at e
    subst e
    have := h.new k (by simp [foot])
    omega
theorem lock_no {w0 w : World} {p : Nat} {r : Nat → Nat} {o : Nat → Int} {m : St} {n : Nat → Nat} (h : Sto w0 w p r o m n) (ow i : Int) (hf : freeB o ow i = false) :
    Calls Tryd.prog 16 #[.pointer (some ⟨p, 0, none⟩), .int .i64 ow, .int .i64 i] w fun e w' => e = .returned (.bool false) ∧ w' = w := by
  have HS := Hd.mk h
  have HF := Hd.mk hf
  clear h hf
  go_enter Tryd.func16, Tryd.ntmps16
  go_wp2_with fail
  refine (free_ok HS.out ow i).mono ?_
  rintro e w1 ⟨rfl, rfl⟩
  rw [HF.out]
  go_wp2_with fail
  go_ret
  exact ⟨rfl, rfl⟩
theorem lock_yes {w0 w : World} {p : Nat} {r : Nat → Nat} {o : Nat → Int} {m : St} {n : Nat → Nat} (h : Sto w0 w p r o m n) (ow : Int) (i : Nat) (hf : freeB o ow i = true) :
    Calls Tryd.prog 16 #[.pointer (some ⟨p, 0, none⟩), .int .i64 ow, .int .i64 i] w fun e w' => e = .returned (.bool true) ∧ Sto w0 w' p r (setO o i ow) m n ∧ Upd [p] w w' := by
  have HS := Hd.mk h
  have HF := Hd.mk hf
  have hi : i < 4 := by
    unfold freeB at hf
    have := of_decide_eq_true hf
    omega
  have hc := h.ow hi
  have hz := h.blk.free (i * 2)
  clear h hf
  go_enter Tryd.func16, Tryd.ntmps16
  go_wp2_with fail
  refine (free_ok HS.out ow i).mono ?_
  rintro e w1 ⟨rfl, rfl⟩
  rw [HF.out]
  go_wp2_with fail
  go_ret
  have := HS.out.lock hi ow
  exact ⟨rfl, this.1, this.2⟩
end Go.Proofs.YtncahmodmgbacaaDoor
