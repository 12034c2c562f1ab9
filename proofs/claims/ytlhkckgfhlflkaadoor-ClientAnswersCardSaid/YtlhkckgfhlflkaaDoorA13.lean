/- A response that came in. -/
import Derived.Test.YtlhkckgfhlflkaaDoorA12
import Derived.Test.YtlhkckgfhlflkaaDoorFlat
namespace Go.Proofs.YtlhkckgfhlflkaaDoor
set_option linter.unusedSimpArgs false
set_option linter.unusedVariables false
set_option linter.unnecessarySimpa false
open Go.RowKit BigFrame

def rcells (k : Int) (fs : List (Bs × Bs)) (body : Bs) (cl : Bool) (a : Option Addr) (cap : Nat) : List Value := [.int .i64 k, .slice a fs.length cap, S body, .bool cl]
/-- What came in: its sizes are bounded. -/
structure Came (w : World) (k : Int) (fs : List (Bs × Bs)) (body : Bs) (a : Option Addr) : Prop where
  rf : Rf w a fs
  num : fs.length ≤ 140737488351232
  body : body.length ≤ 140737488351232
  each : ∀ f ∈ fs, f.1.length ≤ 140737488351232 ∧ f.2.length ≤ 140737488351232
  lit : (Lit.int .i64 k).wf = true
theorem Came.upd {w w' : World} {k : Int} {fs : List (Bs × Bs)} {body : Bs} {a : Option Addr} (h : Came w k fs body a) (hu : Upd [] w w') : Came w' k fs body a := ⟨h.rf.upd hu, h.num, h.body, h.each, h.lit⟩
theorem S_back (x : ByteArray) : Value.string x = S x.data.toList := by unfold S; rw [mk_data]
theorem leaf_f2 {w : World} {cs : List Value} (h : Leaf.oks w [.str, .str] cs) : ∃ f : Bs × Bs, cs = [S f.1, S f.2] ∧ f.1.length ≤ 140737488351232 ∧ f.2.length ≤ 140737488351232 := by
  simp only [Leaf.oks, Leaf.ok] at h
  obtain ⟨_, _, rfl, ⟨x, rfl, h1⟩, _, _, rfl, ⟨y, rfl, h2⟩, rfl⟩ := h
  exact ⟨(x.data.toList, y.data.toList), by rw [S_back, S_back], by simpa using h1, by simpa using h2⟩
theorem leaf_fs {w : World} {a : Option Addr} {n cap : Nat} (h : Leaf.ok w (.sl [.str, .str]) (.slice a n cap)) :
    ∃ fs : List (Bs × Bs), fs.length = n ∧ Rf w a fs ∧ n ≤ 140737488351232 ∧ ∀ f ∈ fs, f.1.length ≤ 140737488351232 ∧ f.2.length ≤ 140737488351232 := by
  have hn : n ≤ 140737488351232 := by
    simp only [Leaf.ok] at h
    obtain ⟨_, _, _, _, e, -, -, hz, -⟩ := h
    simp only [Value.slice.injEq] at e
    omega
  by_cases h0 : 0 < n
  · obtain ⟨b, off, V, rfl, hb, hm, hV⟩ := Leaf.open h h0 (by simp)
    have hx : ∀ i : Nat, ∃ f : Bs × Bs, i < n → V i = [S f.1, S f.2] ∧ f.1.length ≤ 140737488351232 ∧ f.2.length ≤ 140737488351232 := by
      intro i
      by_cases hi : i < n
      · obtain ⟨o, ho⟩ := leaf_f2 (hV i hi).1
        exact ⟨o, fun _ => ho⟩
      · exact ⟨([], []), fun h => absurd h hi⟩
    obtain ⟨F, hF⟩ := Classical.axiomOfChoice hx
    refine ⟨(List.range n).map F, by simp, fun _ => ⟨b, off, rfl, hb, fun i hi => ?_⟩, hn, fun f hf => ?_⟩
    · have hi : i < n := by simpa using hi
      have h1 := (hV i hi).2 0 (by simp)
      have h2 := (hV i hi).2 1 (by simp)
      rw [(hF i hi).1] at h1 h2
      simp only [List.length_cons, List.length_nil, Nat.zero_add, List.getElem?_cons_zero, List.getElem?_cons_succ, Nat.add_zero] at h1 h2
      simp only [List.getElem_map, List.getElem_range]
      exact ⟨h1, by rw [Nat.add_assoc]; exact h2⟩
    · obtain ⟨i, hi, rfl⟩ := List.mem_map.1 hf
      exact (hF i (by simpa using hi)).2
  · obtain rfl : n = 0 := by omega
    exact ⟨[], rfl, Rf.nil _ _, hn, by simp⟩
theorem leaf_rs {w : World} {cs : List Value} (h : Leaf.oks w [.int .i64, .sl [.str, .str], .str, .bool] cs) : ∃ k fs body cl a cap, cs = rcells k fs body cl a cap ∧ Came w k fs body a := by
  simp only [Leaf.oks] at h
  obtain ⟨_, _, rfl, h1, _, _, rfl, h2, _, _, rfl, h3, _, _, rfl, h4, rfl⟩ := h
  have h2' := h2
  simp only [Leaf.ok] at h1 h2' h3 h4
  obtain ⟨k, rfl, hk⟩ := h1
  obtain ⟨a, n, cap, _, rfl, -⟩ := h2'
  obtain ⟨x, rfl, hx⟩ := h3
  obtain ⟨cl, rfl⟩ := h4
  obtain ⟨fs, rfl, h5, h6, h7⟩ := leaf_fs h2
  exact ⟨k, fs, x.data.toList, cl, a, cap, by rw [S_back]; rfl, h5, h6, by simpa using hx, h7, hk⟩

def RightQ (k : Int) (fs : List (Bs × Bs)) (body : Bs) (cl : Bool) (w : World) (e : Ending) (w' : World) : Prop := ∃ b, e = .returned (.bool b) ∧ (b = true → ∃ n : Nat, k = n ∧ Fits ⟨n, fs, body, cl⟩) ∧ Upd [] w w'
set_option maxHeartbeats 2000000 in
theorem right_neg (k : Int) (x y z : Value) (w : World) (hk : k < 0) :
    Calls Tryd.prog 6 #[.agg #[.int .i64 k, x, y, z]] w fun e w' => e = .returned (.bool false) ∧ Upd [] w w' := by
  have B1 := Blk.new w [.int .i64 k, x, y, z] 26 _ rfl
  have HU := Hd.mk ((Upd.refl [] w).alloc (.cells #[.int .i64 k, x, y, z] 26))
  have c0 := B1.cell 0
  simp only [List.getElem?_cons_zero] at c0
  clear B1
  go_enter Tryd.func6, Tryd.ntmps6
  go_wp2_with fail
  go_ret
  exact ⟨rfl, HU.out⟩
theorem right_any (k : Int) (fs : List (Bs × Bs)) (body : Bs) (cl : Bool) (a : Option Addr) (cap : Nat) (w : World) (h : Came w k fs body a) :
    Calls Tryd.prog 6 #[.agg (rcells k fs body cl a cap).toArray] w (RightQ k fs body cl w) := by
  by_cases hk : k < 0
  · exact (right_neg k _ _ _ w hk).mono fun e w' h' => ⟨false, h'.1, by simp, h'.2⟩
  · obtain ⟨n, rfl⟩ : ∃ n : Nat, k = n := ⟨k.toNat, by omega⟩
    have hl : (n : Int) ≤ 9223372036854775807 := by
      have h2 : IntKind.i64.min ≤ (n : Int) ∧ (n : Int) ≤ IntKind.i64.max := by simpa [Lit.wf] using h.lit
      have e2 : IntKind.i64.max = 9223372036854775807 := rfl
      omega
    refine (right_ok ⟨n, fs, body, cl⟩ a cap w h.rf (by show n ≤ _; omega) (by have := h.num; show fs.length ≤ _; omega) (by have := h.body; show body.length ≤ _; omega) (fun f hf => by have := h.each f hf; omega)).mono fun e w' h' => ?_
    obtain ⟨b, he, hb, hu⟩ := h'
    exact ⟨b, he, fun e => ⟨n, rfl, hb e⟩, hu⟩
end Go.Proofs.YtlhkckgfhlflkaaDoor
