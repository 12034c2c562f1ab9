/- Patterns: plainly; and path.Pattern. -/
import Derived.Test.YtndlbkiogagnaaaGreatDoorV7
import Derived.Test.YtndlbkiogagnaaaGreatDoorRg
namespace Go.Proofs.YtndlbkiogagnaaaGreatDoor
set_option linter.unusedSimpArgs false
set_option linter.unusedVariables false
set_option linter.unnecessarySimpa false
open Go.RowKit BigFrame

/-- May these be a pattern's segments, behind such names? -/
def okSegs : List Bs → List Bs → Bool
  | [], _ => true
  | x :: r, ns =>
    if kindL x = 0 then tokB x && !x.contains 37 && okSegs r ns
    else (kindL x != 2 || r.isEmpty) && tokB x.tail && !ns.contains x.tail && okSegs r (x.tail :: ns)
/-- May it be a pattern? -/
def patR : Bs → Bool
  | [] => false
  | c :: r => if c = 47 then (if r = [] then true else okSegs (splitL 47 r) [] && decide ((splitL 47 r).length ≤ 8)) else false
/-- The segments that Pattern tells. -/
def patS : Bs → List Bs
  | [] => []
  | c :: r => if c = 47 then (if r = [] then [] else if okSegs (splitL 47 r) [] then splitL 47 r else []) else []
theorem patS_segs {p : Bs} (h : patR p = true) : patS p = segsL p := by
  cases p with
  | nil => simp [patR] at h
  | cons c r =>
    simp only [patR] at h
    simp only [patS, segsL]
    by_cases hc : c = 47
    · subst hc
      rw [if_pos rfl] at h ⊢
      by_cases hr : r = []
      · subst hr; rw [if_pos rfl, if_pos rfl]
      · rw [if_neg hr] at h ⊢
        rw [Bool.and_eq_true] at h
        rw [if_pos h.1, if_neg (by simpa using hr)]
        rfl
    · rw [if_neg hc] at h; cases h
theorem splitL_le (c : UInt8) : ∀ (l : Bs), (splitL c l).length ≤ l.length + 1 ∧ ∀ x ∈ splitL c l, x.length ≤ l.length
  | [] => by simp [splitL]
  | a :: r => by
    have ih := splitL_le c r
    rw [splitL_cons]
    split
    · refine ⟨by simp; exact ih.1, fun x hx => ?_⟩
      rcases List.mem_cons.1 hx with e | e
      · subst e; simp
      · have := ih.2 x e; simp; omega
    · cases hs : splitL c r with
      | nil => exact absurd hs (splitL_ne c r)
      | cons b t =>
        rw [hs] at ih
        simp only [glue]
        refine ⟨by have := ih.1; simp at this ⊢; omega, fun x hx => ?_⟩
        rcases List.mem_cons.1 hx with e | e
        · subst e
          have := ih.2 b (by simp)
          simp; omega
        · have := ih.2 x (by simp [e])
          simp; omega
/-- The first part is the whole just if the sign is not in it. -/
theorem split_head (c : UInt8) (x : Bs) : ∃ h t, splitL c x = h :: t ∧ ((h = x) ↔ c ∉ x) := by
  by_cases hc : c ∈ x
  · refine ⟨_, _, splitL_two c x hc, ?_⟩
    constructor
    · intro e
      exact absurd hc (by rw [← e]; exact notin_take c x)
    · intro e; exact absurd hc e
  · exact ⟨x, [], splitL_last c x hc, by simp [hc]⟩
/-- A map whose keys are these. -/
def MNs (w : World) (mb : Nat) (ns : List Bs) : Prop := ∃ L, Mp w mb (fun k => .string k) L ∧ ∀ k : ByteArray, get L k = if k.data.toList ∈ ns then some (.bool true) else none
theorem MNs.upd {w w' : World} {mb : Nat} {ns : List Bs} {T : List Nat} (h : MNs w mb ns) (hu : Upd T w w') (hm : mb ∉ T) : MNs w' mb ns := by
  obtain ⟨L, h1, h2⟩ := h
  exact ⟨L, h1.upd hu hm, h2⟩
theorem MNs.look {w : World} {mb : Nat} {ns : List Bs} (h : MNs w mb ns) (k : ByteArray) : (Instr.lookup 72 (.map (some mb)) (.string k) false).run Tryz.prog w = .ok (.bool (ns.contains k.data.toList)) w := by
  obtain ⟨L, hL, hg⟩ := h
  rw [run_lookup_mp (P := Tryz.prog) (keyLaw_string (kt := 9) Tryz.underlying9) 72 Tryz.underlying72 (.bool false) (fun W => by kernel_rfl) hL k false, hg]
  by_cases e : k.data.toList ∈ ns
  · simp [e]
  · simp [e]
theorem MNs.put {w : World} {mb : Nat} {ns : List Bs} (h : MNs w mb ns) (k : ByteArray) : ∃ w', (Instr.mapUpdate 72 (.map (some mb)) (.string k) (.bool true)).run Tryz.prog w = .ok () w' ∧ MNs w' mb (k.data.toList :: ns) ∧ Upd [mb] w w' := by
  obtain ⟨L, hL, hg⟩ := h
  obtain ⟨c, w', hr, h3, h4⟩ := run_update_mp (P := Tryz.prog) (keyLaw_string (kt := 9) Tryz.underlying9) 72 Tryz.underlying72 hL k (.bool true)
  refine ⟨w', hr, ⟨_, h3, fun k' => ?_⟩, h4⟩
  rw [get_put, hg]
  by_cases e : k' = k
  · subst e; simp
  · have e' : ¬ k'.data.toList = k.data.toList := fun q => e (toList_inj q)
    rw [if_neg e]
    simp [e']
theorem Sl.notMap {w : World} {e : TypeId} {sz : Nat} {v : Value} {n : Nat} {xs : List Value} (h : Sl w e sz v n xs) {mb : Nat} {ns : List Bs} (hm : MNs w mb ns) : mb ∉ ownB v := by
  intro hk
  obtain ⟨L, hL, -⟩ := hm
  rcases h.2 with ⟨rfl, _⟩ | ⟨g, o, cap, cur, rfl, hb, _⟩
  · simp [ownB] at hk
  · simp [ownB] at hk
    subst hk
    exact hL.other _ _ hb
theorem Bld.besides {w0 w w' : World} {S : List Nat} {e : TypeId} {sz : Nat} {v : Value} {n : Nat} {xs : List Value} (h : Bld w0 w e sz v n xs) (u : Upd S w w') (hS : ∀ k, k ∈ S → k ∉ ownB v ∧ w0.heap.size ≤ k) : Bld w0 w' e sz v n xs :=
  ⟨h.sl.upd u (fun k hk e => (hS k e).1 hk), h.own, h.upd.trans u (fun k hk e => by have := (hS k e).2; omega)⟩
end Go.Proofs.YtndlbkiogagnaaaGreatDoor
