/- Tries: TrieWords, plainly. -/
import Derived.Test.YtiombjmkaejjfaaDoorV26
namespace Go.Proofs.YtiombjmkaejjfaaDoor
set_option linter.unusedSimpArgs false
set_option linter.unusedVariables false
set_option linter.unnecessarySimpa false
open Go.RowKit BigFrame

/-- A word's route. -/
def wrt (s : Bs) : Rt := ⟨gET, 47 :: s, [103, 101, 116]⟩
/-- May it be a word here? -/
structure Wd (s : Bs) : Prop where
  ne : s ≠ []
  kind : kindL s = 0
  len : s.length ≤ 30
  right : rgtB (wrt s) = true
theorem Wd.rgt {s : Bs} (h : Wd s) : Rgt (wrt s) := by
  have h1 := h.right
  simp only [rgtB, Bool.and_eq_true] at h1
  refine ⟨h1.1.1, ?_⟩
  have := h.len
  show (47 :: s).length ≤ _
  simp
  omega
theorem Wd.shp {s : Bs} (h : Wd s) (h47 : (47 : UInt8) ∉ s) : shp (wrt s) = [Sg.word s] := by
  have h1 : segsL (47 :: s) = [s] := by
    unfold segsL
    rw [if_neg (by have := h.ne; simpa using this)]
    exact splitL_last 47 s h47
  show (segsL (47 :: s)).map absS = _
  rw [h1, List.map_singleton, abs0 h.kind]
theorem filter_none {α : Type} {L : List α} {p : α → Bool} (h : ∀ x ∈ L, p x = false) : L.filter p = [] := by
  rw [List.filter_eq_nil_iff]
  intro x hx
  rw [h x hx]
  simp
theorem words_mt (W : List Bs) (L : List Rt) (hW : ∀ s ∈ W, Wd s) (h47 : ∀ s ∈ W, (47 : UInt8) ∉ s) (hL : ∀ r, r ∈ L ↔ ∃ s ∈ W, r = wrt s) (x : Bs) : (mtL L gET [x]).2 = decide (x ∈ W) := by
  have hsh : ∀ r ∈ L, ∃ s ∈ W, r = wrt s ∧ shp r = [Sg.word s] := by
    intro r hr
    obtain ⟨s, hs, rfl⟩ := (hL r).1 hr
    exact ⟨s, hs, rfl, (hW s hs).shp (h47 s hs)⟩
  have hany : L.filter (fun r => decide (shp r = [Sg.any])) = [] := filter_none fun r hr => by
    obtain ⟨s, _, _, h⟩ := hsh r hr
    rw [h]
    simp
  have hall : L.filter (fun r => decide (shp r = [Sg.all])) = [] := filter_none fun r hr => by
    obtain ⟨s, _, _, h⟩ := hsh r hr
    rw [h]
    simp
  by_cases hx : x ∈ W
  · have hne := (hW x hx).ne
    have hf : flatL L [x] = L.filter (fun r => decide (shp r = [Sg.word x])) := by
      unfold flatL
      simp [cands, hne, hany, hall]
    have hm : wrt x ∈ flatL L [x] := by
      rw [hf, List.mem_filter]
      exact ⟨(hL _).2 ⟨x, hx, rfl⟩, by rw [(hW x hx).shp (h47 x hx)]; simp⟩
    have hs : ((flatL L [x]).find? (byM gET)).isSome = true := by
      rw [List.find?_isSome]
      exact ⟨_, hm, by simp [byM, wrt]⟩
    unfold mtL
    cases hq : (flatL L [x]).find? (byM gET) with
    | none => rw [hq] at hs; cases hs
    | some r => simp [hx]
  · have hf : flatL L [x] = [] := by
      have hword : L.filter (fun r => decide (shp r = [Sg.word x])) = [] := filter_none fun r hr => by
        obtain ⟨s, hs, _, h⟩ := hsh r hr
        rw [h]
        simp
        intro e
        subst e
        exact hx hs
      unfold flatL
      by_cases hne : x = []
      · simp [cands, hne, hall]
      · simp [cands, hne, hany, hall, hword]
    unfold mtL
    rw [hf]
    simp [hx]
/-- The routes of i words, from one of them on. -/
def turned (W : List Bs) (T i : Nat) : List Rt := (List.range i).map fun j => wrt (W.getD ((j + T) % W.length) [])
theorem turned_succ (W : List Bs) (T i : Nat) : turned W T (i + 1) = turned W T i ++ [wrt (W.getD ((i + T) % W.length) [])] := by
  unfold turned
  rw [List.range_succ, List.map_append]
  rfl
theorem turned_len (W : List Bs) (T i : Nat) : (turned W T i).length = i := by simp [turned]
theorem turned_mem (W : List Bs) (T : Nat) (hT : T < W.length) (r : Rt) : r ∈ turned W T W.length ↔ ∃ s ∈ W, r = wrt s := by
  unfold turned
  simp only [List.mem_map, List.mem_range]
  constructor
  · rintro ⟨j, hj, rfl⟩
    have hlt : (j + T) % W.length < W.length := Nat.mod_lt _ (by omega)
    refine ⟨_, List.getElem_mem hlt, ?_⟩
    rw [List.getD_eq_getElem?_getD, List.getElem?_eq_getElem hlt]
    rfl
  · rintro ⟨s, hs, rfl⟩
    obtain ⟨i, hi, rfl⟩ := List.mem_iff_getElem.1 hs
    by_cases h : T ≤ i
    · refine ⟨i - T, by omega, ?_⟩
      rw [show i - T + T = i by omega, Nat.mod_eq_of_lt hi, List.getD_eq_getElem?_getD, List.getElem?_eq_getElem hi]
      rfl
    · refine ⟨i + W.length - T, by omega, ?_⟩
      rw [show i + W.length - T + T = i + W.length by omega, Nat.add_mod_right, Nat.mod_eq_of_lt hi, List.getD_eq_getElem?_getD, List.getElem?_eq_getElem hi]
      rfl
/-- A set of texts in memory. -/
def MSt (w : World) (mb : Nat) (ks : List Bs) : Prop := ∃ L : List (ByteArray × Value × Nat), Mp w mb (fun k => .string k) L ∧ ∀ k : ByteArray, get L k = if k.data.toList ∈ ks then some (.bool true) else none
theorem MSt.upd {w w' : World} {mb : Nat} {ks : List Bs} {T : List Nat} (h : MSt w mb ks) (hu : Upd T w w') (hm : mb ∉ T) : MSt w' mb ks := by
  obtain ⟨L, h1, h2⟩ := h
  exact ⟨L, h1.upd hu hm, h2⟩
theorem MSt.nil (w : World) : MSt (w.alloc (.map #[] 0)) w.heap.size [] := ⟨[], Mp.new w _, fun k => by simp [get_nil]⟩
theorem MSt.look {w : World} {mb : Nat} {ks : List Bs} (h : MSt w mb ks) (a : ByteArray) : (Instr.lookup 42 (.map (some mb)) (.string a) false).run Tryd.prog w = .ok (.bool (decide (a.data.toList ∈ ks))) w := by
  obtain ⟨L, hL, hg⟩ := h
  have := run_lookup_mp (P := Tryd.prog) (keyLaw_string Tryd.underlying9) 42 Tryd.underlying42 (.bool false) (fun W => by kernel_rfl) hL a false
  rw [this, hg a]
  by_cases e : a.data.toList ∈ ks
  · simp [e]
  · simp [e]
theorem MSt.put {w : World} {mb : Nat} {ks : List Bs} (h : MSt w mb ks) (a : ByteArray) : ∃ w', (Instr.mapUpdate 42 (.map (some mb)) (.string a) (.bool true)).run Tryd.prog w = .ok () w' ∧ MSt w' mb (ks ++ [a.data.toList]) ∧ Upd [mb] w w' := by
  obtain ⟨L, hL, hg⟩ := h
  obtain ⟨c, w', hr, h3, h4⟩ := run_update_mp (P := Tryd.prog) (keyLaw_string Tryd.underlying9) 42 Tryd.underlying42 hL a (.bool true)
  refine ⟨w', hr, ⟨_, h3, fun k' => ?_⟩, h4⟩
  rw [get_put, hg]
  by_cases e : k' = a
  · subst e; simp
  · have e' : ¬ k'.data.toList = a.data.toList := fun q => e (toList_inj q)
    rw [if_neg e]
    simp [e']
end Go.Proofs.YtiombjmkaejjfaaDoor
