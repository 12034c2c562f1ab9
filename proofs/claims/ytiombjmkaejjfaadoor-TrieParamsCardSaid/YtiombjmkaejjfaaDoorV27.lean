/- Tries: TrieParams, plainly. -/
import Derived.Test.YtiombjmkaejjfaaDoorV26
namespace Go.Proofs.YtiombjmkaejjfaaDoor
set_option linter.unusedSimpArgs false
set_option linter.unusedVariables false
set_option linter.unnecessarySimpa false
open Go.RowKit BigFrame

def digP (i : Nat) : UInt8 := UInt8.ofNat (48 + i)
/-- A pattern's segment at place i of n. -/
def parS (rest : Bool) (n i : Nat) : Bs := [if rest && decide (i + 1 = n) then 42 else 58, 110, digP i]
/-- Its first k segments, as they are written. -/
def parP (rest : Bool) (n k : Nat) : Bs := (List.range k).flatMap fun i => 47 :: parS rest n i
def parR (rest : Bool) (n : Nat) : Rt := ⟨gET, parP rest n n, [103, 101, 116]⟩
def mORE : Bs := [109, 111, 114, 101]
theorem parP_succ (rest : Bool) (n k : Nat) : parP rest n (k + 1) = parP rest n k ++ 47 :: parS rest n k := by
  unfold parP
  rw [List.range_succ, List.flatMap_append]
  simp
theorem parP_len (rest : Bool) (n k : Nat) : (parP rest n k).length = 4 * k := by
  induction k with
  | zero => rfl
  | succ k ih => rw [parP_succ, List.length_append, ih]; simp [parS]; omega
theorem par_segs (rest : Bool) (n : Nat) (h1 : 1 ≤ n) (h7 : n ≤ 7) : segsL (parP rest n n) = (List.range n).map (parS rest n) := by
  rcases (by omega : n = 1 ∨ n = 2 ∨ n = 3 ∨ n = 4 ∨ n = 5 ∨ n = 6 ∨ n = 7) with e | e | e | e | e | e | e <;> subst e <;> cases rest <;> decide +kernel
theorem par_rgt (rest : Bool) (n : Nat) (h1 : 1 ≤ n) (h7 : n ≤ 7) : Rgt (parR rest n) := by
  refine ⟨?_, by show (parP rest n n).length ≤ _; rw [parP_len]; omega⟩
  rcases (by omega : n = 1 ∨ n = 2 ∨ n = 3 ∨ n = 4 ∨ n = 5 ∨ n = 6 ∨ n = 7) with e | e | e | e | e | e | e <;> subst e <;> cases rest <;> decide +kernel
theorem par_shp (rest : Bool) (n : Nat) (h1 : 1 ≤ n) (h7 : n ≤ 7) : shp (parR rest n) = List.replicate (n - 1) Sg.any ++ [if rest then .all else .any] := by
  rcases (by omega : n = 1 ∨ n = 2 ∨ n = 3 ∨ n = 4 ∨ n = 5 ∨ n = 6 ∨ n = 7) with e | e | e | e | e | e | e <;> subst e <;> cases rest <;> decide +kernel
theorem has_any : ∀ (l : List Bs) (k : Nat) (ps : List Sg) (r : List Bs), l.length = k → (∀ x ∈ l, x ≠ []) → hasS (List.replicate k Sg.any ++ ps) (l ++ r) = hasS ps r
  | [], k, ps, r, h, _ => by simp at h; subst h; rfl
  | x :: l, k, ps, r, h, hx => by
    simp at h
    subst h
    have := hx x (by simp)
    show (decide (x ≠ []) && hasS (List.replicate l.length Sg.any ++ ps) (l ++ r)) = _
    rw [has_any l _ ps r rfl (fun y hy => hx y (by simp [hy]))]
    simp [this]
/-- A match of one route. -/
theorem mt_one (r : Rt) (l : List Bs) : mtL [r] r.m l = if hasS (shp r) l = true then (⟨r.h, parL (segsL r.p) l, []⟩, true) else (⟨[], [], []⟩, false) := by
  unfold mtL
  rw [flat_one]
  by_cases h : hasS (shp r) l = true
  · rw [if_pos h, if_pos h]
    simp [byM]
  · rw [if_neg h, if_neg h]
    simp [dm, sortL]
theorem par_pars (rest : Bool) (n : Nat) (h1 : 1 ≤ n) (l r : List Bs) (hl : l.length = n) (hr : rest = false → r = []) : ∀ k, k ≤ n → parI ((List.range n).map (parS rest n)) (l ++ r) k =
    (List.range k).map fun i => ([110, digP i], if rest = true ∧ i + 1 = n then joinL (l.drop i ++ r) else l.getD i [])
  | 0, _ => rfl
  | k + 1, h => by
    rw [parI, par_pars rest n h1 l r hl hr k (by omega), List.range_succ, List.map_append]
    congr 1
    have hg : (((List.range k ++ [k]) ++ (List.range n).drop (k + 1)).map (parS rest n)) = (List.range n).map (parS rest n) := by
      rw [← List.range_succ]
      congr 1
      conv => rhs; rw [← List.take_append_drop (k + 1) (List.range n)]
      rw [List.take_range, Nat.min_eq_left h]
    have hs : ((List.range n).map (parS rest n)).getD k [] = parS rest n k := by
      rw [List.getD_eq_getElem?_getD, List.getElem?_map, List.getElem?_range (by omega)]
      rfl
    rw [hs]
    clear hs hg
    simp only [List.map_cons, List.map_nil]
    have hd : (l ++ r).drop k = l.drop k ++ r := by rw [List.drop_append_of_le_length (by omega)]
    have hgd : (l ++ r).getD k [] = l.getD k [] := by
      rw [List.getD_eq_getElem?_getD, List.getD_eq_getElem?_getD, List.getElem?_append_left (by omega)]
    unfold pone parS
    by_cases he : rest = true ∧ k + 1 = n
    · have : (rest && decide (k + 1 = n)) = true := by simp [he.1, he.2]
      rw [if_pos he, hd]
      simp [this, kindL]
    · have : (rest && decide (k + 1 = n)) = false := by
        cases rest with
        | false => rfl
        | true => simp at he ⊢; omega
      rw [if_neg he, hgd]
      simp [this, kindL]
/-- What the first match finds. -/
theorem par_mt (rest : Bool) (l : List Bs) (h1 : 1 ≤ l.length) (h7 : l.length ≤ 7) (hx : ∀ x ∈ l, x ≠ []) :
    (mtL [parR rest l.length] gET l).2 = true ∧ (mtL [parR rest l.length] gET l).1.P = (List.range l.length).map fun i => ([110, digP i], l.getD i []) := by
  have hm := mt_one (parR rest l.length) l
  rw [par_shp rest _ h1 h7] at hm
  obtain ⟨l', x, rfl⟩ : ∃ l' x, l = l' ++ [x] := ⟨l.dropLast, l.getLast (by intro e; simp [e] at h1), (List.dropLast_concat_getLast _).symm⟩
  have hh : hasS (List.replicate ((l' ++ [x]).length - 1) Sg.any ++ [if rest then .all else .any]) (l' ++ [x]) = true := by
    rw [has_any l' _ _ [x] (by simp) (fun y hy => hx y (by simp [hy]))]
    have := hx x (by simp)
    cases rest <;> simp [hasS, this]
  rw [if_pos hh] at hm
  have hg : mtL [parR rest (l' ++ [x]).length] gET (l' ++ [x]) = mtL [parR rest (l' ++ [x]).length] (parR rest (l' ++ [x]).length).m (l' ++ [x]) := rfl
  rw [hg, hm]
  refine ⟨rfl, ?_⟩
  show parL (segsL (parP rest _ _)) _ = _
  rw [par_segs rest _ h1 h7]
  have := par_pars rest (l' ++ [x]).length h1 (l' ++ [x]) [] rfl (fun _ => rfl) _ (Nat.le_refl _)
  rw [List.append_nil] at this
  unfold parL
  rw [show ((List.range (l' ++ [x]).length).map (parS rest (l' ++ [x]).length)).length = (l' ++ [x]).length by simp, this]
  apply List.map_congr_left
  intro i hi
  congr 1
  split
  · rename_i h
    have : i = l'.length := by have := h.2; simp at this; omega
    subst this
    simp [joinL]
  · rfl
/-- What the second one finds, with one segment more. -/
theorem par_mt2 (rest : Bool) (l : List Bs) (h1 : 1 ≤ l.length) (h7 : l.length ≤ 7) (hx : ∀ x ∈ l, x ≠ []) :
    (mtL [parR rest l.length] gET (l ++ [mORE])).2 = rest ∧ (rest = true → (mtL [parR rest l.length] gET (l ++ [mORE])).1.P.length = l.length ∧
      ((mtL [parR rest l.length] gET (l ++ [mORE])).1.P.getD (l.length - 1) ([], [])).2 = l.getD (l.length - 1) [] ++ 47 :: mORE) := by
  have hm := mt_one (parR rest l.length) (l ++ [mORE])
  rw [par_shp rest _ h1 h7] at hm
  have hg : mtL [parR rest l.length] gET (l ++ [mORE]) = mtL [parR rest l.length] (parR rest l.length).m (l ++ [mORE]) := rfl
  rw [hg, hm]
  obtain ⟨l', x, rfl⟩ : ∃ l' x, l = l' ++ [x] := ⟨l.dropLast, l.getLast (by intro e; simp [e] at h1), (List.dropLast_concat_getLast _).symm⟩
  have hh : hasS (List.replicate ((l' ++ [x]).length - 1) Sg.any ++ [if rest then .all else .any]) (l' ++ [x] ++ [mORE]) = rest := by
    rw [List.append_assoc, has_any l' _ _ ([x] ++ [mORE]) (by simp) (fun y hy => hx y (by simp [hy]))]
    have := hx x (by simp)
    cases rest <;> simp [hasS, this]
  rw [hh]
  cases rest with
  | false => exact ⟨rfl, fun h => by cases h⟩
  | true =>
    rw [if_pos rfl]
    refine ⟨rfl, fun _ => ?_⟩
    show (parL (segsL (parP true _ _)) _).length = _ ∧ ((parL (segsL (parP true _ _)) _).getD _ _).2 = _
    rw [par_segs true _ h1 h7]
    have := par_pars true (l' ++ [x]).length h1 (l' ++ [x]) [mORE] rfl (fun h => by cases h) _ (Nat.le_refl _)
    unfold parL
    rw [show ((List.range (l' ++ [x]).length).map (parS true (l' ++ [x]).length)).length = (l' ++ [x]).length by simp, this]
    refine ⟨by simp, ?_⟩
    rw [List.getD_eq_getElem?_getD, List.getElem?_map, List.getElem?_range (by simp)]
    simp [joinL]
end Go.Proofs.YtiombjmkaejjfaaDoor
