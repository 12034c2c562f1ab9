/- Judge, the plain part: ops, what keys have, the first order that fits, names of places. -/
import Derived.WalkKit
namespace Go.Proofs.Ytbdiejlodedelaa
set_option linter.unusedSimpArgs false
set_option linter.unusedVariables false
set_option linter.unnecessarySimpa false

/-- What one asked of a key, and was answered. -/
structure Op where
  kind : Int
  b : Int
  e : Int
  key : ByteArray
  val : ByteArray
  there : Bool

abbrev St := ByteArray → Option ByteArray
def St.none : St := fun _ => Option.none
def St.put (m : St) (k v : ByteArray) : St := fun x => if x = k then some v else m x
def St.del (m : St) (k : ByteArray) : St := fun x => if x = k then Option.none else m x

/-- Is it answered so? -/
def Op.told (m : St) (o : Op) : Bool := (m o.key).isSome == o.there && (o.kind != 0 || decide ((m o.key).getD ⟨#[]⟩ = o.val))
/-- What keys have behind it. -/
def Op.after (m : St) (o : Op) : St :=
  if o.kind = 0 ∨ (o.kind = 2 ∧ (m o.key).isSome = false) then m else if o.kind = 1 then m.put o.key o.val else m.del o.key

section
variable (O : Nat → Op) (n : Nat)

def may (t i : Nat) : Bool := (List.range n).all (fun j => t.testBit j || j == i || !decide ((O j).e < (O i).b)) && !t.testBit i

/-- The first way on from a place. -/
def srch : Nat → Nat → St → Option (List Nat)
  | 0, t, _ => if t = 2 ^ n - 1 then some [] else none
  | f + 1, t, m => if t = 2 ^ n - 1 then some [] else
    (List.range n).findSome? fun i => if may O n t i && (O i).told m then (srch f (t ||| 2 ^ i) ((O i).after m)).map (i :: ·) else none

/-- As srch, from op i on. -/
def from_ (f t : Nat) (m : St) (i : Nat) : Option (List Nat) :=
  (List.range' i (n - i)).findSome? fun i => if may O n t i && (O i).told m then (srch O n f (t ||| 2 ^ i) ((O i).after m)).map (i :: ·) else none

theorem from_end (f t : Nat) (m : St) : from_ O n f t m n = none := by simp [from_]
theorem from_no (f t : Nat) (m : St) (i : Nat) (hi : i < n) (h : (may O n t i && (O i).told m) = false) : from_ O n f t m i = from_ O n f t m (i + 1) := by
  unfold from_
  rw [show n - i = (n - (i + 1)) + 1 by omega, List.range'_succ, List.findSome?_cons]
  simp [h]
theorem from_dead (f t : Nat) (m : St) (i : Nat) (hi : i < n) (h : srch O n f (t ||| 2 ^ i) ((O i).after m) = none) : from_ O n f t m i = from_ O n f t m (i + 1) := by
  unfold from_
  rw [show n - i = (n - (i + 1)) + 1 by omega, List.range'_succ, List.findSome?_cons]
  simp [h]
theorem from_yes (f t : Nat) (m : St) (i : Nat) (l : List Nat) (hi : i < n) (h : (may O n t i && (O i).told m) = true) (hs : srch O n f (t ||| 2 ^ i) ((O i).after m) = some l) : from_ O n f t m i = some (i :: l) := by
  unfold from_
  rw [show n - i = (n - (i + 1)) + 1 by omega, List.range'_succ, List.findSome?_cons]
  simp [h, hs]
theorem srch_all (f t : Nat) (m : St) (h : t = 2 ^ n - 1) : srch O n f t m = some [] := by
  cases f <;> simp [srch, h]
theorem srch_from (f t : Nat) (m : St) (h : t ≠ 2 ^ n - 1) : srch O n (f + 1) t m = from_ O n f t m 0 := by
  simp [srch, h, from_, List.range_eq_range']

/-- Those that were not taken. -/
def left (t : Nat) : List Nat := (List.range n).filter fun i => !t.testBit i
def perms : Nat → List Nat → List (List Nat)
  | 0, _ => [[]]
  | f + 1, r => r.flatMap fun i => (perms f (r.erase i)).map (i :: ·)
/-- Are ops, in this order, answered so, each between its beginning and its end? -/
def fits : St → List Nat → Bool
  | _, [] => true
  | m, i :: l => l.all (fun j => !decide ((O j).e < (O i).b)) && (O i).told m && fits ((O i).after m) l

theorem perms_perm : ∀ (f : Nat) (r l : List Nat), r.length = f → l ∈ perms f r → l.Perm r
  | 0, r, l, hr, hl => by
    have : r = [] := List.eq_nil_of_length_eq_zero hr
    subst this
    simp [perms] at hl
    subst hl
    exact List.Perm.refl _
  | f + 1, r, l, hr, hl => by
    simp only [perms, List.mem_flatMap, List.mem_map] at hl
    obtain ⟨i, hi, l', hl', rfl⟩ := hl
    have := perms_perm f (r.erase i) l' (by rw [List.length_erase_of_mem hi]; omega) hl'
    exact (List.Perm.cons i this).trans (List.perm_cons_erase hi).symm
theorem perms_all : ∀ (f : Nat) (r l : List Nat), r.length = f → l.Perm r → l ∈ perms f r
  | 0, r, l, hr, hl => by
    have : r = [] := List.eq_nil_of_length_eq_zero hr
    subst this
    have := hl.eq_nil
    subst this
    simp [perms]
  | f + 1, r, l, hr, hl => by
    cases l with
    | nil => have := hl.length_eq; simp at this; omega
    | cons i l =>
      have hi : i ∈ r := hl.subset (by simp)
      simp only [perms, List.mem_flatMap, List.mem_map]
      refine ⟨i, hi, l, perms_all f (r.erase i) l (by rw [List.length_erase_of_mem hi]; omega) ?_, rfl⟩
      exact (hl.trans (List.perm_cons_erase hi)).cons_inv

theorem left_nodup (t : Nat) : (left n t).Nodup := List.nodup_range.filter _
theorem mem_left {t i : Nat} : i ∈ left n t ↔ i < n ∧ t.testBit i = false := by simp [left]
theorem left_or {t i : Nat} (hi : i ∈ left n t) : left n (t ||| 2 ^ i) = (left n t).erase i := by
  rw [(left_nodup n t).erase_eq_filter]
  unfold left
  rw [List.filter_filter]
  apply List.filter_congr
  intro j _
  rw [Nat.testBit_or, Nat.testBit_two_pow]
  by_cases e : i = j
  · subst e; simp
  · have : ¬ j = i := fun h => e h.symm
    simp [e, this]
theorem left_all {t : Nat} (ht : t < 2 ^ n) : left n t = [] ↔ t = 2 ^ n - 1 := by
  constructor
  · intro h
    apply Nat.eq_of_testBit_eq
    intro i
    rw [Nat.testBit_two_pow_sub_one]
    by_cases hi : i < n
    · have : i ∉ left n t := by rw [h]; simp
      rw [mem_left] at this
      cases hb : t.testBit i with
      | true => simp [hi]
      | false => exact absurd ⟨hi, hb⟩ this
    · rw [Nat.testBit_lt_two_pow (Nat.lt_of_lt_of_le ht (Nat.pow_le_pow_right (by omega) (by omega)))]
      simp [hi]
  · intro h
    subst h
    apply List.eq_nil_iff_forall_not_mem.2
    intro i hi
    rw [mem_left, Nat.testBit_two_pow_sub_one] at hi
    simp [hi.1] at hi
theorem or_lt {t i : Nat} (ht : t < 2 ^ n) (hi : i < n) : t ||| 2 ^ i < 2 ^ n :=
  Nat.or_lt_two_pow ht (Nat.pow_lt_pow_right (by omega) hi)

theorem all_perm {α : Type} (p : α → Bool) {l r : List α} (h : l.Perm r) : l.all p = r.all p := by
  rw [Bool.eq_iff_iff, List.all_eq_true, List.all_eq_true]
  exact ⟨fun g x hx => g x (h.symm.subset hx), fun g x hx => g x (h.subset hx)⟩

theorem may_left {t i : Nat} (hi : i ∈ left n t) : may O n t i = ((left n t).erase i).all (fun j => !decide ((O j).e < (O i).b)) := by
  have h1 := (mem_left n).1 hi
  rw [(left_nodup n t).erase_eq_filter, Bool.eq_iff_iff]
  unfold may
  simp only [h1.2, Bool.not_false, Bool.and_true, List.all_eq_true, List.mem_range, List.mem_filter, mem_left]
  constructor
  · intro h j hj
    have := h j hj.1.1
    have h3 : ¬ j = i := by simpa using hj.2
    simpa [hj.1.2, h3] using this
  · intro h j hj
    cases hb : t.testBit j with
    | true => simp
    | false =>
      by_cases e : j = i
      · simp [e]
      · have := h j ⟨⟨hj, hb⟩, by simpa using e⟩
        simp only [this, Bool.or_true]
theorem may_taken {t i : Nat} (h : t.testBit i = true) : may O n t i = false := by simp [may, h]

theorem srch_perms : ∀ (f t : Nat) (m : St), t < 2 ^ n → (left n t).length = f → srch O n f t m = (perms f (left n t)).find? (fits O m)
  | 0, t, m, ht, hf => by
    have h0 := List.eq_nil_of_length_eq_zero hf
    have h1 := (left_all n ht).1 h0
    rw [srch_all O n 0 t m h1]
    simp [perms, fits]
  | f + 1, t, m, ht, hf => by
    have hne : t ≠ 2 ^ n - 1 := by
      intro e
      rw [(left_all n ht).2 e] at hf
      simp at hf
    rw [srch, if_neg hne, perms, List.find?_flatMap]
    have h1 : ∀ (g : Nat → Option (List Nat)) (l : List Nat), (∀ i ∈ l, t.testBit i = true → g i = none) → l.findSome? g = (l.filter fun i => !t.testBit i).findSome? g := by
      intro g l hg
      induction l with
      | nil => rfl
      | cons i r ih =>
        have ih := ih (fun j hj => hg j (by simp [hj]))
        rw [List.findSome?_cons]
        by_cases hb : t.testBit i = true
        · rw [hg i (by simp) hb, List.filter_cons_of_neg (by simp [hb])]
          exact ih
        · rw [List.filter_cons_of_pos (by simp [hb]), List.findSome?_cons, ih]
    rw [h1 _ _ (fun i _ hb => by simp [may_taken O n hb])]
    have h2 : ∀ (g k : Nat → Option (List Nat)) (l : List Nat), (∀ i ∈ l, g i = k i) → l.findSome? g = l.findSome? k := by
      intro g k l h
      induction l with
      | nil => rfl
      | cons i r ih => rw [List.findSome?_cons, List.findSome?_cons, h i (by simp), ih (fun j hj => h j (by simp [hj]))]
    refine h2 _ _ _ ?_
    intro i hi
    have hi : i ∈ left n t := hi
    have hlen : ((left n t).erase i).length = f := by rw [List.length_erase_of_mem hi]; omega
    have hlt := or_lt n ht ((mem_left n).1 hi).1
    rw [List.find?_map]
    have h3 : ∀ l ∈ perms f ((left n t).erase i), (fits O m ∘ fun x => i :: x) l = ((may O n t i && (O i).told m) && fits O ((O i).after m) l) := by
      intro l hl
      show fits O m (i :: l) = _
      rw [fits, may_left O n hi, all_perm _ (perms_perm f _ l hlen hl)]
    rw [srch_perms f _ _ hlt (by rw [left_or n hi]; exact hlen), left_or n hi]
    have h4 : ∀ (p q : List Nat → Bool) (l : List (List Nat)), (∀ i ∈ l, p i = q i) → l.find? p = l.find? q := by
      intro p q l h
      induction l with
      | nil => rfl
      | cons i r ih => rw [List.find?_cons, List.find?_cons, h i (by simp), ih (fun j hj => h j (by simp [hj]))]
    rw [h4 _ _ _ h3]
    cases hc : (may O n t i && (O i).told m) with
    | true => simp
    | false =>
      have e0 : (perms f ((left n t).erase i)).find? (fun i_1 => false && fits O (Op.after m (O i)) i_1) = none := List.find?_eq_none.2 (fun x _ => by simp)
      rw [e0]; simp

/-- Which values a state has: such as were put. -/
def Reg (m : St) : Prop := ∀ k v, m k = some v → ∃ j, j < n ∧ (O j).kind = 1 ∧ (O j).val = v
theorem Reg.none : Reg O n St.none := by intro k v h; cases h
theorem Reg.after {m : St} (h : Reg O n m) (i : Nat) (hi : i < n) : Reg O n ((O i).after m) := by
  intro k v hk
  unfold Op.after at hk
  split at hk
  · exact h k v hk
  · split at hk
    · rename_i h1
      unfold St.put at hk
      split at hk
      · simp only [Option.some.injEq] at hk; exact ⟨i, hi, h1, hk⟩
      · exact h k v hk
    · unfold St.del at hk
      split at hk
      · cases hk
      · exact h k v hk

/-- Alike as to the keys that are asked. -/
def Alike (m m' : St) : Prop := ∀ i, i < n → m (O i).key = m' (O i).key
theorem Alike.after {m m' : St} (h : Alike O n m m') (i : Nat) (hi : i < n) : Alike O n ((O i).after m) ((O i).after m') := by
  intro j hj
  have h1 := h i hi
  have h2 := h j hj
  unfold Op.after St.put St.del
  rw [h1]
  split
  · exact h2
  · split
    · show (if _ then _ else _) = (if _ then _ else _); rw [h2]
    · show (if _ then _ else _) = (if _ then _ else _); rw [h2]
theorem Alike.told {m m' : St} (h : Alike O n m m') (i : Nat) (hi : i < n) : (O i).told m = (O i).told m' := by
  unfold Op.told; rw [h i hi]
theorem srch_alike : ∀ (f t : Nat) (m m' : St), Alike O n m m' → srch O n f t m = srch O n f t m'
  | 0, t, m, m', _ => rfl
  | f + 1, t, m, m', h => by
    rw [srch, srch]
    split
    · rfl
    · have h2 : ∀ (g k : Nat → Option (List Nat)) (l : List Nat), (∀ i ∈ l, g i = k i) → l.findSome? g = l.findSome? k := by
        intro g k l h
        induction l with
        | nil => rfl
        | cons i r ih => rw [List.findSome?_cons, List.findSome?_cons, h i (by simp), ih (fun j hj => h j (by simp [hj]))]
      refine h2 _ _ _ ?_
      intro i hi
      have hi : i < n := by simpa using hi
      rw [h.told O n i hi, srch_alike f _ _ _ (h.after O n i hi)]

/-- How a key's value is told. -/
def word (m : St) (i : Nat) : List Nat :=
  match m (O i).key with
  | none => [0]
  | some v => (match (List.range n).find? (fun j => decide ((O j).kind = 1) && decide ((O j).val = v)) with | some j => [1 + j] | none => []) ++ [200 + i]
def nm (t : Nat) (m : St) : List Nat := [t / 256 % 256, t % 256] ++ (List.range n).flatMap (word O n m)

theorem word_reg {m : St} (hr : Reg O n m) (i : Nat) : (m (O i).key = none ∧ word O n m i = [0]) ∨ ∃ j, j < n ∧ m (O i).key = some (O j).val ∧ word O n m i = [1 + j, 200 + i] := by
  unfold word
  cases h : m (O i).key with
  | none => exact .inl ⟨rfl, rfl⟩
  | some v =>
    right
    obtain ⟨j, hj, h1, h2⟩ := hr _ _ h
    cases hf : (List.range n).find? (fun j => decide ((O j).kind = 1) && decide ((O j).val = v)) with
    | none =>
      rw [List.find?_eq_none] at hf
      have := hf j (by simpa using hj)
      simp [h1, h2] at this
    | some k =>
      have h3 := List.find?_some hf
      have h4 := List.mem_of_find?_eq_some hf
      simp at h3 h4
      exact ⟨k, h4, by rw [h3.2], by simp only [hf]; rfl⟩
theorem words_inj {m m' : St} (hr : Reg O n m) (hr' : Reg O n m') : ∀ (l : List Nat) , l.flatMap (word O n m) = l.flatMap (word O n m') → ∀ i ∈ l, m (O i).key = m' (O i).key
  | [], _ => by simp
  | i :: l, h => by
    simp only [List.flatMap_cons] at h
    have key : word O n m i = word O n m' i ∧ m (O i).key = m' (O i).key := by
      rcases word_reg O n hr i with ⟨a, b⟩ | ⟨j, _, a, b⟩ <;> rcases word_reg O n hr' i with ⟨c, d⟩ | ⟨k, _, c, d⟩
      · exact ⟨by rw [b, d], by rw [a, c]⟩
      · rw [b, d] at h
        simp at h
        try omega
      · rw [b, d] at h
        simp at h
        try omega
      · rw [b, d] at h
        simp at h
        have : j = k := by omega
        subst this
        exact ⟨by rw [b, d], by rw [a, c]⟩
    rw [key.1] at h
    have ih := words_inj hr hr' l (List.append_cancel_left h)
    intro x hx
    simp only [List.mem_cons] at hx
    rcases hx with rfl | hx
    · exact key.2
    · exact ih x hx
theorem nm_inj {t t' : Nat} {m m' : St} (ht : t < 65536) (ht' : t' < 65536) (hr : Reg O n m) (hr' : Reg O n m') (h : nm O n t m = nm O n t' m') : t = t' ∧ Alike O n m m' := by
  unfold nm at h
  simp only [List.cons_append, List.nil_append, List.cons.injEq] at h
  obtain ⟨h1, h2, h3⟩ := h
  exact ⟨by omega, fun i hi => words_inj O n hr hr' _ h3 i (by simpa using hi)⟩
end
end Go.Proofs.Ytbdiejlodedelaa
