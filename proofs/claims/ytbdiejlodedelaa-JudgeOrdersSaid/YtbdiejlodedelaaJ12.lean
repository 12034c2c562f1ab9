/- The document's judge, the plain part: states as lists; the next order. -/
import Derived.Test.YtbdiejlodedelaaJ0
namespace Go.Proofs.Ytbdiejlodedelaa
set_option linter.unusedSimpArgs false
set_option linter.unusedVariables false
set_option linter.unnecessarySimpa false

/-- States as a list of keys and values. -/
def ofL (S : List (ByteArray × ByteArray)) : St := fun k => (S.find? fun x => decide (x.1 = k)).map (·.2)
def idx (S : List (ByteArray × ByteArray)) (k : ByteArray) : Option Nat := S.findIdx? fun x => decide (x.1 = k)
def OkL (S : List (ByteArray × ByteArray)) : Prop := ∀ (i j : Nat) (x y : ByteArray × ByteArray), S[i]? = some x → S[j]? = some y → x.1 = y.1 → i = j

theorem ofL_nil : ofL [] = St.none := rfl
theorem OkL.nil : OkL [] := by intro i j x y h; simp at h
theorem ofL_none {S : List (ByteArray × ByteArray)} {k : ByteArray} (h : idx S k = none) : ofL S k = none := by
  unfold idx at h
  rw [List.findIdx?_eq_none_iff] at h
  unfold ofL
  rw [List.find?_eq_none.2 (fun x hx => by have := h x hx; simpa using this)]
  rfl
theorem idx_some {S : List (ByteArray × ByteArray)} {k : ByteArray} {i : Nat} (h : idx S k = some i) : ∃ v, S[i]? = some (k, v) ∧ ofL S k = some v ∧ i < S.length := by
  unfold idx at h
  rw [List.findIdx?_eq_some_iff_getElem] at h
  obtain ⟨hi, h1, h2⟩ := h
  simp at h1
  refine ⟨S[i].2, by rw [List.getElem?_eq_getElem hi, ← h1], ?_, hi⟩
  unfold ofL
  have : S.find? (fun x => decide (x.1 = k)) = some S[i] := by
    rw [List.find?_eq_some_iff_getElem]
    exact ⟨by simpa using h1, i, hi, rfl, fun j hj => by have := h2 j hj; simpa using this⟩
  rw [this]
  rfl
theorem OkL.erase {S : List (ByteArray × ByteArray)} (h : OkL S) (i : Nat) : OkL (S.take i ++ S.drop (i + 1)) := by
  intro a b x y ha hb e
  have key : ∀ c z, (S.take i ++ S.drop (i + 1))[c]? = some z → ∃ c', S[c']? = some z ∧ c' = if c < i then c else c + 1 := by
    intro c z hc
    by_cases hci : c < i
    · by_cases hl : c < (S.take i).length
      · rw [List.getElem?_append_left hl, List.getElem?_take, if_pos hci] at hc
        exact ⟨c, hc, by rw [if_pos hci]⟩
      · simp only [List.length_take] at hl
        rw [List.getElem?_append_right (by simp; omega), List.getElem?_drop] at hc
        have := (List.getElem?_eq_some_iff.1 hc).1
        omega
    · rw [List.getElem?_append_right (by simp; omega), List.getElem?_drop] at hc
      have h1 := (List.getElem?_eq_some_iff.1 hc).1
      simp only [List.length_take] at h1 hc
      have h2 : i + 1 + (c - min i S.length) = c + 1 := by
        by_cases q : i ≤ S.length
        · rw [Nat.min_eq_left q]; omega
        · omega
      rw [h2] at hc
      exact ⟨c + 1, hc, by rw [if_neg hci]⟩
  obtain ⟨a', h1, h2⟩ := key a x ha
  obtain ⟨b', h3, h4⟩ := key b y hb
  have := h a' b' x y h1 h3 e
  split at h2 <;> split at h4 <;> omega
theorem find_keys {S : List (ByteArray × ByteArray)} (h : OkL S) {i : Nat} {x : ByteArray × ByteArray} (hi : S[i]? = some x) : ofL S x.1 = some x.2 := by
  unfold ofL
  have hl := (List.getElem?_eq_some_iff.1 hi).1
  have : S.find? (fun y => decide (y.1 = x.1)) = some x := by
    rw [List.find?_eq_some_iff_getElem]
    refine ⟨by simp, i, hl, (List.getElem?_eq_some_iff.1 hi).2, fun j hj => ?_⟩
    simp only [Bool.not_eq_true', decide_eq_false_iff_not]
    intro e
    have := h j i S[j] x (List.getElem?_eq_getElem (by omega)) hi e
    omega
  rw [this]
  rfl
theorem ofL_mem {S : List (ByteArray × ByteArray)} {k v : ByteArray} (h : ofL S k = some v) : (k, v) ∈ S := by
  unfold ofL at h
  obtain ⟨x, hx, rfl⟩ := Option.map_eq_some_iff.1 h
  have h1 := List.mem_of_find?_eq_some hx
  have h2 := List.find?_some hx
  simp at h2
  subst h2
  exact h1
theorem ofL_erase {S : List (ByteArray × ByteArray)} (h : OkL S) {k : ByteArray} {i : Nat} (hi : idx S k = some i) : ofL (S.take i ++ S.drop (i + 1)) = (ofL S).del k := by
  obtain ⟨v, hv, -, hl⟩ := idx_some hi
  have hok := h.erase i
  have hmem : ∀ z, z ∈ S.take i ++ S.drop (i + 1) ↔ z ∈ S ∧ z.1 ≠ k := by
    intro z
    constructor
    · intro hz
      have hzS : z ∈ S := by
        rcases List.mem_append.1 hz with hz | hz
        · exact List.mem_of_mem_take hz
        · exact List.mem_of_mem_drop hz
      refine ⟨hzS, fun e => ?_⟩
      rcases List.mem_append.1 hz with hz | hz
      · obtain ⟨j, hj⟩ := List.getElem?_of_mem hz
        rw [List.getElem?_take] at hj
        split at hj
        · have := h j i z (k, v) hj hv e
          omega
        · cases hj
      · obtain ⟨j, hj⟩ := List.getElem?_of_mem hz
        rw [List.getElem?_drop] at hj
        have := h _ i z (k, v) hj hv e
        omega
    · rintro ⟨hz, hne⟩
      obtain ⟨j, hj⟩ := List.getElem?_of_mem hz
      rw [List.mem_append]
      by_cases e : j < i
      · left
        exact List.mem_of_getElem? (i := j) (by rw [List.getElem?_take, if_pos e]; exact hj)
      · right
        have : j ≠ i := by
          rintro rfl
          rw [hv] at hj
          cases hj
          exact hne rfl
        exact List.mem_of_getElem? (i := j - (i + 1)) (by rw [List.getElem?_drop, show i + 1 + (j - (i + 1)) = j by omega]; exact hj)
  funext q
  unfold St.del
  cases hq : ofL (S.take i ++ S.drop (i + 1)) q with
  | some u =>
    have h1 := (hmem _).1 (ofL_mem hq)
    obtain ⟨j, hj⟩ := List.getElem?_of_mem h1.1
    rw [if_neg h1.2]
    exact (find_keys h hj).symm
  | none =>
    by_cases e : q = k
    · rw [if_pos e]
    · rw [if_neg e]
      cases hq2 : ofL S q with
      | none => rfl
      | some u =>
        have h2 := (hmem (q, u)).2 ⟨ofL_mem hq2, e⟩
        obtain ⟨j, hj⟩ := List.getElem?_of_mem h2
        have := find_keys hok hj
        simp only at this
        rw [hq] at this
        cases this
theorem ofL_snoc {S : List (ByteArray × ByteArray)} {k v : ByteArray} (hk : ofL S k = none) : ofL (S ++ [(k, v)]) = (ofL S).put k v := by
  funext q
  unfold ofL St.put
  rw [List.find?_append]
  by_cases e : q = k
  · subst e
    rw [if_pos rfl]
    unfold ofL at hk
    rw [Option.map_eq_none_iff] at hk
    rw [hk]
    simp
  · have : ¬ k = q := fun h => e h.symm
    rw [if_neg e]
    show Option.map _ ((S.find? fun x => decide (x.1 = q)).or _) = (S.find? fun x => decide (x.1 = q)).map (·.2)
    cases hf : S.find? (fun x => decide (x.1 = q)) <;> simp [this]
theorem OkL.snoc {S : List (ByteArray × ByteArray)} (h : OkL S) {k v : ByteArray} (hk : ofL S k = none) : OkL (S ++ [(k, v)]) := by
  have hno : ∀ (j : Nat) (x : ByteArray × ByteArray), S[j]? = some x → x.1 ≠ k := by
    intro j x hj e
    have := find_keys h hj
    rw [e, hk] at this
    cases this
  intro i j x y hi hj e
  by_cases h1 : i < S.length <;> by_cases h2 : j < S.length
  · rw [List.getElem?_append_left h1] at hi
    rw [List.getElem?_append_left h2] at hj
    exact h i j x y hi hj e
  · rw [List.getElem?_append_left h1] at hi
    rw [List.getElem?_append_right (by omega)] at hj
    have := (List.getElem?_eq_some_iff.1 hj).1
    simp at this
    have hz : j - S.length = 0 := by omega
    rw [hz] at hj
    simp at hj
    subst hj
    exact absurd e (hno i x hi)
  · rw [List.getElem?_append_left h2] at hj
    rw [List.getElem?_append_right (by omega)] at hi
    have := (List.getElem?_eq_some_iff.1 hi).1
    simp at this
    have hz : i - S.length = 0 := by omega
    rw [hz] at hi
    simp at hi
    subst hi
    exact absurd e.symm (hno j y hj)
  · have h3 := (List.getElem?_eq_some_iff.1 hi).1
    have h4 := (List.getElem?_eq_some_iff.1 hj).1
    simp at h3 h4
    omega

/-- The next order of numbers: where it turns, with whom, what is behind turned round. -/
def piv (p : List Nat) : Nat → Option Nat
  | 0 => none
  | k + 1 => if p.getD (k + 1) 0 < p.getD k 0 then piv p k else some k
def jdx (p : List Nat) (x : Nat) : Nat → Nat
  | 0 => 0
  | k + 1 => if p.getD (k + 1) 0 < x then jdx p x k else k + 1
def swp (p : List Nat) (a b : Nat) : List Nat := (p.set a (p.getD b 0)).set b (p.getD a 0)
def rvs : Nat → List Nat → Nat → Nat → List Nat
  | 0, p, _, _ => p
  | f + 1, p, a, b => if a < b then rvs f (swp p a b) (a + 1) (b - 1) else p
def nextL (p : List Nat) : Option (List Nat) :=
  match piv p (p.length - 1) with
  | none => none
  | some i => some (rvs 6 (swp p i (jdx p (p.getD i 0) (p.length - 1))) (i + 1) (p.length - 1))
def chained : List (List Nat) → Bool
  | [] => true
  | [a] => nextL a == none
  | a :: b :: r => (nextL a == some b) && chained (b :: r)
theorem chain_all : ∀ n, n < 7 → chained (perms n (List.range n)) = true ∧ (perms n (List.range n))[0]? = some (List.range n) := by decide +kernel
theorem chain_next : ∀ (L : List (List Nat)), chained L = true → ∀ c p, L[c]? = some p → nextL p = L[c + 1]?
  | [], _, c, p, h => by simp at h
  | [a], h, c, p, hp => by
    cases c with
    | zero => simp at hp; subst hp; simpa [chained] using h
    | succ c => simp at hp
  | a :: b :: r, h, c, p, hp => by
    simp only [chained, Bool.and_eq_true, beq_iff_eq] at h
    cases c with
    | zero => simp at hp; subst hp; simpa using h.1
    | succ c =>
      rw [List.getElem?_cons_succ] at hp
      rw [List.getElem?_cons_succ]
      exact chain_next (b :: r) h.2 c p hp
theorem perms_len : ∀ n, n < 7 → (perms n (List.range n)).length ≤ 720 := by decide +kernel
end Go.Proofs.Ytbdiejlodedelaa
