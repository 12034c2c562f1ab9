/- Texts as lists of bytes, the plain part: lines, words, numbers; a response's bytes, and back. -/
import Derived.Lib.ItoaNum
namespace Go.Proofs.YtndlbkiogagnaaaGreatDoor
set_option linter.unusedSimpArgs false
set_option linter.unusedVariables false
set_option linter.unnecessarySimpa false
abbrev Bs := List UInt8

/-- The text up to a line's end, and what is behind it. -/
def lineL : Bs → Option (Bs × Bs)
  | [] => none
  | [_] => none
  | c :: d :: r => if c = 13 ∧ d = 10 then some ([], r) else (lineL (d :: r)).map fun x => (c :: x.1, x.2)
theorem lineL_mk : ∀ (a x : Bs), 13 ∉ a → lineL (a ++ 13 :: 10 :: x) = some (a, x)
  | [], x, _ => by simp [lineL]
  | [c], x, h => by
    have hc : ¬ c = 13 := fun e => h (by simp [e])
    simp [lineL, hc]
  | c :: d :: r, x, h => by
    have hc : ¬ c = 13 := fun e => h (by simp [e])
    have := lineL_mk (d :: r) x (fun e => h (by simp at e ⊢; right; exact e))
    simp only [List.cons_append] at this ⊢
    rw [lineL, if_neg (fun e => hc e.1), this]
    rfl
theorem lineL_more : ∀ {s a b : Bs} (x : Bs), lineL s = some (a, b) → lineL (s ++ x) = some (a, b ++ x)
  | [], _, _, _, h => by cases h
  | [_], _, _, _, h => by cases h
  | c :: d :: r, a, b, x, h => by
    rw [lineL] at h
    simp only [List.cons_append]
    rw [lineL]
    split at h
    · rename_i hc
      rw [if_pos hc]
      simp only [Option.some.injEq, Prod.mk.injEq] at h
      obtain ⟨rfl, rfl⟩ := h
      rfl
    · rename_i hc
      rw [if_neg hc]
      obtain ⟨y, hy, he⟩ := Option.map_eq_some_iff.1 h
      simp only [Prod.mk.injEq] at he
      obtain ⟨rfl, rfl⟩ := he
      have := lineL_more (s := d :: r) x (show lineL (d :: r) = some (y.1, y.2) from hy)
      simp only [List.cons_append] at this
      rw [this]
      rfl
theorem lineL_form : ∀ {s a b : Bs}, lineL s = some (a, b) → s = a ++ 13 :: 10 :: b
  | [], _, _, h => by cases h
  | [_], _, _, h => by cases h
  | c :: d :: r, a, b, h => by
    rw [lineL] at h
    split at h
    · rename_i hc
      simp only [Option.some.injEq, Prod.mk.injEq] at h
      obtain ⟨rfl, rfl⟩ := h
      simp [hc.1, hc.2]
    · obtain ⟨y, hy, he⟩ := Option.map_eq_some_iff.1 h
      simp only [Prod.mk.injEq] at he
      obtain ⟨rfl, rfl⟩ := he
      have := lineL_form (s := d :: r) (show lineL (d :: r) = some (y.1, y.2) from hy)
      rw [this]; rfl

def blank (c : UInt8) : Bool := decide (c = 32) || decide (c = 9)
def trimL (l : Bs) : Bs := ((l.dropWhile blank).reverse.dropWhile blank).reverse

/-- What is parted by a byte. -/
def splitL (c : UInt8) : Bs → List Bs
  | [] => [[]]
  | x :: r => if x = c then [] :: splitL c r else match splitL c r with | h :: t => (x :: h) :: t | [] => [[x]]
theorem splitL_ne (c : UInt8) (l : Bs) : splitL c l ≠ [] := by
  cases l with
  | nil => simp [splitL]
  | cons x r =>
    rw [splitL]
    split
    · simp
    · split <;> simp
theorem splitL_seg (c : UInt8) : ∀ (a r : Bs), c ∉ a → splitL c (a ++ c :: r) = a :: splitL c r
  | [], r, _ => by simp [splitL]
  | x :: a, r, h => by
    have hx : ¬ x = c := fun e => h (by simp [e])
    have := splitL_seg c a r (fun e => h (by simp [e]))
    simp only [List.cons_append]
    rw [splitL, if_neg hx, this]
theorem splitL_last (c : UInt8) : ∀ (a : Bs), c ∉ a → splitL c a = [a]
  | [], _ => rfl
  | x :: a, h => by
    have hx : ¬ x = c := fun e => h (by simp [e])
    have := splitL_last c a (fun e => h (by simp [e]))
    rw [splitL, if_neg hx, this]
theorem cut_at (c : UInt8) : ∀ (l : Bs), c ∈ l → l = l.takeWhile (fun x => decide (x ≠ c)) ++ c :: l.drop ((l.takeWhile (fun x => decide (x ≠ c))).length + 1)
  | [], h => by cases h
  | x :: r, h => by
    by_cases e : x = c
    · subst e; simp
    · rw [List.takeWhile_cons_of_pos (by simpa using e)]
      have hr : c ∈ r := by
        rcases List.mem_cons.1 h with h | h
        · exact absurd h.symm e
        · exact h
      have := cut_at c r hr
      simp only [List.cons_append, List.length_cons, List.drop_succ_cons]
      rw [← this]
theorem notin_take (c : UInt8) : ∀ (l : Bs), c ∉ l.takeWhile (fun x => decide (x ≠ c))
  | [] => by simp
  | x :: r => by
    by_cases e : x = c
    · rw [List.takeWhile_cons_of_neg (by simpa using e)]; simp
    · rw [List.takeWhile_cons_of_pos (by simpa using e)]
      simp only [List.mem_cons, not_or]
      exact ⟨fun h => e h.symm, notin_take c r⟩
theorem splitL_two (c : UInt8) (l : Bs) (h : c ∈ l) : splitL c l = l.takeWhile (fun x => decide (x ≠ c)) :: splitL c (l.drop ((l.takeWhile (fun x => decide (x ≠ c))).length + 1)) := by
  have h1 := splitL_seg c (l.takeWhile (fun x => decide (x ≠ c))) (l.drop ((l.takeWhile (fun x => decide (x ≠ c))).length + 1)) (notin_take c l)
  rw [← cut_at c l h] at h1
  exact h1

/-- A digit of base 10. -/
def dig (c : UInt8) : Option Nat := if 48 ≤ c.toNat ∧ c.toNat ≤ 57 then some (c.toNat - 48) else none
def numTo : Nat → Bs → Option Nat
  | x, [] => some x
  | x, c :: r => match dig c with | none => none | some d => if 1073741824 < x * 10 + d then none else numTo (x * 10 + d) r
/-- A number of base 10, not above 2^30. -/
def numL (l : Bs) : Option Nat := if l = [] then none else numTo 0 l
theorem numTo_app : ∀ (a b : Bs) (x : Nat), numTo x (a ++ b) = (numTo x a).bind fun y => numTo y b
  | [], b, x => rfl
  | c :: a, b, x => by
    simp only [List.cons_append, numTo]
    cases dig c with
    | none => rfl
    | some d =>
      simp only
      split
      · rfl
      · exact numTo_app a b _
theorem ofNat_to {n : Nat} (h : n < 256) : (UInt8.ofNat n).toNat = n := UInt8.toNat_ofNat_of_lt' (by show n < 256; exact h)
theorem dig_of (d : Nat) (h : d < 10) : dig (UInt8.ofNat (48 + d)) = some d := by
  have : (UInt8.ofNat (48 + d)).toNat = 48 + d := ofNat_to (by omega)
  unfold dig
  rw [this, if_pos (by omega)]
  congr 1
  omega
theorem numTo_dec : ∀ (u : Nat), u ≤ 1073741824 → numTo 0 (Lib.decDigits u) = some u := by
  intro u
  induction u using Nat.strongRecOn with
  | _ u ih =>
    intro hu
    by_cases h : u < 10
    · rw [Lib.decDigits, dif_pos h]
      simp only [numTo, dig_of u h]
      rw [if_neg (by omega)]
      simp
    · rw [Lib.decDigits, dif_neg h, numTo_app, ih (u / 10) (by omega) (by omega)]
      simp only [Option.bind_some, numTo, dig_of (u % 10) (by omega)]
      rw [if_neg (by omega)]
      congr 1
      omega
theorem dec_ne (u : Nat) : Lib.decDigits u ≠ [] := by
  intro h
  have := Lib.decDigits_length u
  rw [h] at this
  have := Lib.nDigits_pos u
  simp at *
  omega
theorem numL_dec (u : Nat) (h : u ≤ 1073741824) : numL (Lib.decDigits u) = some u := by
  unfold numL
  rw [if_neg (dec_ne u), numTo_dec u h]
theorem dec_digit (u : Nat) : ∀ c ∈ Lib.decDigits u, 48 ≤ c.toNat ∧ c.toNat ≤ 57 := by
  induction u using Nat.strongRecOn with
  | _ u ih =>
    intro c hc
    by_cases h : u < 10
    · rw [Lib.decDigits, dif_pos h] at hc
      have hc := List.mem_singleton.1 hc
      rw [hc, ofNat_to (by omega)]
      omega
    · rw [Lib.decDigits, dif_neg h] at hc
      rcases List.mem_append.1 hc with hc | hc
      · exact ih (u / 10) (by omega) c hc
      · have hc := List.mem_singleton.1 hc
        rw [hc, ofNat_to (by omega)]
        omega

theorem dropWhile_none {l : Bs} (h : ∀ c ∈ l, blank c = false) : l.dropWhile blank = l := by
  cases l with
  | nil => rfl
  | cons c r => rw [List.dropWhile_cons_of_neg (by simp [h c (by simp)])]
theorem trimL_none {l : Bs} (h : ∀ c ∈ l, blank c = false) : trimL l = l := by
  unfold trimL
  rw [dropWhile_none h, dropWhile_none (fun c hc => h c (by simpa using hc)), List.reverse_reverse]
theorem trimL_blank (l : Bs) : trimL (32 :: l) = trimL l := by
  unfold trimL
  rw [List.dropWhile_cons_of_pos (by decide)]
theorem dec_blank (u : Nat) : ∀ c ∈ Lib.decDigits u, blank c = false := by
  intro c hc
  have := dec_digit u c hc
  unfold blank
  simp only [Bool.or_eq_false_iff, decide_eq_false_iff_not]
  constructor <;> rintro rfl <;> simp at this

/-- A response, its bytes by lists. -/
structure Rs where
  status : Nat
  fields : List (Bs × Bs)
  body : Bs
  close : Bool

def http : Bs := [72, 84, 84, 80, 47, 49, 46, 49, 32]
def connClose : Bs := [99, 111, 110, 110, 101, 99, 116, 105, 111, 110, 58, 32, 99, 108, 111, 115, 101]
def conn : Bs := [99, 111, 110, 110, 101, 99, 116, 105, 111, 110]
def contLen : Bs := [99, 111, 110, 116, 101, 110, 116, 45, 108, 101, 110, 103, 116, 104]
def crlf : Bs := [13, 10]
def wordL (n : Nat) : Bs :=
  if n = 200 then [79, 75] else if n = 201 then [67, 114, 101, 97, 116, 101, 100] else if n = 400 then [66, 97, 100, 32, 82, 101, 113, 117, 101, 115, 116]
  else if n = 401 then [85, 110, 97, 117, 116, 104, 111, 114, 105, 122, 101, 100] else if n = 404 then [78, 111, 116, 32, 70, 111, 117, 110, 100]
  else if n = 405 then [77, 101, 116, 104, 111, 100, 32, 78, 111, 116, 32, 65, 108, 108, 111, 119, 101, 100] else if n = 409 then [67, 111, 110, 102, 108, 105, 99, 116]
  else if n = 412 then [80, 114, 101, 99, 111, 110, 100, 105, 116, 105, 111, 110, 32, 70, 97, 105, 108, 101, 100] else if n = 413 then [67, 111, 110, 116, 101, 110, 116, 32, 84, 111, 111, 32, 76, 97, 114, 103, 101]
  else if n = 431 then [82, 101, 113, 117, 101, 115, 116, 32, 72, 101, 97, 100, 101, 114, 32, 70, 105, 101, 108, 100, 115, 32, 84, 111, 111, 32, 76, 97, 114, 103, 101]
  else if n = 500 then [73, 110, 116, 101, 114, 110, 97, 108, 32, 83, 101, 114, 118, 101, 114, 32, 69, 114, 114, 111, 114] else if n = 501 then [78, 111, 116, 32, 73, 109, 112, 108, 101, 109, 101, 110, 116, 101, 100]
  else if n = 503 then [83, 101, 114, 118, 105, 99, 101, 32, 85, 110, 97, 118, 97, 105, 108, 97, 98, 108, 101] else if n = 507 then [73, 110, 115, 117, 102, 102, 105, 99, 105, 101, 110, 116, 32, 83, 116, 111, 114, 97, 103, 101]
  else [85, 110, 107, 110, 111, 119, 110]
theorem wordL_ok (P : Bs → Prop) (n : Nat) (h : P (wordL 200) ∧ P (wordL 201) ∧ P (wordL 400) ∧ P (wordL 401) ∧ P (wordL 404) ∧ P (wordL 405) ∧ P (wordL 409) ∧ P (wordL 412) ∧ P (wordL 413) ∧ P (wordL 431) ∧ P (wordL 500) ∧ P (wordL 501) ∧ P (wordL 503) ∧ P (wordL 507) ∧ P (wordL 0)) : P (wordL n) := by
  obtain ⟨h1, h2, h3, h4, h5, h6, h7, h8, h9, h10, h11, h12, h13, h14, h0⟩ := h
  by_cases e : n = 200; · subst e; exact h1
  by_cases e2 : n = 201; · subst e2; exact h2
  by_cases e3 : n = 400; · subst e3; exact h3
  by_cases e4 : n = 401; · subst e4; exact h4
  by_cases e5 : n = 404; · subst e5; exact h5
  by_cases e6 : n = 405; · subst e6; exact h6
  by_cases e7 : n = 409; · subst e7; exact h7
  by_cases e8 : n = 412; · subst e8; exact h8
  by_cases e9 : n = 413; · subst e9; exact h9
  by_cases e10 : n = 431; · subst e10; exact h10
  by_cases e11 : n = 500; · subst e11; exact h11
  by_cases e12 : n = 501; · subst e12; exact h12
  by_cases e13 : n = 503; · subst e13; exact h13
  by_cases e14 : n = 507; · subst e14; exact h14
  have : wordL n = wordL 0 := by
    unfold wordL
    rw [if_neg e, if_neg e2, if_neg e3, if_neg e4, if_neg e5, if_neg e6, if_neg e7, if_neg e8, if_neg e9, if_neg e10, if_neg e11, if_neg e12, if_neg e13, if_neg e14]
    rfl
  rw [this]; exact h0
theorem wordL_13 (n : Nat) : 13 ∉ wordL n := wordL_ok (fun l => 13 ∉ l) n (by decide)
theorem wordL_len (n : Nat) : (wordL n).length ≤ 31 := wordL_ok (fun l => l.length ≤ 31) n (by decide)

def fieldL (f : Bs × Bs) : Bs := f.1 ++ 58 :: 32 :: f.2
def firstL (n : Nat) : Bs := http ++ Lib.decDigits n ++ 32 :: wordL n
/-- A response's bytes. -/
def encL (r : Rs) : Bs := firstL r.status ++ 13 :: 10 :: ((r.fields.flatMap fun f => fieldL f ++ crlf) ++ ((if r.close then connClose ++ crlf else []) ++ (contLen ++ 58 :: 32 :: Lib.decDigits r.body.length) ++ 13 :: 10 :: 13 :: 10 :: r.body))

/-- The lines of a head: fields, does it close, the body. -/
def headL : Nat → Bs → List (Bs × Bs) → Bool → Option (List (Bs × Bs) × Bool × Bs)
  | 0, _, _, _ => none
  | f + 1, s, fs, cl => match lineL s with
    | none => none
    | some (l, r) => if 58 ∈ l then
        (if l = connClose then headL f r fs true
         else if l.takeWhile (fun x => decide (x ≠ 58)) = contLen then
           (match numL (trimL (l.drop ((l.takeWhile (fun x => decide (x ≠ 58))).length + 1))) with
            | none => none
            | some size => if r.length < 2 + size then none else some (fs, cl, (r.drop 2).take size))
         else headL f r (fs ++ [(l.takeWhile (fun x => decide (x ≠ 58)), trimL (l.drop ((l.takeWhile (fun x => decide (x ≠ 58))).length + 1)))]) cl)
      else none
/-- What a text begins with. -/
def decL (s : Bs) : Option (Rs × Bs) :=
  match lineL s with
  | none => none
  | some (first, rest) => if first.length < 12 then none else
    match numL ((first.drop 9).take 3) with
    | none => none
    | some n => match headL (rest.length + 1) rest [] false with
      | none => none
      | some (fs, cl, body) => if (encL ⟨n, fs, body, cl⟩).isPrefixOf s then some (⟨n, fs, body, cl⟩, s.drop (encL ⟨n, fs, body, cl⟩).length) else none

theorem headL_more : ∀ (f : Nat) (s : Bs) (fs : List (Bs × Bs)) (cl : Bool) (y) (g : Nat) (x : Bs), headL f s fs cl = some y → f ≤ g → headL g (s ++ x) fs cl = some y
  | 0, _, _, _, _, _, _, h, _ => by cases h
  | f + 1, s, fs, cl, y, g, x, h, hg => by
    obtain ⟨g, rfl⟩ : ∃ k, g = k + 1 := ⟨g - 1, by omega⟩
    rw [headL] at h ⊢
    cases hl : lineL s with
    | none => rw [hl] at h; cases h
    | some lr =>
      obtain ⟨l, r⟩ := lr
      rw [hl] at h
      rw [lineL_more x hl]
      simp only at h ⊢
      split at h
      · rename_i h58
        rw [if_pos h58]
        split at h
        · rename_i hcc
          rw [if_pos hcc]
          exact headL_more f r fs true y g x h (by omega)
        · rename_i hcc
          rw [if_neg hcc]
          split at h
          · rename_i hct
            rw [if_pos hct]
            cases hn : numL (trimL (l.drop ((l.takeWhile (fun x => decide (x ≠ 58))).length + 1))) with
            | none => rw [hn] at h; cases h
            | some size =>
              rw [hn] at h
              simp only at h ⊢
              split at h
              · cases h
              · rename_i hlen
                rw [if_neg (by simp; omega)]
                rw [← h]
                congr 3
                rw [List.drop_append_of_le_length (by omega), List.take_append_of_le_length (by simp; omega)]
          · rename_i hct
            rw [if_neg hct]
            exact headL_more f r _ cl y g x h (by omega)
      · cases h
theorem decL_form {s t : Bs} {r : Rs} (h : decL s = some (r, t)) : s = encL r ++ t := by
  unfold decL at h
  split at h
  · cases h
  · split at h
    · cases h
    · split at h
      · cases h
      · split at h
        · cases h
        · split at h
          · rename_i hp
            simp only [Option.some.injEq, Prod.mk.injEq] at h
            obtain ⟨rfl, rfl⟩ := h
            obtain ⟨z, hz⟩ := List.isPrefixOf_iff_prefix.1 hp
            rw [← hz, List.drop_left]
          · cases h
theorem decL_more {s t : Bs} {r : Rs} (x : Bs) (h : decL s = some (r, t)) : decL (s ++ x) = some (r, t ++ x) := by
  have hform := decL_form h
  unfold decL at h ⊢
  cases hl : lineL s with
  | none => rw [hl] at h; cases h
  | some fr =>
    obtain ⟨first, rest⟩ := fr
    rw [hl] at h
    rw [lineL_more x hl]
    simp only at h ⊢
    split at h
    · cases h
    · rename_i h12
      rw [if_neg h12]
      cases hn : numL ((first.drop 9).take 3) with
      | none => rw [hn] at h; cases h
      | some n =>
        rw [hn] at h
        simp only at h ⊢
        cases hh : headL (rest.length + 1) rest [] false with
        | none => rw [hh] at h; cases h
        | some z =>
          obtain ⟨fs, cl, body⟩ := z
          rw [hh] at h
          simp only at h
          rw [headL_more _ _ _ _ _ ((rest ++ x).length + 1) x hh (by simp)]
          simp only
          split at h
          · rename_i hp
            simp only [Option.some.injEq, Prod.mk.injEq] at h
            obtain ⟨rfl, rfl⟩ := h
            rw [if_pos (by
              rw [List.isPrefixOf_iff_prefix] at hp ⊢
              exact hp.trans (List.prefix_append _ _))]
            rw [List.drop_append_of_le_length (by
              rw [List.isPrefixOf_iff_prefix] at hp
              exact hp.length_le)]
          · cases h

/-- May it be a response, by its lists? -/
structure RightL (r : Rs) : Prop where
  st0 : 100 ≤ r.status
  st1 : r.status ≤ 999
  fs : ∀ f ∈ r.fields, 13 ∉ f.1 ∧ 58 ∉ f.1 ∧ f.1 ≠ conn ∧ f.1 ≠ contLen ∧ trimL f.2 = f.2 ∧ 13 ∉ f.2
  body : r.body.length ≤ 1000000

theorem takeWhile_seg (c : UInt8) (a r : Bs) (h : c ∉ a) : (a ++ c :: r).takeWhile (fun x => decide (x ≠ c)) = a := by
  rw [List.takeWhile_append_of_pos (fun x hx => by
    simp only [decide_eq_true_eq]
    exact fun e => h (e ▸ hx))]
  rw [List.takeWhile_cons_of_neg (by simp)]
  simp

theorem headL_fields (gs : List (Bs × Bs)) (hgs : ∀ f ∈ gs, 13 ∉ f.1 ∧ 58 ∉ f.1 ∧ f.1 ≠ conn ∧ f.1 ≠ contLen ∧ trimL f.2 = f.2 ∧ 13 ∉ f.2) (x : Bs) (cl : Bool) : ∀ (f : Nat) (fs : List (Bs × Bs)),
    headL (f + gs.length) ((gs.flatMap fun f => fieldL f ++ crlf) ++ x) fs cl = headL f x (fs ++ gs) cl := by
  induction gs with
  | nil => intro f fs; simp
  | cons g gs ih =>
    intro f fs
    obtain ⟨h1, h2, h3, h4, h5, h6⟩ := hgs g (by simp)
    have ih := ih (fun f hf => hgs f (by simp [hf]))
    have hl : lineL (((g :: gs).flatMap fun f => fieldL f ++ crlf) ++ x) = some (fieldL g, (gs.flatMap fun f => fieldL f ++ crlf) ++ x) := by
      have h13 : 13 ∉ fieldL g := by
        unfold fieldL
        simp only [List.mem_append, List.mem_cons, not_or]
        exact ⟨h1, by decide, by decide, h6⟩
      have := lineL_mk (fieldL g) ((gs.flatMap fun f => fieldL f ++ crlf) ++ x) h13
      rw [← this]
      simp [crlf]
    rw [show f + (g :: gs).length = (f + gs.length) + 1 by simp; omega, headL, hl]
    simp only
    have h58 : 58 ∈ fieldL g := by unfold fieldL; simp
    have htw : (fieldL g).takeWhile (fun x => decide (x ≠ 58)) = g.1 := takeWhile_seg 58 g.1 (32 :: g.2) h2
    have hdr : (fieldL g).drop (g.1.length + 1) = 32 :: g.2 := by
      unfold fieldL
      rw [← List.drop_drop, List.drop_left]
      rfl
    have hcc : fieldL g ≠ connClose := by
      intro e
      have : connClose.takeWhile (fun x => decide (x ≠ 58)) = g.1 := by rw [← e]; exact htw
      rw [show connClose.takeWhile (fun x => decide (x ≠ 58)) = conn by decide] at this
      exact h3 this.symm
    rw [if_pos h58, if_neg hcc, htw, if_neg h4, hdr, trimL_blank, h5, ih]
    simp
theorem decL_enc (r : Rs) (h : RightL r) (t : Bs) : decL (encL r ++ t) = some (r, t) := by
  obtain ⟨n, fs, body, cl⟩ := r
  have hd3 : (Lib.decDigits n).length = 3 := by
    rw [Lib.decDigits_length]
    exact Lib.nDigits_unique 2 n (by have := h.st0; simpa using this) (by have := h.st1; simp at this; omega)
  have h13 : 13 ∉ firstL n := by
    unfold firstL
    simp only [List.mem_append, List.mem_cons, not_or]
    refine ⟨⟨by decide, fun e => ?_⟩, by decide, wordL_13 n⟩
    have := dec_digit n 13 e
    simp at this
  have hfl : lineL (encL ⟨n, fs, body, cl⟩ ++ t) = some (firstL n, ((fs.flatMap fun f => fieldL f ++ crlf) ++ ((if cl then connClose ++ crlf else []) ++ (contLen ++ 58 :: 32 :: Lib.decDigits body.length) ++ 13 :: 10 :: 13 :: 10 :: body)) ++ t) := by
    unfold encL
    rw [← lineL_mk (firstL n) _ h13]
    simp
  have hhead : ∀ f, 2 ≤ f → headL (f + fs.length) (((fs.flatMap fun f => fieldL f ++ crlf) ++ ((if cl then connClose ++ crlf else []) ++ (contLen ++ 58 :: 32 :: Lib.decDigits body.length) ++ 13 :: 10 :: 13 :: 10 :: body)) ++ t) [] false = some (fs, cl, body) := by
    intro f hf
    rw [List.append_assoc, headL_fields fs h.fs]
    have hct : ∀ (g : Nat) (cl' : Bool), headL (g + 1) ((contLen ++ 58 :: 32 :: Lib.decDigits body.length) ++ 13 :: 10 :: 13 :: 10 :: body ++ t) ([] ++ fs) cl' = some (fs, cl', body) := by
      intro g cl'
      have hl : lineL ((contLen ++ 58 :: 32 :: Lib.decDigits body.length) ++ 13 :: 10 :: 13 :: 10 :: body ++ t) = some (contLen ++ 58 :: 32 :: Lib.decDigits body.length, 13 :: 10 :: body ++ t) := by
        have : 13 ∉ contLen ++ 58 :: 32 :: Lib.decDigits body.length := by
          simp only [List.mem_append, List.mem_cons, not_or]
          refine ⟨by decide, by decide, by decide, fun e => ?_⟩
          have := dec_digit _ 13 e
          simp at this
        rw [← lineL_mk _ (13 :: 10 :: body ++ t) this]
        simp
      rw [headL, hl]
      simp only
      have h58 : (58 : UInt8) ∈ contLen ++ 58 :: 32 :: Lib.decDigits body.length := by simp
      have htw : (contLen ++ 58 :: 32 :: Lib.decDigits body.length).takeWhile (fun x => decide (x ≠ 58)) = contLen := takeWhile_seg 58 contLen _ (by decide)
      have hdr : (contLen ++ 58 :: 32 :: Lib.decDigits body.length).drop (contLen.length + 1) = 32 :: Lib.decDigits body.length := by
        rw [← List.drop_drop, List.drop_left]
        rfl
      have hcc : contLen ++ 58 :: 32 :: Lib.decDigits body.length ≠ connClose := by
        intro e
        have : connClose.takeWhile (fun x => decide (x ≠ 58)) = contLen := by rw [← e]; exact htw
        rw [show connClose.takeWhile (fun x => decide (x ≠ 58)) = conn by decide] at this
        exact absurd this (by decide)
      rw [if_pos h58, if_neg hcc, htw, if_pos rfl, hdr, trimL_blank, trimL_none (dec_blank _), numL_dec _ (by have := h.body; simp at this; omega)]
      simp only
      rw [if_neg (by simp; omega)]
      simp
    obtain ⟨g, rfl⟩ : ∃ g, f = g + 2 := ⟨f - 2, by omega⟩
    cases cl with
    | false =>
      simp only [Bool.false_eq_true, if_false, List.nil_append]
      exact hct (g + 1) false
    | true =>
      simp only [if_true]
      have hl : lineL ((connClose ++ crlf ++ (contLen ++ 58 :: 32 :: Lib.decDigits body.length) ++ 13 :: 10 :: 13 :: 10 :: body) ++ t) = some (connClose, (contLen ++ 58 :: 32 :: Lib.decDigits body.length) ++ 13 :: 10 :: 13 :: 10 :: body ++ t) := by
        rw [← lineL_mk connClose _ (by decide)]
        simp [crlf]
      rw [headL, hl]
      simp only
      rw [if_pos (by decide)]
      simp only [if_true]
      exact hct g true
  unfold decL
  rw [hfl]
  simp only
  have h12 : ¬ (firstL n).length < 12 := by
    unfold firstL
    simp [http, hd3]
  have hnum : ((firstL n).drop 9).take 3 = Lib.decDigits n := by
    unfold firstL
    rw [List.append_assoc, show (9 : Nat) = http.length from rfl, List.drop_left, List.take_append_of_le_length (by omega), List.take_of_length_le (by omega)]
  rw [if_neg h12, hnum, numL_dec n (by have := h.st1; simp at this; omega)]
  simp only
  have hfuel : ∃ f, 2 ≤ f ∧ f + fs.length = ((((fs.flatMap fun f => fieldL f ++ crlf) ++ ((if cl then connClose ++ crlf else []) ++ (contLen ++ 58 :: 32 :: Lib.decDigits body.length) ++ 13 :: 10 :: 13 :: 10 :: body)) ++ t).length + 1) := by
    refine ⟨_ - fs.length, ?_, Nat.sub_add_cancel ?_⟩
    all_goals
      have : fs.length ≤ (fs.flatMap fun f => fieldL f ++ crlf).length := by
        clear hhead hfl h
        induction fs with
        | nil => simp
        | cons g gs ih => simp [crlf] at ih ⊢; omega
      simp [contLen]
      simp at this
      omega
  obtain ⟨f, hf2, hf⟩ := hfuel
  rw [← hf, hhead f hf2]
  simp only
  rw [if_pos (by rw [List.isPrefixOf_iff_prefix]; exact List.prefix_append _ _), List.drop_left]
/-- One that is cut is none. -/
theorem decL_cut (r : Rs) (h : RightL r) (n : Nat) (hn : n < (encL r).length) : decL ((encL r).take n) = none := by
  cases hd : decL ((encL r).take n) with
  | none => rfl
  | some x =>
    obtain ⟨r', t⟩ := x
    have h1 := decL_more ((encL r).drop n) hd
    rw [List.take_append_drop] at h1
    have h2 := decL_enc r h []
    rw [List.append_nil, h1] at h2
    simp only [Option.some.injEq, Prod.mk.injEq] at h2
    have h3 := congrArg List.length h2.2
    simp at h3
    omega
theorem decL_nil : decL [] = none := rfl
end Go.Proofs.YtndlbkiogagnaaaGreatDoor
