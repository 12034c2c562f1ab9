/- What changes a connection: shut, reset, close, write. -/
import Derived.Test.YtpjkckhgkaefdaaN1
namespace Go.Proofs.Ytpjkckhgkaefdaa
set_option linter.unusedSimpArgs false
set_option linter.unusedVariables false
set_option linter.unnecessarySimpa false
open Go.RowKit BigFrame

def upM {α : Type} (M : Nat → α) (i : Nat) (x : α) : Nat → α := fun k => if k = i then x else M k
theorem upM_self {α : Type} (M : Nat → α) (i : Nat) (x : α) : upM M i x i = x := by simp [upM]
theorem upM_ne {α : Type} (M : Nat → α) (i : Nat) (x : α) {k : Nat} (h : k ≠ i) : upM M i x k = M k := by simp [upM, h]

/-- The net after a call: what it holds, and that it wrote in its own memory alone. -/
def Stepd (w w' : World) (p n : Nat) (M : Nat → Cn) (D : List Nat) (F : List Nat) : Prop :=
  ∃ F', NetAt w' p n M D F' ∧ Upd F w w' ∧ ∀ k, k ∈ F' → k ∈ F ∨ w.heap.size ≤ k

theorem IsN.stay {w w' : World} {p n : Nat} {M : Nat → Cn} {D : List Nat} {sc sd : Value} {bs : Nat → Nat} {vs : Nat → Value} (h : IsN w p n M D sc sd bs vs) (hu : Upd [] w w') : Stepd w w' p n M D (foot p n sc sd bs vs) :=
  ⟨_, ⟨sc, sd, bs, vs, h.upd hu (by simp), rfl⟩, hu.mono (by simp), fun _ h => .inl h⟩

theorem foot_in {p n : Nat} {sc sd : Value} {bs : Nat → Nat} {vs : Nat → Value} {k : Nat} : k ∈ foot p n sc sd bs vs ↔ k = p ∨ k ∈ ownB sc ∨ k ∈ ownB sd ∨ (∃ i, i < n ∧ k = bs i) ∨ ∃ i, i < n ∧ k ∈ ownB (vs i) := by
  simp only [foot, List.mem_cons, List.mem_append, List.mem_map, List.mem_flatMap, List.mem_range, or_assoc]
  constructor
  · rintro (h | h | h | ⟨i, h1, rfl⟩ | h)
    · exact .inl h
    · exact .inr (.inl h)
    · exact .inr (.inr (.inl h))
    · exact .inr (.inr (.inr (.inl ⟨i, h1, rfl⟩)))
    · exact .inr (.inr (.inr (.inr h)))
  · rintro (h | h | h | ⟨i, h1, rfl⟩ | h)
    · exact .inl h
    · exact .inr (.inl h)
    · exact .inr (.inr (.inl h))
    · exact .inr (.inr (.inr (.inl ⟨i, h1, rfl⟩)))
    · exact .inr (.inr (.inr (.inr h)))

theorem IsN.put {w w' : World} {p n : Nat} {M : Nat → Cn} {D : List Nat} {sc sd : Value} {bs : Nat → Nat} {vs : Nat → Value} {S : List Nat} (h : IsN w p n M D sc sd bs vs) (i : Nat) (hi : i < n) (x : Cn) (v : Value) (hu : Upd S w w')
    (hS : ∀ k, k < w.heap.size → k ∈ S → k = bs i ∨ k ∈ ownB (vs i)) (hb : Blk w' (bs i) (x.cells v) 53) (hs : Sl w' 9 1 v x.inn.length (x.inn.map .string)) (hv : ∀ k, k ∈ ownB v → k ∈ ownB (vs i) ∨ w.heap.size ≤ k) :
    Stepd w w' p n (upM M i x) D (foot p n sc sd bs vs) := by
  have hbi := h.blk i hi
  have hvi := h.inn i hi
  refine ⟨_, ⟨sc, sd, bs, upM vs i v, ⟨?_, ?_, ?_, ?_, ?_, h.inj, ?_, h.few⟩, rfl⟩, hu.mono ?_, ?_⟩
  · refine hu.blk h.head (fun e => ?_)
    rcases hS p h.head.lt e with e | e
    · have := (h.head.uniq (e ▸ hbi)).2; revert this; decide
    · exact hvi.other (by decide) p e _ h.head
  · refine h.conns.upd hu (fun k hk e => ?_)
    rcases hS k (h.conns.lt k hk) e with e | e
    · exact h.conns.other (by decide) k hk _ (e ▸ hbi)
    · rcases h.conns.2 with ⟨rfl, _⟩ | ⟨g, o, cap, cur, rfl, hg, _⟩
      · simp [ownB] at hk
      · simp [ownB] at hk; subst hk; exact hvi.other (by decide) _ e _ hg
  · refine h.dials.upd hu (fun k hk e => ?_)
    rcases hS k (h.dials.lt k hk) e with e | e
    · exact h.dials.other (by decide) k hk _ (e ▸ hbi)
    · rcases h.dials.2 with ⟨rfl, _⟩ | ⟨g, o, cap, cur, rfl, hg, _⟩
      · simp [ownB] at hk
      · simp [ownB] at hk; subst hk; exact hvi.other (by decide) _ e _ hg
  · intro j hj
    by_cases e : j = i
    · subst e; rw [upM_self, upM_self]; exact hb
    · rw [upM_ne _ _ _ e, upM_ne _ _ _ e]
      refine hu.blk (h.blk j hj) (fun e2 => ?_)
      rcases hS _ (h.blk j hj).lt e2 with e2 | e2
      · exact e (h.inj j i hj hi e2)
      · exact hvi.other (by decide) _ e2 _ (h.blk j hj)
  · intro j hj
    by_cases e : j = i
    · subst e; rw [upM_self, upM_self]; exact hs
    · rw [upM_ne _ _ _ e, upM_ne _ _ _ e]
      refine (h.inn j hj).upd hu (fun k hk e2 => ?_)
      rcases hS _ ((h.inn j hj).lt k hk) e2 with e2 | e2
      · exact (h.inn j hj).other (by decide) k hk _ (e2 ▸ hbi)
      · exact h.apart j i hj hi e k hk e2
  · intro a b ha hb2 hab k hk
    by_cases e : a = i
    · subst e
      rw [upM_self] at hk
      rw [upM_ne _ _ _ (Ne.symm hab)]
      intro hk2
      rcases hv k hk with h3 | h3
      · exact h.apart a b ha hb2 hab k h3 hk2
      · have := (h.inn b hb2).lt k hk2; omega
    · rw [upM_ne _ _ _ e] at hk
      by_cases e2 : b = i
      · subst e2
        rw [upM_self]
        intro hk2
        rcases hv k hk2 with h3 | h3
        · exact h.apart a b ha hb2 hab k hk h3
        · have := (h.inn a ha).lt k hk; omega
      · rw [upM_ne _ _ _ e2]; exact h.apart a b ha hb2 hab k hk
  · intro k hk e
    rw [foot_in]
    rcases hS k hk e with e | e
    · exact .inr (.inr (.inr (.inl ⟨i, hi, e⟩)))
    · exact .inr (.inr (.inr (.inr ⟨i, hi, e⟩)))
  · intro k hk
    rw [foot_in] at hk ⊢
    rcases hk with h1 | h1 | h1 | h1 | ⟨j, hj, h1⟩
    · exact .inl (.inl h1)
    · exact .inl (.inr (.inl h1))
    · exact .inl (.inr (.inr (.inl h1)))
    · exact .inl (.inr (.inr (.inr (.inl h1))))
    · by_cases e : j = i
      · subst e
        rw [upM_self] at h1
        rcases hv k h1 with h2 | h2
        · exact .inl (.inr (.inr (.inr (.inr ⟨j, hj, h2⟩))))
        · exact .inr h2
      · rw [upM_ne _ _ _ e] at h1
        exact .inl (.inr (.inr (.inr (.inr ⟨j, hj, h1⟩))))

/-- One cell of a connection other than the first is written. -/
theorem IsN.cell {w : World} {p n : Nat} {M : Nat → Cn} {D : List Nat} {sc sd : Value} {bs : Nat → Nat} {vs : Nat → Value} (h : IsN w p n M D sc sd bs vs) (i : Nat) (hi : i < n) (x : Cn) (j : Nat) (u : Value) (hx : ((M i).cells (vs i)).set j u = x.cells (vs i)) (hin : x.inn = (M i).inn) :
    Stepd w (w.setCell ⟨bs i, j, none⟩ u) p n (upM M i x) D (foot p n sc sd bs vs) :=
  h.put (S := [bs i]) i hi x (vs i) ((Upd.refl _ _).set _ _ (by simp)) (fun k _ hk => .inl (by simpa using hk)) (((h.blk i hi).set j u).as hx) (by rw [hin]; exact (h.inn i hi).upd ((Upd.refl [bs i] w).set ⟨bs i, j, none⟩ u (by simp)) (fun k hk e => by simp at e; subst e; exact (h.inn i hi).other (by decide) _ hk _ (h.blk i hi))) (fun _ h => .inl h)


set_option maxHeartbeats 400000 in
theorem shut_none (p n : Nat) (M : Nat → Cn) (D : List Nat) (F : List Nat) (w : World) (i : Int) (h : NetAt w p n M D F) (hi : i < 0 ∨ (n : Int) ≤ i) :
    Calls Try.prog 17 #[.pointer (some ⟨p, 0, none⟩), .int .i64 i] w fun e w' => e = .returned (.bool false) ∧ Stepd w w' p n M D F := by
  obtain ⟨sc, sd, bs, vs, h, rfl⟩ := h
  go_enter Try.func17, Try.ntmps17
  go_wp2_with fail
  refine (at_none p n M D sc sd bs vs w i h hi).mono ?_
  rintro e w1 ⟨rfl, rfl⟩
  go_wp2_with fail
  go_ret
  exact ⟨rfl, h.stay (Upd.refl [] _)⟩

set_option maxHeartbeats 400000 in
theorem reset_none (p n : Nat) (M : Nat → Cn) (D : List Nat) (F : List Nat) (w : World) (i : Int) (h : NetAt w p n M D F) (hi : i < 0 ∨ (n : Int) ≤ i) :
    Calls Try.prog 16 #[.pointer (some ⟨p, 0, none⟩), .int .i64 i] w fun e w' => e = .returned (.bool false) ∧ Stepd w w' p n M D F := by
  obtain ⟨sc, sd, bs, vs, h, rfl⟩ := h
  go_enter Try.func16, Try.ntmps16
  go_wp2_with fail
  refine (at_none p n M D sc sd bs vs w i h hi).mono ?_
  rintro e w1 ⟨rfl, rfl⟩
  go_wp2_with fail
  go_ret
  exact ⟨rfl, h.stay (Upd.refl [] _)⟩

set_option maxHeartbeats 400000 in
theorem close_none (p n : Nat) (M : Nat → Cn) (D : List Nat) (F : List Nat) (w : World) (i : Int) (h : NetAt w p n M D F) (hi : i < 0 ∨ (n : Int) ≤ i) :
    Calls Try.prog 15 #[.pointer (some ⟨p, 0, none⟩), .int .i64 i] w fun e w' => e = .returned (.tuple #[]) ∧ Stepd w w' p n M D F := by
  obtain ⟨sc, sd, bs, vs, h, rfl⟩ := h
  go_enter Try.func15, Try.ntmps15
  go_wp2_with fail
  refine (at_none p n M D sc sd bs vs w i h hi).mono ?_
  rintro e w1 ⟨rfl, rfl⟩
  go_wp2_with fail
  go_end0
  exact ⟨rfl, h.stay (Upd.refl [] _)⟩

set_option maxHeartbeats 400000 in
theorem write_none (p n : Nat) (M : Nat → Cn) (D : List Nat) (F : List Nat) (w : World) (i : Int) (s : ByteArray) (h : NetAt w p n M D F) (hi : i < 0 ∨ (n : Int) ≤ i) :
    Calls Try.prog 14 #[.pointer (some ⟨p, 0, none⟩), .int .i64 i, .string s] w fun e w' => e = .returned (.tuple #[]) ∧ Stepd w w' p n M D F := by
  obtain ⟨sc, sd, bs, vs, h, rfl⟩ := h
  go_enter Try.func14, Try.ntmps14
  go_wp2_with fail
  refine (at_none p n M D sc sd bs vs w i h hi).mono ?_
  rintro e w1 ⟨rfl, rfl⟩
  go_wp2_with fail
  go_end0
  exact ⟨rfl, h.stay (Upd.refl [] _)⟩

set_option maxHeartbeats 400000 in
theorem send_none (p n : Nat) (M : Nat → Cn) (D : List Nat) (F : List Nat) (w : World) (i : Int) (s : ByteArray) (h : NetAt w p n M D F) (hi : i < 0 ∨ (n : Int) ≤ i) :
    Calls Try.prog 9 #[.pointer (some ⟨p, 0, none⟩), .int .i64 i, .string s] w fun e w' => e = .returned (.bool false) ∧ Stepd w w' p n M D F := by
  obtain ⟨sc, sd, bs, vs, h, rfl⟩ := h
  go_enter Try.func9, Try.ntmps9
  go_wp2_with fail
  refine (at_none p n M D sc sd bs vs w i h hi).mono ?_
  rintro e w1 ⟨rfl, rfl⟩
  go_wp2_with fail
  go_ret
  exact ⟨rfl, h.stay (Upd.refl [] _)⟩

set_option maxHeartbeats 400000 in
theorem read_none (p n : Nat) (M : Nat → Cn) (D : List Nat) (F : List Nat) (w : World) (i : Int) (h : NetAt w p n M D F) (hi : i < 0 ∨ (n : Int) ≤ i) :
    Calls Try.prog 11 #[.pointer (some ⟨p, 0, none⟩), .int .i64 i] w fun e w' => e = .returned (.tuple #[.string ⟨#[]⟩, .bool false]) ∧ Stepd w w' p n M D F := by
  obtain ⟨sc, sd, bs, vs, h, rfl⟩ := h
  go_enter Try.func11, Try.ntmps11
  go_wp2_with fail
  refine (at_none p n M D sc sd bs vs w i h hi).mono ?_
  rintro e w1 ⟨rfl, rfl⟩
  go_wp2_with fail
  go_ret2
  exact ⟨rfl, h.stay (Upd.refl [] _)⟩

def Cn.open3 (x : Cn) : Bool := !x.shut && !x.reset && !x.closed
def closeTo (M : Nat → Cn) (i : Nat) (x : Cn) : Nat → Cn := upM M i { x with closed := true }
def Cn.open2 (x : Cn) : Bool := !x.reset && !x.closed
def shutTo (M : Nat → Cn) (i : Nat) (x : Cn) : Nat → Cn := if x.open3 then upM M i { x with shut := true } else M
def resetTo (M : Nat → Cn) (i : Nat) (x : Cn) : Nat → Cn := if x.open2 then upM M i { x with reset := true, inn := [] } else M
def writeTo (M : Nat → Cn) (i : Nat) (x : Cn) (s : ByteArray) : Nat → Cn := if x.open2 then upM M i { x with written := x.written ++ s } else M

/-- What a call to a connection leads to, written out over its flags. -/
theorem NetAt.open {w : World} {p n : Nat} {M : Nat → Cn} {D F : List Nat} (h : NetAt w p n M D F) : ∃ sc sd bs vs, IsN w p n M D sc sd bs vs ∧ F = foot p n sc sd bs vs := h

set_option maxHeartbeats 800000 in
theorem shut_some (p n : Nat) (M : Nat → Cn) (D : List Nat) (F : List Nat) (w : World) (i : Nat) (h : NetAt w p n M D F) (hi : i < n) :
    Calls Try.prog 17 #[.pointer (some ⟨p, 0, none⟩), .int .i64 i] w fun e w' => e = .returned (.bool (M i).open3) ∧ Stepd w w' p n (shutTo M i (M i)) D F := by
  obtain ⟨sc, sd, bs, vs, h, rfl⟩ := h
  have h1 := h.blk i hi
  have st := fun x j u hx hin => h.cell i hi x j u hx hin
  obtain ⟨x, hx⟩ : ∃ x, x = M i := ⟨_, rfl⟩
  rw [← hx] at h1 st ⊢
  have c0 := h1.cell 0
  have c1 := h1.cell 1
  have c2 := h1.cell 2
  have c3 := h1.cell 3
  have c4 := h1.cell 4
  have c5 := h1.cell 5
  have c6 := h1.cell 6
  simp only [Cn.cells, List.getElem?_cons_zero, List.getElem?_cons_succ] at c0 c1 c2 c3 c4 c5 c6
  have fr := h1.free 2
  clear h1 hx
  have ST := Hd.mk st
  clear st
  obtain ⟨inn, came, shut, reset, taken, closed, written⟩ := x
  cases shut <;> cases reset <;> cases closed
  all_goals
    go_enter Try.func17, Try.ntmps17
    go_wp2_with fail
    refine (at_some p n M D sc sd bs vs w i h hi).mono ?_
    rintro e w1 ⟨rfl, rfl⟩
    go_wp2_with fail
    go_ret
    first
      | exact ⟨rfl, h.stay (Upd.refl [] _)⟩
      | exact ⟨rfl, ST.out _ 2 _ rfl rfl⟩

set_option maxHeartbeats 800000 in
theorem reset_some (p n : Nat) (M : Nat → Cn) (D : List Nat) (F : List Nat) (w : World) (i : Nat) (h : NetAt w p n M D F) (hi : i < n) :
    Calls Try.prog 16 #[.pointer (some ⟨p, 0, none⟩), .int .i64 i] w fun e w' => e = .returned (.bool (M i).open2) ∧ Stepd w w' p n (resetTo M i (M i)) D F := by
  obtain ⟨sc, sd, bs, vs, h, rfl⟩ := h
  have h1 := h.blk i hi
  have hb := h1
  have st := fun x v w' hu hS hb hs hv => h.put (w' := w') (S := [bs i]) i hi x v hu hS hb hs hv
  obtain ⟨x, hx⟩ : ∃ x, x = M i := ⟨_, rfl⟩
  rw [← hx] at h1 hb ⊢
  have c0 := h1.cell 0
  have c1 := h1.cell 1
  have c2 := h1.cell 2
  have c3 := h1.cell 3
  have c4 := h1.cell 4
  have c5 := h1.cell 5
  have c6 := h1.cell 6
  simp only [Cn.cells, List.getElem?_cons_zero, List.getElem?_cons_succ] at c0 c1 c2 c3 c4 c5 c6
  have fr := h1.free 3
  have fr0 := h1.free 0
  clear h1 hx
  have ST := Hd.mk (And.intro st hb)
  clear st hb
  obtain ⟨inn, came, shut, reset, taken, closed, written⟩ := x
  cases reset <;> cases closed
  all_goals
    go_enter Try.func16, Try.ntmps16
    go_wp2_with fail
    refine (at_some p n M D sc sd bs vs w i h hi).mono ?_
    rintro e w1 ⟨rfl, rfl⟩
    go_wp2_with fail
    go_ret
    first
      | exact ⟨rfl, h.stay (Upd.refl [] _)⟩
      | exact ⟨rfl, ST.out.1 _ (.slice none 0 0) _ (((Upd.refl _ _).set _ _ (by simp)).set _ _ (by simp)) (fun k _ hk => .inl (by simpa using hk)) ((ST.out.2.set 3 _).set 0 _) (Sl.nil _ _ _) (by simp [ownB])⟩

set_option maxHeartbeats 800000 in
theorem close_some (p n : Nat) (M : Nat → Cn) (D : List Nat) (F : List Nat) (w : World) (i : Nat) (h : NetAt w p n M D F) (hi : i < n) :
    Calls Try.prog 15 #[.pointer (some ⟨p, 0, none⟩), .int .i64 i] w fun e w' => e = .returned (.tuple #[]) ∧
      Stepd w w' p n (closeTo M i (M i)) D F := by
  obtain ⟨sc, sd, bs, vs, h, rfl⟩ := h
  have h1 := h.blk i hi
  have st := fun x j u hx hin => h.cell i hi x j u hx hin
  obtain ⟨x, hx⟩ : ∃ x, x = M i := ⟨_, rfl⟩
  rw [← hx] at h1 st ⊢
  have c0 := h1.cell 0
  have c1 := h1.cell 1
  have c2 := h1.cell 2
  have c3 := h1.cell 3
  have c4 := h1.cell 4
  have c5 := h1.cell 5
  have c6 := h1.cell 6
  simp only [Cn.cells, List.getElem?_cons_zero, List.getElem?_cons_succ] at c0 c1 c2 c3 c4 c5 c6
  have fr := h1.free 5
  clear h1 hx
  have ST := Hd.mk st
  clear st
  go_enter Try.func15, Try.ntmps15
  go_wp2_with fail
  refine (at_some p n M D sc sd bs vs w i h hi).mono ?_
  rintro e w1 ⟨rfl, rfl⟩
  go_wp2_with fail
  go_end0
  exact ⟨rfl, ST.out _ 5 _ rfl rfl⟩

set_option maxHeartbeats 800000 in
theorem write_some (p n : Nat) (M : Nat → Cn) (D : List Nat) (F : List Nat) (w : World) (i : Nat) (s : ByteArray) (h : NetAt w p n M D F) (hi : i < n) (hs : (M i).written.size + s.size ≤ 1000000) :
    Calls Try.prog 14 #[.pointer (some ⟨p, 0, none⟩), .int .i64 i, .string s] w fun e w' => e = .returned (.tuple #[]) ∧
      Stepd w w' p n (writeTo M i (M i) s) D F := by
  obtain ⟨sc, sd, bs, vs, h, rfl⟩ := h
  have h1 := h.blk i hi
  have st := fun x j u hx hin => h.cell i hi x j u hx hin
  obtain ⟨x, hx⟩ : ∃ x, x = M i := ⟨_, rfl⟩
  rw [← hx] at h1 st hs ⊢
  have c0 := h1.cell 0
  have c1 := h1.cell 1
  have c2 := h1.cell 2
  have c3 := h1.cell 3
  have c4 := h1.cell 4
  have c5 := h1.cell 5
  have c6 := h1.cell 6
  simp only [Cn.cells, List.getElem?_cons_zero, List.getElem?_cons_succ] at c0 c1 c2 c3 c4 c5 c6
  have fr := h1.free 6
  clear h1 hx
  have ST := Hd.mk st
  clear st
  obtain ⟨inn, came, shut, reset, taken, closed, written⟩ := x
  simp only at hs
  cases reset <;> cases closed
  all_goals
    go_enter Try.func14, Try.ntmps14
    go_wp2_with fail
    refine (at_some p n M D sc sd bs vs w i h hi).mono ?_
    rintro e w1 ⟨rfl, rfl⟩
    go_wp2_with fail
    go_end0
    first
      | exact ⟨rfl, h.stay (Upd.refl [] _)⟩
      | exact ⟨rfl, ST.out _ 6 _ rfl rfl⟩
end Go.Proofs.Ytpjkckhgkaefdaa
