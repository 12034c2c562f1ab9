/- A reorder buffer in memory: what New, Open, Room, Give, Put, Ready and Take do to it. -/
import Derived.Test.YtnimcjkddecdhaaRows
import Derived.Test.YtnimcjkddecdhaaQt
import Derived.Test.YtnimcjkddecdhaaOps
namespace Go.Proofs.Ytnimcjkddecdhaa
open Go.RowKit BigFrame

/-- A response, cell by cell. -/
structure Rp where
  st : Int
  fa : Option Addr
  fl : Nat
  fc : Nat
  body : ByteArray
  close : Bool
def Rp.cells (x : Rp) : List Value := [.int .i64 x.st, .slice x.fa x.fl x.fc, .string x.body, .bool x.close]
def Rp.zero : Rp := ⟨0, none, 0, 0, ⟨#[]⟩, false⟩
theorem Rp.len (x : Rp) : x.cells.length = 4 := rfl

/-- The buffer at p, its ring at r of n places: numbers from o up to g are open, T tells their answers; these lie in none of the blocks X. -/
structure IsB (w : World) (p r n g o : Nat) (T : Nat → Option Rp) (X : List Nat) (c : List Value) : Prop where
  head : Blk w p [.slice (some ⟨r, 0, none⟩) n n, .int .i64 g, .int .i64 o] 45
  ring : Blk w r c 46
  len : c.length = n
  le : o ≤ g
  few : g ≤ o + n
  there : ∀ i, o ≤ i → i < g → ∀ x, T i = some x → ∃ b, c[i % n]? = some (.pointer (some ⟨b, 0, none⟩)) ∧ Blk w b x.cells 33 ∧ b ∉ X ∧ b ≠ p ∧ b ≠ r
  gone : ∀ k, k < n → (∀ i, o ≤ i → i < g → i % n = k → T i = none) → c[k]? = some (.pointer none)
  new : ∀ i, g ≤ i → T i = none

theorem IsB.upd {w w' : World} {p r n g o : Nat} {T : Nat → Option Rp} {X S : List Nat} {c : List Value} (h : IsB w p r n g o T X c) (hu : Upd S w w') (hp : p ∉ S) (hr : r ∉ S) (hS : ∀ k, k ∈ S → k ∈ X) : IsB w' p r n g o T X c where
  head := hu.blk h.head hp
  ring := hu.blk h.ring hr
  len := h.len
  le := h.le
  few := h.few
  there := fun i h1 h2 x hx => by
    obtain ⟨b, h3, h4, h5, h6⟩ := h.there i h1 h2 x hx
    exact ⟨b, h3, hu.blk h4 (fun e => h5 (hS b e)), h5, h6⟩
  gone := h.gone
  new := h.new

/-- What is written is neither the buffer nor any response. -/
theorem IsB.keep {w w' : World} {p r n g o : Nat} {T : Nat → Option Rp} {X S : List Nat} {c : List Value} (h : IsB w p r n g o T X c) (hu : Upd S w w') (hp : p ∉ S) (hr : r ∉ S) (hS : ∀ k, k ∈ S → ∀ cs, ¬ Blk w k cs 33) : IsB w' p r n g o T X c where
  head := hu.blk h.head hp
  ring := hu.blk h.ring hr
  len := h.len
  le := h.le
  few := h.few
  there := fun i h1 h2 x hx => by
    obtain ⟨b, h3, h4, h5, h6⟩ := h.there i h1 h2 x hx
    exact ⟨b, h3, hu.blk h4 (fun e => hS b e _ h4), h5, h6⟩
  gone := h.gone
  new := h.new

/-- A block that is new is none of the buffer's. -/
theorem IsB.fresh {w : World} {p r n g o : Nat} {T : Nat → Option Rp} {X X' : List Nat} {c : List Value} (h : IsB w p r n g o T X c) (hX : ∀ x, x ∈ X' → w.heap.size ≤ x) : IsB w p r n g o T X' c where
  head := h.head
  ring := h.ring
  len := h.len
  le := h.le
  few := h.few
  there := fun i h1 h2 x hx => by
    obtain ⟨b, h3, h4, h5, h6⟩ := h.there i h1 h2 x hx
    exact ⟨b, h3, h4, fun e => by have := hX b e; have := h4.lt; omega, h6⟩
  gone := h.gone
  new := h.new
theorem IsB.less {w : World} {p r n g o : Nat} {T : Nat → Option Rp} {X X' : List Nat} {c : List Value} (h : IsB w p r n g o T X c) (hX : ∀ x, x ∈ X' → x ∈ X) : IsB w p r n g o T X' c where
  head := h.head
  ring := h.ring
  len := h.len
  le := h.le
  few := h.few
  there := fun i h1 h2 x hx => by
    obtain ⟨b, h3, h4, h5, h6⟩ := h.there i h1 h2 x hx
    exact ⟨b, h3, h4, fun e => h5 (hX b e), h6⟩
  gone := h.gone
  new := h.new

theorem win_ne {o n i j : Nat} (hi : o ≤ i) (hj : o ≤ j) (hi2 : i < o + n) (hj2 : j < o + n) (e : i % n = j % n) : i = j := by
  have key : ∀ a b : Nat, o ≤ a → a ≤ b → b < o + n → a % n = b % n → a = b := by
    intro a b h1 h2 h3 h4
    have h5 : (b - a) % n = 0 := Nat.sub_mod_eq_zero_of_mod_eq h4.symm
    rw [Nat.mod_eq_of_lt (by omega)] at h5
    omega
  rcases Nat.le_total i j with h | h
  · exact key i j hi h hj2 e
  · exact (key j i hj h hi2 e.symm).symm

set_option maxHeartbeats 400000 in
theorem open_ok (p r n g o : Nat) (T : Nat → Option Rp) (X : List Nat) (c : List Value) (w : World) (hg : g ≤ 1000000) (h : IsB w p r n g o T X c) :
    Calls Try.prog 11 #[.pointer (some ⟨p, 0, none⟩)] w fun e w' => e = .returned (.int .i64 (g - o)) ∧ ∃ k, w' = w.drewN k := by
  have hle := h.le
  have h1 := h.head
  have c0 := h1.cell 0
  have c1 := h1.cell 1
  have c2 := h1.cell 2
  simp only [List.getElem?_cons_zero, List.getElem?_cons_succ] at c0 c1 c2
  clear h h1
  go_enter Try.func11, Try.ntmps11
  go_wp2
  refine wp_region_quiet_lit (by kernel_rfl) (by kernel_rfl) ?_
  repeat (go_big_quiet_step (fail))
  refine wpQuiet_nil ?_
  (intro _ hw'; obtain ⟨nq, hw''⟩ := hw'; subst hw'')
  go_wp2
  go_ret
  exact ⟨rfl, nq, rfl⟩

set_option maxHeartbeats 400000 in
theorem room_ok (p r n g o : Nat) (T : Nat → Option Rp) (X : List Nat) (c : List Value) (w : World) (hg : g ≤ 1000000) (hn : n ≤ 8) (h : IsB w p r n g o T X c) :
    Calls Try.prog 12 #[.pointer (some ⟨p, 0, none⟩)] w fun e w' => e = .returned (.int .i64 (n - (g - o))) ∧ ∃ k, w' = w.drewN k := by
  have hle := h.le
  have hfew := h.few
  have h1 := h.head
  have c0 := h1.cell 0
  have c1 := h1.cell 1
  have c2 := h1.cell 2
  simp only [List.getElem?_cons_zero, List.getElem?_cons_succ] at c0 c1 c2
  clear h1
  have hop := fun k => open_ok p r n g o T X c (w.drewN k) hg (h.upd ((Upd.refl [] w).drewN k) (by simp) (by simp) (by simp))
  have HOP := Hd.mk hop
  clear hop h
  go_enter Try.func12, Try.ntmps12
  go_wp2
  refine wp_region_quiet_lit (by kernel_rfl) (by kernel_rfl) ?_
  repeat (go_big_quiet_step ((go_at_call 11; exact Calls.quiet_of (HOP.out _))))
  refine wpQuiet_nil ?_
  (intro _ hw'; obtain ⟨nq, hw''⟩ := hw'; subst hw'')
  go_wp2
  go_ret
  exact ⟨rfl, nq, rfl⟩

set_option maxHeartbeats 400000 in
theorem give_full (p r n g o : Nat) (T : Nat → Option Rp) (X : List Nat) (c : List Value) (w : World) (hg : g ≤ 1000000) (hn : n ≤ 8) (h : IsB w p r n g o T X c) (hf : g = o + n) :
    Calls Try.prog 8 #[.pointer (some ⟨p, 0, none⟩)] w fun e w' => e = .returned (.tuple #[.int .i64 0, .bool false]) ∧ ∃ k, w' = w.drewN k := by
  have hz : ((n : Int) - (g - o) == 0) = true := by simp; omega
  clear hf
  go_enter Try.func8, Try.ntmps8
  go_wp2_with fail
  refine (room_ok p r n g o T X c w hg hn h).mono ?_
  rintro e w1 ⟨rfl, k, rfl⟩
  go_wp2_with fail
  go_ret2
  exact ⟨rfl, k, rfl⟩

set_option maxHeartbeats 400000 in
theorem give_room (p r n g o : Nat) (T : Nat → Option Rp) (X : List Nat) (c : List Value) (w : World) (hpr : p ≠ r) (hg : g ≤ 1000000) (hn : n ≤ 8) (h : IsB w p r n g o T X c) (hf : g < o + n) :
    Calls Try.prog 8 #[.pointer (some ⟨p, 0, none⟩)] w fun e w' => e = .returned (.tuple #[.int .i64 g, .bool true]) ∧ IsB w' p r n (g + 1) o T X c ∧ Upd [p] w w' := by
  have hle := h.le
  have hz : ((n : Int) - (g - o) == 0) = false := by simp; omega
  have H := Hd.mk h
  have h1 := h.head
  go_enter Try.func8, Try.ntmps8
  go_wp2_with fail
  refine (room_ok p r n g o T X c w hg hn h).mono ?_
  rintro e w1 ⟨rfl, k, rfl⟩
  have c0 := h1.cell 0
  have c1 := h1.cell 1
  have c2 := h1.cell 2
  simp only [List.getElem?_cons_zero, List.getElem?_cons_succ] at c0 c1 c2
  have f1 := h1.free 1
  clear h h1
  go_wp2_with fail
  go_ret2
  have h := H.out
  refine ⟨rfl, ⟨?_, (h.ring.drewN _).set_ne _ _ hpr.symm, h.len, by omega, by omega, ?_, ?_, ?_⟩, ((Upd.refl _ _).drewN _).set _ _ (by simp)⟩
  · exact ((h.head.drewN _).set 1 _).as (by simp)
  · intro i h1 h2 x hx
    by_cases hi : i < g
    · obtain ⟨b, h3, h4, h5, h6, h7⟩ := h.there i h1 hi x hx
      exact ⟨b, h3, (h4.drewN _).set_ne _ _ h6, h5, h6, h7⟩
    · rw [h.new i (by omega)] at hx; cases hx
  · intro k hk hh
    exact h.gone k hk (fun i h1 h2 h3 => hh i h1 (by omega) h3)
  · intro i hi
    exact h.new i (by omega)
end Go.Proofs.Ytnimcjkddecdhaa
