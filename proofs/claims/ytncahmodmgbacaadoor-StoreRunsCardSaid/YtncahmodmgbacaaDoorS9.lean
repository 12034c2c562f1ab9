/- Store: Held, Unlock. -/
import Derived.Test.YtncahmodmgbacaaDoorS8

namespace Go.Proofs.YtncahmodmgbacaaDoor
set_option linter.unusedSimpArgs false
set_option linter.unusedVariables false
set_option linter.unnecessarySimpa false
open Go.RowKit BigFrame

/-- How many of the first i shards are somebody's. -/
def heldN (o : Nat → Int) (ow : Int) (i : Nat) : Nat := (List.range i).countP fun j => decide (0 < ow ∧ o j = ow)
theorem heldN_succ (o : Nat → Int) (ow : Int) (i : Nat) : heldN o ow (i + 1) = heldN o ow i + (if 0 < ow ∧ o i = ow then 1 else 0) := by
  unfold heldN
  rw [List.range_succ, List.countP_append]
  by_cases h : 0 < ow ∧ o i = ow
  · simp [h]
  · rw [if_neg h]
    simp
    intro h1 h2
    exact h ⟨h1, h2⟩
theorem heldN_le (o : Nat → Int) (ow : Int) (i : Nat) : heldN o ow i ≤ i := by
  have := List.countP_le_length (p := fun j => decide (0 < ow ∧ o j = ow)) (l := List.range i)
  simpa [heldN] using this
theorem held_ok {w0 w : World} {p : Nat} {r : Nat → Nat} {o : Nat → Int} {m : St} {n : Nat → Nat} (h : Sto w0 w p r o m n) (ow : Int) :
    Calls Tryd.prog 24 #[.pointer (some ⟨p, 0, none⟩), .int .i64 ow] w fun e w' => e = .returned (.int .i64 (heldN o ow 4)) ∧ w' = w := by
  have HS := Hd.mk h
  clear h
  go_enter Tryd.func24, Tryd.ntmps24
  go_wp2_with fail
  go_loopg [5, 6, 7] 4 (fun g s5 s6 ii wr => ∃ i : Nat, g + i = 4 ∧ ii = .int .i64 i ∧ s5 = .int .i64 (heldN o ow i) ∧ wr = w)
  case atStart => exact ⟨0, rfl, rfl, rfl, rfl⟩
  case round =>
    obtain ⟨i, hg, rfl, rfl, rfl⟩ := hrel
    by_cases hi : i < 4
    · have hc := HS.out.ow hi
      have HN := Hd.mk (heldN_succ o ow i)
      have hle := heldN_le o ow i
      generalize heldN o ow i = q at *
      generalize o i = x at hc HN
      by_cases h1 : 0 < ow
      · have d1 : decide (0 < ow) = true := decide_eq_true h1
        by_cases h2 : x = ow
        · subst h2
          go_wp2_with fail
          go_roundg (gk - 1)
          case measure => omega
          case rel => exact ⟨i + 1, by omega, by go_num, by rw [HN.out, if_pos ⟨h1, trivial⟩]; go_num, rfl⟩
        · have d2 : (x == ow) = false := by simpa using h2
          go_wp2_with fail
          go_roundg (gk - 1)
          case measure => omega
          case rel => exact ⟨i + 1, by omega, by go_num, by rw [HN.out, if_neg (fun q => h2 q.2)]; go_num, rfl⟩
      · have d1 : decide (0 < ow) = false := decide_eq_false h1
        go_wp2_with fail
        go_roundg (gk - 1)
        case measure => omega
        case rel => exact ⟨i + 1, by omega, by go_num, by rw [HN.out, if_neg (by omega)]; go_num, rfl⟩
    · obtain rfl : i = 4 := by omega
      obtain ⟨q, hq⟩ : ∃ q, heldN o ow 4 = q := ⟨_, rfl⟩
      rw [hq]
      have HQ := Hd.mk hq
      clear hq
      go_wp2_with fail
      go_ret
      exact ⟨by rw [HQ.out]; rfl, rfl⟩
/-- The owners behind Unlock of the first i shards. -/
def unl (o : Nat → Int) (ow : Int) (i : Nat) : Nat → Int := fun j => if j < i ∧ 0 < ow ∧ o j = ow then 0 else o j
theorem unl_zero (o : Nat → Int) (ow : Int) : unl o ow 0 = o := by funext j; simp [unl]
theorem unl_at (o : Nat → Int) (ow : Int) (i : Nat) : unl o ow i i = o i := by simp [unl]
theorem unl_yes (o : Nat → Int) (ow : Int) (i : Nat) (h1 : 0 < ow) (h2 : o i = ow) : setO (unl o ow i) i 0 = unl o ow (i + 1) := by
  funext j
  unfold setO unl
  by_cases h : j = i
  · subst h; rw [if_pos rfl, if_pos ⟨by omega, h1, h2⟩]
  · rw [if_neg h]
    by_cases h3 : j < i ∧ 0 < ow ∧ o j = ow
    · rw [if_pos h3, if_pos ⟨by omega, h3.2⟩]
    · rw [if_neg h3, if_neg (fun q => h3 ⟨by omega, q.2⟩)]
theorem unl_no (o : Nat → Int) (ow : Int) (i : Nat) (h : ¬ (0 < ow ∧ o i = ow)) : unl o ow i = unl o ow (i + 1) := by
  funext j
  unfold unl
  by_cases h3 : j < i ∧ 0 < ow ∧ o j = ow
  · rw [if_pos h3, if_pos ⟨by omega, h3.2⟩]
  · rw [if_neg h3, if_neg (fun q => by
      by_cases e : j = i
      · subst e; exact h q.2
      · exact h3 ⟨by omega, q.2⟩)]
theorem unlock_ok {w0 w : World} {p : Nat} {r : Nat → Nat} {o : Nat → Int} {m : St} {n : Nat → Nat} (h : Sto w0 w p r o m n) (ow : Int) :
    Calls Tryd.prog 22 #[.pointer (some ⟨p, 0, none⟩), .int .i64 ow] w fun e w' => e = .returned (.tuple #[]) ∧ Sto w0 w' p r (unl o ow 4) m n ∧ Upd [p] w w' := by
  have HS := Hd.mk h
  clear h
  go_enter Tryd.func22, Tryd.ntmps22
  go_wp2_with fail
  go_loopg [4, 5] 4 (fun g s4 ii wr => ∃ i : Nat, g + i = 4 ∧ ii = .int .i64 i ∧ Hd (Sto w0 wr p r (unl o ow i) m n ∧ Upd [p] w wr))
  case atStart => exact ⟨0, rfl, rfl, Hd.mk ⟨by rw [unl_zero]; exact HS.out, Upd.refl _ _⟩⟩
  case round =>
    clear HS
    obtain ⟨i, hg, rfl, HS⟩ := hrel
    by_cases hi : i < 4
    · have hc := HS.out.1.ow hi
      have hz := HS.out.1.blk.free (i * 2)
      rw [unl_at] at hc
      have HL := Hd.mk (HS.out.1.lock hi 0)
      have HY := Hd.mk (unl_yes o ow i)
      have HN := Hd.mk (unl_no o ow i)
      generalize o i = x at hc HY HN
      by_cases h1 : 0 < ow
      · have d1 : decide (0 < ow) = true := decide_eq_true h1
        by_cases h2 : x = ow
        · subst h2
          go_wp2_with fail
          go_roundg (gk - 1)
          case measure => omega
          case rel => exact ⟨i + 1, by omega, by go_num, Hd.mk ⟨by have := HL.out.1; rw [HY.out h1 trivial] at this; exact this, HS.out.2.trans HL.out.2 (by simp)⟩⟩
        · have d2 : (x == ow) = false := by simpa using h2
          go_wp2_with fail
          go_roundg (gk - 1)
          case measure => omega
          case rel => exact ⟨i + 1, by omega, by go_num, by rw [← HN.out (fun q => h2 q.2)]; exact HS⟩
      · have d1 : decide (0 < ow) = false := decide_eq_false h1
        go_wp2_with fail
        go_roundg (gk - 1)
        case measure => omega
        case rel => exact ⟨i + 1, by omega, by go_num, by rw [← HN.out (by omega)]; exact HS⟩
    · obtain rfl : i = 4 := by omega
      go_wp2_with fail
      go_end0
      exact ⟨rfl, HS.out.1, HS.out.2⟩
end Go.Proofs.YtncahmodmgbacaaDoor
