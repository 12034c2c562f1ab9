/- The document's judge: Order. -/
import Derived.Test.YtbdiejlodedelaaJ14
namespace Go.Proofs.Ytbdiejlodedelaa
set_option linter.unusedSimpArgs false
set_option linter.unusedVariables false
set_option linter.unnecessarySimpa false
open Go.RowKit BigFrame

def RefOrd (w : World) (O : Nat → Op) (n : Nat) (e : Ending) (w' : World) : Prop :=
  (∃ p v, (perms n (List.range n)).find? (fits O St.none) = some p ∧ e = .returned (.tuple #[v, .bool true]) ∧ Bld w w' 3 1 v p.length (nums p)) ∨
  ((perms n (List.range n)).find? (fits O St.none) = none ∧ e = .returned (.tuple #[.slice none 0 0, .bool false]) ∧ Upd [] w w')
theorem find_first {α : Type} (p : α → Bool) : ∀ (L : List α) (c : Nat) (x : α), L[c]? = some x → (∀ (d : Nat) (y : α), d < c → L[d]? = some y → p y = false) → p x = true → L.find? p = some x
  | [], c, x, h, _, _ => by simp at h
  | y :: L, 0, x, h, _, hx => by simp at h; subst h; simp [hx]
  | y :: L, c + 1, x, h, hb, hx => by
    rw [List.find?_cons, hb 0 y (by omega) rfl]
    exact find_first p L c x (by simpa using h) (fun d z hd hz => hb (d + 1) z (by omega) (by simpa using hz)) hx
theorem find_no {α : Type} (p : α → Bool) (L : List α) (h : ∀ (d : Nat) (y : α), L[d]? = some y → p y = false) : L.find? p = none := by
  rw [List.find?_eq_none]
  intro y hy
  obtain ⟨d, hd⟩ := List.getElem?_of_mem hy
  simp [h d y hd]

set_option maxRecDepth 100000 in
set_option maxHeartbeats 2000000 in
theorem refOrder_ok (a : Option Addr) (n cap : Nat) (O : Nat → Op) (w : World) (h : Rd w a n O) (hn : n ≤ 6) :
    Calls Try.prog 11 #[.slice a n cap] w (RefOrd w O n) := by
  have HR := Hd.mk h
  clear h
  go_enter Try.func11, Try.ntmps11
  go_wp2_with fail
  go_loopg [4, 5] n (fun g s4 ii wr => ∃ i : Nat, ii = .int .i64 i ∧ g + i = n ∧ Bld w wr 3 1 s4 i (nums (List.range i)))
  case atStart => exact ⟨0, rfl, by omega, Bld.nil (Upd.refl _ _) _ _⟩
  case round =>
    obtain ⟨i, rfl, hg, y⟩ := hrel
    by_cases hi : i < n
    · have HG := Hd.mk hg
      have HY := Hd.mk y
      have hsl := y.sl
      clear hg y
      go_wp2_with (at_builtin; refine wpList_append_row rfl (.tmp 13) (.tmp 15) 25 rfl rfl 3 (.int .i64 0) 1 8 Try.underlying25 (by kernel_rfl) rfl _ _ _ rfl hsl [.int .i64 i] rfl rfl rfl (by omega) (by omega) ?_)
      intro v' w7 s7 u7' o7
      have Y7 := Hd.mk (HY.out.app s7 u7' o7)
      clear s7 u7' o7 hsl
      go_wp2_with fail
      go_roundg (gk - 1)
      case measure => have := HG.out; omega
      case rel => exact ⟨i + 1, by go_num, by have := HG.out; omega, by have := Y7.out; rw [List.range_succ]; simpa [nums] using this⟩
    · obtain rfl : i = n := by omega
      have HCH := Hd.mk (chain_all i (by omega))
      have HY := Hd.mk y
      obtain ⟨a4, c4, rfl⟩ := y.sl.form
      obtain ⟨L, hL⟩ : ∃ L, perms i (List.range i) = L := ⟨_, rfl⟩
      have HPL := Hd.mk hL
      have hpl := perms_len i (by omega)
      rw [hL] at HCH hpl
      have HLL := Hd.mk hpl
      clear hi hg y hL hpl
      go_wp2_with fail
      go_loopg [6] L.length (fun g ii wr => ∃ (c : Nat) (p : List Nat), ii = .int .i64 c ∧ Hd (g + c = L.length) ∧ c ≤ 720 ∧ Hd (L[c]? = some p) ∧ Hd (∀ (d : Nat) (y : List Nat), d < c → L[d]? = some y → fits O St.none y = false) ∧ Bld w wr 3 1 (.slice a4 i c4) i (nums p))
      case atStart => exact ⟨0, _, rfl, Hd.mk (by omega), by omega, Hd.mk HCH.out.2, Hd.mk (by omega), HY.out⟩
      case round =>
        clear HY
        obtain ⟨c, p, rfl, HG, hc, HP, HB, y⟩ := hrel
        have hpm : p ∈ L := List.mem_of_getElem? HP.out
        rw [← HPL.out] at hpm
        have hpp := perms_perm i (List.range i) p (by simp) hpm
        have hpl : p.length = i := by simpa using hpp.length_eq
        have hplt : ∀ k ∈ p, k < i := fun k hk => by simpa using hpp.subset hk
        have HY := Hd.mk y
        have HPP := Hd.mk (And.intro hpl hplt)
        have hcL : c < L.length := (List.getElem?_eq_some_iff.1 HP.out).1
        have HCL := Hd.mk hcL
        have hc2 : c < 720 := by have := HLL.out; omega
        have hd6 : decide ((c : Int) < 6000) = true := by simp; omega
        clear hpm hpp hpl hplt y hcL
        go_wp2_with fail
        refine (fits_ok a i cap i O _ p wr (HR.out.upd HY.out.upd) HY.out.sl HPP.out.1 hn HPP.out.2).mono ?_
        rintro e w6 ⟨rfl, u6⟩
        have HY6 := Hd.mk (HY.out.over u6)
        cases hf : fits O St.none p with
        | true =>
          have HF := Hd.mk (find_first _ L c p HP.out HB.out hf)
          clear hf u6
          go_wp2_with fail
          go_ret2
          exact .inl ⟨p, _, by rw [HPL.out]; exact HF.out, rfl, by rw [HPP.out.1]; exact HY6.out⟩
        | false =>
          have HF := Hd.mk (show ∀ (d : Nat) (y : List Nat), d < c + 1 → L[d]? = some y → fits O St.none y = false from fun d y hd hy => by
            by_cases e : d = c
            · subst e; rw [HP.out] at hy; cases hy; exact hf
            · exact HB.out d y (by omega) hy)
          clear hf u6 HB HY
          have hi1 : 1 ≤ i := by
            rcases Nat.eq_zero_or_pos i with h | h
            · exfalso
              subst h
              have h1 := HP.out
              rw [← HPL.out] at h1
              have : p = [] := List.eq_nil_of_length_eq_zero HPP.out.1
              subst this
              have := HF.out c [] (by omega) HP.out
              cases this
            · exact h
          obtain ⟨g4, o4, c4', he, -, -, -⟩ := HY6.out.sl.some (by omega)
          simp only [Value.slice.injEq] at he
          obtain ⟨rfl, -, rfl⟩ := he
          go_wp2_with fail
          refine (next_ok g4 o4 i c4 p w6 HY6.out.sl HPP.out.1 hn hi1).mono ?_
          have HNX := Hd.mk (chain_next L HCH.out.1 c p HP.out)
          rintro e w7 (⟨h1, rfl, u7⟩ | ⟨p', h1, rfl, m7⟩)
          · have HNO := Hd.mk (find_no (fits O St.none) L (fun d y hy => HF.out d y (by
              have := HNX.out
              rw [h1] at this
              have h2 := List.getElem?_eq_none_iff.1 this.symm
              have := (List.getElem?_eq_some_iff.1 hy).1
              omega) hy))
            have U7 := Hd.mk (HY6.out.upd.trans u7 (by simp))
            clear h1 u7
            go_wp2_with fail
            go_ret2
            exact .inr ⟨by rw [HPL.out]; exact HNO.out, rfl, U7.out⟩
          · have HP' := Hd.mk (HNX.out.symm.trans h1)
            have HY7 := Hd.mk (show Bld w w7 3 1 (.slice (some ⟨g4, o4, none⟩) i c4) i (nums p') from ⟨m7.sl, HY6.out.own, HY6.out.upd.trans m7.upd (fun k hk e => by simp at e; have := HY6.out.own k (by simp [ownB, e]); omega)⟩)
            clear h1 m7
            go_wp2_with fail
            go_roundg (gk - 1)
            case measure => have := HG.out; have := HCL.out; omega
            case rel => exact ⟨c + 1, p', by go_num, Hd.mk (by have := HG.out; have := HCL.out; omega), by omega, HP', HF, HY7.out⟩
end Go.Proofs.Ytbdiejlodedelaa
