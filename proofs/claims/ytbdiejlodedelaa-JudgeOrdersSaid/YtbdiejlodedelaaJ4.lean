/- Judge: name. -/
import Derived.Test.YtbdiejlodedelaaJ3
import Derived.Test.YtbdiejlodedelaaBs
namespace Go.Proofs.Ytbdiejlodedelaa
set_option linter.unusedSimpArgs false
set_option linter.unusedVariables false
set_option linter.unnecessarySimpa false
open Go.RowKit BigFrame

def wordsTo (O : Nat → Op) (n t : Nat) (m : St) (i : Nat) : List Nat := [t / 256 % 256, t % 256] ++ (List.range i).flatMap (word O n m)
theorem word_len (O : Nat → Op) (n : Nat) (m : St) (i : Nat) : (word O n m i).length ≤ 2 := by
  unfold word
  split
  · simp
  · split <;> simp
theorem wordsTo_succ (O : Nat → Op) (n t : Nat) (m : St) (i : Nat) : wordsTo O n t m (i + 1) = wordsTo O n t m i ++ word O n m i := by
  unfold wordsTo
  rw [List.range_succ, List.flatMap_append]; simp
theorem wordsTo_len (O : Nat → Op) (n t : Nat) (m : St) (i : Nat) : (wordsTo O n t m i).length ≤ 2 + 2 * i := by
  induction i with
  | zero => simp [wordsTo]
  | succ i ih =>
    rw [wordsTo_succ, List.length_append]
    have := word_len O n m i
    omega

def isV (O : Nat → Op) (x : ByteArray) (j : Nat) : Bool := decide ((O j).kind = 1) && decide ((O j).val = x)
def fnd (O : Nat → Op) (n : Nat) (x : ByteArray) : List Nat := match (List.range n).find? (isV O x) with | some j => [1 + j] | none => []
theorem word_some {O : Nat → Op} {n i : Nat} {m : St} {x : ByteArray} (h : m (O i).key = some x) : word O n m i = fnd O n x ++ [200 + i] := by
  unfold word fnd
  rw [h]
  rfl
theorem word_none {O : Nat → Op} {n i : Nat} {m : St} (h : m (O i).key = none) : word O n m i = [0] := by
  unfold word
  rw [h]
theorem fnd_hit {O : Nat → Op} {n j : Nat} {x : ByteArray} (hj : j < n) (h : isV O x j = true) (hb : ∀ k, k < j → isV O x k = false) : fnd O n x = [1 + j] := by
  unfold fnd
  rw [(List.find?_range_eq_some (i := j)).2 ⟨h, by simpa using hj, fun k hk => by simp [hb k hk]⟩]
theorem fnd_none {O : Nat → Op} {n : Nat} {x : ByteArray} (hb : ∀ k, k < n → isV O x k = false) : fnd O n x = [] := by
  unfold fnd
  rw [List.find?_eq_none.2 (fun k hk => by simp [hb k (by simpa using hk)])]
theorem isV_no {O : Nat → Op} {x : ByteArray} {j : Nat} (hb : ∀ k, k < j → isV O x k = false) (h : isV O x j = false) : ∀ k, k < j + 1 → isV O x k = false := by
  intro k hk
  by_cases e : k = j
  · subst e; exact h
  · exact hb k (by omega)

theorem nm_wordsTo (O : Nat → Op) (n t : Nat) (m : St) : nm O n t m = wordsTo O n t m n := rfl
/-- The bytes of l, appended so far. -/
def By (w0 w : World) (v : Value) (l : List Nat) : Prop := Bld w0 w 5 1 v l.length (l.map B8)
theorem By.app {w0 w w' : World} {v v' : Value} {l : List Nat} {x : Nat} (h : By w0 w v l) {y : Int} (hy : y = x) (s : Sl w' 5 1 v' (l.length + 1) (l.map B8 ++ [.int .u8 y])) (u : Upd (ownB v) w w') (o : ∀ k, k ∈ ownB v' → k ∈ ownB v ∨ w.heap.size ≤ k) : By w0 w' v' (l ++ [x]) := by
  subst hy
  have := Bld.app h s u o
  unfold By
  rw [List.map_append, List.length_append]
  exact this

set_option maxHeartbeats 2000000 in
theorem name_ok (p d r k : Nat) (a : Option Addr) (n cap : Nat) (v : Value) (O : Nat → Op) (t : Nat) (m : St) (w : World) (hs : Blk w p [.slice a n cap, v, .map (some d)] 46) (h : Rd w a n O) (hm : MS w r m k) (hn : n ≤ 12) (ht : t < 4096) :
    Calls Try.prog 17 #[.pointer (some ⟨p, 0, none⟩), .int .i64 t, .map (some r)] w fun e w' => e = .returned (.string ⟨((nm O n t m).map UInt8.ofNat).toArray⟩) ∧ Upd [] w w' := by
  have HR := Hd.mk h
  have HS := Hd.mk hs
  have HM := Hd.mk hm
  have hp := hs.lt
  have c0 := hs.cell 0
  simp only [List.getElem?_cons_zero, List.getElem?_cons_succ] at c0
  clear h hs hm
  go_enter Try.func17, Try.ntmps17
  go_wp2
  have B := Blk.new w [.int .u8 ((t : Int) / 256), .int .u8 ((t : Int) % 256)] 5 _ rfl
  go_loopg [7, 25] n (fun g v7 ii wr => ∃ i : Nat, ii = .int .i64 i ∧ g + i = n ∧ By w wr v7 (wordsTo O n t m i))
  case atStart => exact ⟨0, rfl, by omega, by
      have := Bld.blk (sz := 1) (n := 2) B ((Upd.refl [] w).alloc _) (Nat.le_refl _) rfl (by unfold maxLen; omega)
      unfold By
      simp only [wordsTo, List.range_zero, List.flatMap_nil, List.append_nil, List.map_cons, List.map_nil, B8]
      rw [show (((t / 256 % 256 : Nat)) : Int) = (t : Int) / 256 by omega, show (((t % 256 : Nat)) : Int) = (t : Int) % 256 by omega]
      exact this⟩
  case round =>
    clear B c0
    obtain ⟨i, rfl, hg, y7⟩ := hrel
    by_cases hlt : i < n
    · obtain ⟨b, off, rfl, hb, c0, c1, c2, c3, c4, c5⟩ := (HR.out.upd y7.upd).at i hlt
      have hl := wordsTo_len O n t m i
      have HG := Hd.mk hg
      have HY := Hd.mk y7
      clear hg y7
      go_upto_region 5 with (fail)
      refine wp_abs (fun W => By w W u7 (wordsTo O n t m i) ∧ Blk W wr.heap.size (O i).cells 31) ⟨HY.out.over ((Upd.refl _ _).alloc _), Blk.new wr (O i).cells 31 _ rfl⟩ ?_
      clear HY
      rintro w5 ⟨y5, tb⟩
      clear c0 c1 c2 c3 c4 c5
      obtain ⟨L, mL, gL, -⟩ := HM.out.upd y5.upd (by simp)
      have hlk := look_ss mL (O i).key (gL (O i).key)
      clear gL mL
      have c0 := tb.cell 0
      have c1 := tb.cell 1
      have c2 := tb.cell 2
      have c3 := tb.cell 3
      have c4 := tb.cell 4
      have c5 := tb.cell 5
      simp only [Op.cells, List.getElem?_cons_zero, List.getElem?_cons_succ] at c0 c1 c2 c3 c4 c5
      generalize wr.heap.size = cb at *
      cases hk : m (O i).key with
      | none =>
        rw [hk] at hlk
        have HW := Hd.mk (wordsTo_succ O n t m i)
        have HW2 := Hd.mk (word_none hk (n := n))
        clear hk
        have s5 := y5.sl
        have HY := Hd.mk y5
        clear y5
        go_wp2_with (at_builtin; refine wpList_append_row rfl (.tmp 39) (.tmp 40) 57 rfl rfl 5 (.int .u8 0) 1 1 Try.underlying57 (by kernel_rfl) rfl _ _ _ rfl s5 [.int .u8 0] rfl rfl rfl (by omega) (by omega) ?_)
        intro v' w7 s7 u7' o7
        have Y7 := Hd.mk (HY.out.app (x := 0) rfl s7 u7' o7)
        clear s7 u7' o7 s5
        go_wp2
        go_roundg (gk - 1)
        case measure => have := HG.out; omega
        case rel => exact ⟨i + 1, by go_num, by have := HG.out; omega, by rw [HW.out, HW2.out]; exact Y7.out⟩
      | some x =>
        rw [hk] at hlk
        have HW := Hd.mk (wordsTo_succ O n t m i)
        have HW2 := Hd.mk (word_some hk (n := n))
        have HY5 := Hd.mk y5
        have p0 := (y5.upd.blk HS.out (by simp)).cell 0
        simp only [List.getElem?_cons_zero] at p0
        clear hk y5
        go_upto_block 2 with (fail)
        go_cut [7] (fun s7 W => By w W s7 (wordsTo O n t m i ++ fnd O n x))
        case first =>
          go_wp2
          go_loopg [7, 47] n (fun g v7 jj wq => v7 = u7 ∧ ∃ j : Nat, jj = .int .i64 j ∧ g + j = n ∧ By w wq u7 (wordsTo O n t m i) ∧ Hd (∀ k, k < j → isV O x k = false))
          case atStart => exact ⟨rfl, 0, rfl, by omega, HY5.out, Hd.mk (by omega)⟩
          case round =>
            clear HY5 hlk tb c0 c1 c2 c3 c4 c5 p0
            obtain ⟨rfl, j, rfl, hg, y7, HA⟩ := hrel
            by_cases hlj : j < n
            · obtain ⟨b', off', hbb, hb', c0, c1, c2, c3, c4, c5⟩ := (HR.out.upd y7.upd).at j hlj
              obtain ⟨rfl, rfl⟩ : b = b' ∧ off = off' := by simpa using hbb
              have HG2 := Hd.mk hg
              have HY7 := Hd.mk y7
              clear y7 hg hbb
              go_upto_region 11 with (fail)
              refine wp_abs (fun W => By w W _ (wordsTo O n t m i) ∧ Blk W wr.heap.size (O j).cells 31) ⟨HY7.out.over ((Upd.refl _ _).alloc _), Blk.new wr (O j).cells 31 _ rfl⟩ ?_
              clear HY7 c0 c1 c2 c3 c4 c5
              rintro w6 ⟨y6, tb⟩
              have c0 := tb.cell 0
              have c1 := tb.cell 1
              have c2 := tb.cell 2
              have c3 := tb.cell 3
              have c4 := tb.cell 4
              have c5 := tb.cell 5
              simp only [Op.cells, List.getElem?_cons_zero, List.getElem?_cons_succ] at c0 c1 c2 c3 c4 c5
              generalize wr.heap.size = cb2 at *
              have s6 := y6.sl
              have HY6 := Hd.mk y6
              clear y6
              have HN := Hd.mk (fun h => isV_no HA.out h)
              by_cases k1 : (O j).kind = 1
              · by_cases hv : (O j).val = x
                · have hs := str_yes hv
                  have HF := Hd.mk (fnd_hit hlj (show isV O x j = true by simp [isV, k1, hv]) HA.out)
                  clear hv HA HN
                  go_wp2_with (at_builtin; refine wpList_append_row rfl (.tmp 61) (.tmp 65) 57 rfl rfl 5 (.int .u8 0) 1 1 Try.underlying57 (by kernel_rfl) rfl _ _ _ rfl s6 [.int .u8 (1 + (j : Int))] rfl rfl rfl (by omega) (by omega) ?_)
                  intro v' w7 s7 u7' o7
                  have Y7 := Hd.mk (HY6.out.app (x := 1 + j) (y := 1 + (j : Int)) (by omega) s7 u7' o7)
                  clear s7 u7' o7 s6
                  go_wp2
                  go_meet
                  case rel => exact by rw [HF.out]; exact Y7.out
                · have hs := str_no hv
                  have HN := Hd.mk (HN.out (show isV O x j = false by simp [isV, hv]))
                  clear hv HA
                  go_wp2
                  go_roundg (gk - 1)
                  case measure => have := HG2.out; omega
                  case rel => exact ⟨rfl, j + 1, by go_num, by have := HG2.out; omega, HY6.out, HN⟩
              · have k1' : ((O j).kind == 1) = false := by simpa using k1
                have HN := Hd.mk (HN.out (show isV O x j = false by simp [isV, k1]))
                clear HA
                go_wp2
                go_roundg (gk - 1)
                case measure => have := HG2.out; omega
                case rel => exact ⟨rfl, j + 1, by go_num, by have := HG2.out; omega, HY6.out, HN⟩
            · obtain rfl : j = n := by omega
              have HF := Hd.mk (fnd_none HA.out)
              have HY7 := Hd.mk y7
              clear hlj HA y7 hg
              go_wp2
              go_meet
              case rel => exact by rw [HF.out, List.append_nil]; exact HY7.out
        case rest =>
          clear HY5 hlk tb c0 c1 c2 c3 c4 c5 p0
          have hl2 : (wordsTo O n t m i ++ fnd O n x).length ≤ 30 := by
            rw [List.length_append]
            have : (fnd O n x).length ≤ 1 := by unfold fnd; split <;> simp
            omega
          obtain ⟨l, hl3⟩ : ∃ l, l = wordsTo O n t m i ++ fnd O n x := ⟨_, rfl⟩
          rw [← hl3] at hcut hl2
          have HL := Hd.mk hl3
          have s6 := hcut.sl
          have HY6 := Hd.mk hcut
          clear hcut hl3
          go_wp2_with (at_builtin; refine wpList_append_row rfl (.tmp 68) (.tmp 72) 57 rfl rfl 5 (.int .u8 0) 1 1 Try.underlying57 (by kernel_rfl) rfl _ _ _ rfl s6 [.int .u8 (200 + (i : Int))] rfl rfl rfl (by omega) (by omega) ?_)
          intro v' w7 s7 u7' o7
          have Y7 := Hd.mk (HY6.out.app (x := 200 + i) (y := 200 + (i : Int)) (by omega) s7 u7' o7)
          clear s7 u7' o7 s6
          go_wp2
          go_roundg (gk - 1)
          case measure => have := HG.out; omega
          case rel => exact ⟨i + 1, by go_num, by have := HG.out; omega, by rw [HW.out, HW2.out, ← List.append_assoc, ← HL.out]; exact Y7.out⟩
    · obtain rfl : i = n := by omega
      have HY := Hd.mk y7
      have s7 := y7.sl
      have hcv := run_string_sl (P := Try.prog) 57 5 Try.underlying57 Try.underlying5 s7 9 Try.underlying9
      clear y7 hg hlt s7
      go_wp2
      go_ret
      exact ⟨rfl, HY.out.upd⟩
end Go.Proofs.Ytbdiejlodedelaa
