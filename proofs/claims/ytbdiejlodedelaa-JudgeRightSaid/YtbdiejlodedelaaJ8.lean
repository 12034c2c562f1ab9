/- JudgeRight: too many ops, such of other kinds, or that end ahead of their beginnings, are not judged. -/
import Derived.Test.YtbdiejlodedelaaJ7
namespace Go.Proofs.Ytbdiejlodedelaa
set_option linter.unusedSimpArgs false
set_option linter.unusedVariables false
set_option linter.unnecessarySimpa false
open Go.RowKit BigFrame

def okTo (O : Nat → Op) (n i : Nat) : Bool := decide (n ≤ 12) && (List.range i).all fun j => okOp (O j)
theorem okTo_succ (O : Nat → Op) (n i : Nat) : okTo O n (i + 1) = (okTo O n i && okOp (O i)) := by
  unfold okTo
  rw [List.range_succ, List.all_append]
  simp [Bool.and_assoc]
theorem okTo_all (O : Nat → Op) (n : Nat) : okTo O n n = rightB O n := by
  unfold okTo rightB
  rw [Bool.and_comm]
theorem okOp_yes {o : Op} (h0 : 0 ≤ o.kind) (h1 : o.kind ≤ 2) (h2 : o.b ≤ o.e) : okOp o = true := by
  unfold okOp
  simp
  omega
theorem okOp_no {o : Op} (h : o.kind < 0 ∨ 2 < o.kind ∨ o.e < o.b) : okOp o = false := by
  unfold okOp
  simp
  omega
def putOp (i : Nat) : Op := ⟨1, i, i, ⟨#[107]⟩, ⟨#[118]⟩, decide (0 < i)⟩
def putOps (k : Nat) : List Op := (List.range k).map putOp
theorem putOps_succ (k : Nat) : (putOps (k + 1)).flatMap Op.cells = (putOps k).flatMap Op.cells ++ (putOp k).cells := by
  unfold putOps
  rw [List.range_succ, List.map_append, List.flatMap_append]
  simp
theorem putRes : ∀ N, N < 17 → ordRes (opsOf (putOps N)) N = if N ≤ 12 then some (List.range N) else none := by decide +kernel

set_option maxRecDepth 100000 in
set_option maxHeartbeats 2000000 in
theorem right_walk (a : Option Addr) (n cap : Nat) (O : Nat → Op) (x : Int) (w : World) (h : Rd w a n O) (hn : n ≤ maxLen) (hsh : Short O n) :
    Calls Try.prog 6 #[.slice a n cap, .int .i64 x] w fun e w' => e = .returned (.bool true) ∧ Upd [] w w' := by
  have HR := Hd.mk h
  have HSH := Hd.mk hsh
  have HN := Hd.mk hn
  clear h hsh
  unfold maxLen at hn
  go_enter Try.func6, Try.ntmps6
  go_wp2_with fail
  refine (fit_ok w).mono ?_
  rintro e w1 ⟨rfl, u1⟩
  go_wp2_with fail
  refine (light_ok a n cap O w1 (HR.out.upd u1) HN.out HSH.out).mono ?_
  rintro e w2 ⟨rfl, u2⟩
  have U2 := Hd.mk (u1.trans u2 (by simp))
  clear u1 u2
  cases hl : lightB O n with
  | false =>
    clear hl
    go_wp2_with fail
    go_ret
    exact ⟨rfl, U2.out⟩
  | true =>
    have h20 : n ≤ 20 := by
      unfold lightB at hl
      simp at hl
      exact hl.2
    clear hl
    go_wp2_with fail
    go_loopg [5, 22] n (fun g s5 ii wr => ∃ (i : Nat) (b5 : Bool), ii = .int .i64 i ∧ g + i = n ∧ Upd [] w wr ∧ s5 = .bool b5 ∧ Hd (b5 = okTo O n i))
    case atStart => exact ⟨0, _, rfl, by omega, U2.out, rfl, Hd.mk (by unfold okTo; simp; norm_cast)⟩
    case round =>
      clear U2
      obtain ⟨i, b5, rfl, hg, u, rfl, HB⟩ := hrel
      by_cases hlt : i < n
      · obtain ⟨b, off, rfl, hb, c0, c1, c2, c3, c4, c5⟩ := (HR.out.upd u).at i hlt
        have HU := Hd.mk u
        have HG := Hd.mk hg
        clear u hg
        go_upto_region 9 with (fail)
        refine wp_abs (fun W => Upd [] w W ∧ Blk W wr.heap.size (O i).cells 31) ⟨HU.out.alloc _, Blk.new wr (O i).cells 31 _ rfl⟩ ?_
        rintro w5 ⟨u5, tb⟩
        clear c0 c1 c2 c3 c4 c5
        have c0 := tb.cell 0
        have c1 := tb.cell 1
        have c2 := tb.cell 2
        have c3 := tb.cell 3
        have c4 := tb.cell 4
        have c5 := tb.cell 5
        simp only [Op.cells, List.getElem?_cons_zero, List.getElem?_cons_succ] at c0 c1 c2 c3 c4 c5
        generalize wr.heap.size = cb at *
        have U5 := Hd.mk u5
        have HS := Hd.mk (okTo_succ O n i)
        clear u5
        cases b5 with
        | false =>
          go_wp2_with fail
          go_roundg (gk - 1)
          case measure => have := HG.out; omega
          case rel => exact ⟨i + 1, _, by go_num, by have := HG.out; omega, U5.out, rfl, Hd.mk (by rw [HS.out, ← HB.out]; rfl)⟩
        | true =>
          by_cases h0 : 0 ≤ (O i).kind
          · have d0 : decide (0 ≤ (O i).kind) = true := by simpa using h0
            by_cases h1 : (O i).kind ≤ 2
            · have d1 : decide ((O i).kind ≤ 2) = true := by simpa using h1
              by_cases h2 : (O i).b ≤ (O i).e
              · have d2 : decide ((O i).b ≤ (O i).e) = true := by simpa using h2
                have HF := Hd.mk (okOp_yes h0 h1 h2)
                go_wp2_with fail
                go_roundg (gk - 1)
                case measure => have := HG.out; omega
                case rel => exact ⟨i + 1, _, by go_num, by have := HG.out; omega, U5.out, rfl, Hd.mk (by rw [HS.out, ← HB.out, HF.out]; rfl)⟩
              · have d2 : decide ((O i).b ≤ (O i).e) = false := by simpa using h2
                have HF := Hd.mk (okOp_no (.inr (.inr (Int.not_le.1 h2))))
                go_wp2_with fail
                go_roundg (gk - 1)
                case measure => have := HG.out; omega
                case rel => exact ⟨i + 1, _, by go_num, by have := HG.out; omega, U5.out, rfl, Hd.mk (by rw [HS.out, ← HB.out, HF.out]; rfl)⟩
            · have d1 : decide ((O i).kind ≤ 2) = false := by simpa using h1
              have HF := Hd.mk (okOp_no (.inr (.inl (Int.not_le.1 h1))))
              go_wp2_with fail
              go_roundg (gk - 1)
              case measure => have := HG.out; omega
              case rel => exact ⟨i + 1, _, by go_num, by have := HG.out; omega, U5.out, rfl, Hd.mk (by rw [HS.out, ← HB.out, HF.out]; rfl)⟩
          · have d0 : decide (0 ≤ (O i).kind) = false := by simpa using h0
            have HF := Hd.mk (okOp_no (.inl (Int.not_le.1 h0)))
            go_wp2_with fail
            go_roundg (gk - 1)
            case measure => have := HG.out; omega
            case rel => exact ⟨i + 1, _, by go_num, by have := HG.out; omega, U5.out, rfl, Hd.mk (by rw [HS.out, ← HB.out, HF.out]; rfl)⟩
      · obtain rfl : i = n := by omega
        have HB := Hd.mk (HB.out.trans (okTo_all O i))
        have U := Hd.mk u
        clear hlt hg u
        obtain ⟨k, hk, hk16⟩ : ∃ k : Nat, x % 16 = k ∧ k < 16 := ⟨(x % 16).toNat, by omega, by omega⟩
        go_wp2_with fail
        go_loopg [8, 49] (k + 1) (fun g s8 ii wr => ∃ j : Nat, ii = .int .i64 j ∧ g + j = k + 1 ∧ Bld w wr 31 6 s8 j ((putOps j).flatMap Op.cells))
        case atStart => exact ⟨0, rfl, by omega, Bld.nil U.out _ _⟩
        case round =>
          clear U
          obtain ⟨j, rfl, hg, y⟩ := hrel
          by_cases hlj : j < k + 1
          · have HG := Hd.mk hg
            have HY := Hd.mk y
            have hsl := y.sl
            have HS := Hd.mk (putOps_succ j)
            clear hg y
            go_wp2_with (at_builtin; refine wpList_append_row rfl (.tmp 52) (.tmp 58) 22 rfl rfl 31 (.agg Op.zero.cells.toArray) 6 64 Try.underlying22 (by kernel_rfl) rfl _ _ _ rfl hsl (putOp j).cells rfl rfl rfl (by omega) (by omega) ?_)
            intro v' w7 s7 u7' o7
            have Y7 := Hd.mk (HY.out.app s7 u7' o7)
            clear s7 u7' o7 hsl
            go_wp2_with fail
            go_roundg (gk - 1)
            case measure => have := HG.out; omega
            case rel => exact ⟨j + 1, by go_num, by have := HG.out; omega, by rw [HS.out]; exact Y7.out⟩
          · obtain rfl : j = k + 1 := by omega
            obtain ⟨a8, c8, rfl⟩ := y.sl.form
            have HY := Hd.mk y
            have HR8 := Hd.mk (Rd.of_sl y.sl)
            clear hlj hg y
            go_wp2_with fail
            refine (order_ok a8 (k + 1) c8 _ _ HR8.out (by unfold maxLen; omega)).mono ?_
            rintro e w8 (⟨l, v, h, rfl, hbl⟩ | ⟨h, rfl, u8⟩)
            · rw [putRes (k + 1) (by omega)] at h
              by_cases h12 : k + 1 ≤ 12
              · rw [if_pos h12] at h
                simp only [Option.some.injEq] at h
                obtain ⟨g, o, c, rfl, -, -, h4⟩ := hbl.sl.some (by rw [← h]; simp)
                have hll : l.length = k + 1 := by rw [← h]; simp
                have c0 := h4 k (by omega)
                rw [show (nums l)[k]? = some (.int .i64 k) by rw [← h]; simp [nums]] at c0
                have U8 := Hd.mk (HY.out.upd.trans hbl.upd (by simp))
                rw [hll]
                clear h4 hbl h hll
                go_wp2_with fail
                refine (right_ok a i cap O w8 (HR.out.upd U8.out) HN.out).mono ?_
                rw [← HB.out]
                rintro e w9 ⟨rfl, u9⟩
                have c0' : w9.cell? ⟨g, o + k, none⟩ = some (.int .i64 k) := by rw [u9.cell (p := ⟨g, o + k, none⟩) (block_lt_of_cell c0) (by simp)]; exact c0
                have U9 := Hd.mk (U8.out.trans u9 (by simp))
                clear c0 u9
                have d1 : decide ((k : Int) + 1 ≤ 12) = true := by simp; omega
                go_wp2_with fail
                go_ret
                exact ⟨rfl, U9.out⟩
              · rw [if_neg h12] at h
                cases h
            · rw [putRes (k + 1) (by omega)] at h
              by_cases h12 : k + 1 ≤ 12
              · rw [if_pos h12] at h
                cases h
              · have U8 := Hd.mk (HY.out.upd.trans u8 (by simp))
                clear h u8
                go_wp2_with fail
                refine (right_ok a i cap O w8 (HR.out.upd U8.out) HN.out).mono ?_
                rw [← HB.out]
                rintro e w9 ⟨rfl, u9⟩
                have U9 := Hd.mk (U8.out.trans u9 (by simp))
                clear u9
                have d1 : decide ((k : Int) + 1 ≤ 12) = false := by simp; omega
                go_wp2_with fail
                go_ret
                exact ⟨rfl, U9.out⟩

theorem right_row (a : Option Addr) (len cap : Nat) (x : Int) (w : World) (hz : Leaf.ok w (.sl [.int .i64, .int .i64, .int .i64, .str, .str, .bool]) (.slice a len cap)) (_ : (Lit.int .i64 x).wf = true) :
    Calls Try.prog 6 #[.slice a len cap, .int .i64 x] w fun e w' => e = .returned (.bool true) ∧ Below w.heap.size w w' := by
  obtain ⟨O, h1, h2, h3, -⟩ := leaf_rd hz
  exact (right_walk a len cap O x w h1 h3 h2).mono fun _ _ h => ⟨h.1, h.2.nil_below⟩
end Go.Proofs.Ytbdiejlodedelaa
