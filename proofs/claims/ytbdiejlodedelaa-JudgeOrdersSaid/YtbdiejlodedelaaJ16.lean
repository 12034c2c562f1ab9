/- JudgeOrders: there is an order just if one of all orders fits; it is the first one of these. -/
import Derived.Test.YtbdiejlodedelaaJ15
import Derived.Test.YtbdiejlodedelaaMm
namespace Go.Proofs.Ytbdiejlodedelaa
set_option linter.unusedSimpArgs false
set_option linter.unusedVariables false
set_option linter.unnecessarySimpa false
open Go.RowKit BigFrame

theorem Rd.less {w : World} {a : Option Addr} {n m : Nat} {O : Nat → Op} (h : Rd w a n O) (hm : m ≤ n) : Rd w a m O := by
  intro h0
  obtain ⟨b, off, ha, hb, hc⟩ := h (by omega)
  exact ⟨b, off, ha, hb, fun i hi => hc i (by omega)⟩
theorem run_ext_upto {P : Program} (t e : TypeId) (size : Nat) (ht : P.underlying t = some (.slice e)) (hi : (P.info? e).map (·.size) = some size) (a : Option Addr) (n cap : Nat) (hnc : n ≤ cap) (k : Nat) (hk : k ≤ n) (hk2 : k ≤ 1000000) :
    ∃ a', (∀ W, (Instr.slice t (.slice a n cap) none (some (.int .i64 k)) none).run P W = .ok (.slice a' k cap) W) ∧ ∀ b off, a = some ⟨b, off, none⟩ → a' = a := by
  have hs : ∀ W, (sizeOf e).run P W = .ok size W := by
    intro W
    cases hq : P.info? e with
    | none => simp [hq] at hi
    | some i => have : i.size = size := by simpa [hq] using hi
                simp [sizeOf, typeInfo, hq, this]
  have hw : IntKind.i64.wrap (k : Int) = k := by rw [IntKind.wrap_i64]; omega
  have hkc : k ≤ cap := by omega
  refine ⟨if cap = 0 then a else a.map (·.add 0), fun W => ?_, ?_⟩
  · simp [Instr.slice, run_underlying ht, Instr.sliceBounds, Instr.sliceBound, asIntOf, hs, hkc]
  · rintro b off rfl
    split
    · rfl
    · simp [Addr.add_lit]
theorem Rd.same {w : World} {a a' : Option Addr} {n : Nat} {O : Nat → Op} (h : Rd w a n O) (e : ∀ b off, a = some ⟨b, off, none⟩ → a' = a) : Rd w a' n O := by
  intro h0
  obtain ⟨b, off, ha, hb, hc⟩ := h h0
  exact ⟨b, off, (e b off ha).trans ha, hb, hc⟩
theorem ord_find (O : Nat → Op) (n : Nat) (h : rightB O n = true) : ordRes O n = (perms n (List.range n)).find? (fits O St.none) := by
  unfold ordRes
  rw [if_pos h, srch_perms O n n 0 St.none (Nat.two_pow_pos _) (left_zero _)]
  have : left n 0 = List.range n := by
    unfold left
    rw [List.filter_eq_self]
    simp
  rw [this]
theorem Rd.of_sl' {w : World} {T : TypeId} {a : Option Addr} {n cap : Nat} {O : Nat → Op} (h : Sl w T 6 (.slice a n cap) n ((List.range n).flatMap fun i => (O i).cells)) : Rd w a n O := by
  intro h0
  have h' := h
  obtain ⟨g, o, c, he, h2, h3, h4⟩ := h.some h0
  simp only [Value.slice.injEq] at he
  obtain ⟨rfl, -, rfl⟩ := he
  have hg := h'.lt g (by simp [ownB])
  refine ⟨g, o, rfl, hg, fun i hi j hj => ?_⟩
  rw [h4 (i * 6 + j) (by omega)]
  have := cells_at ((List.range n).map O) i j (by simpa using hi) hj
  rw [List.flatMap_map] at this
  rw [this]
  simp [opsOf, hi]

set_option maxRecDepth 100000 in
set_option maxHeartbeats 4000000 in
theorem orders_walk (a : Option Addr) (n cap : Nat) (O : Nat → Op) (w : World) (h : Rd w a n O) (hn : n ≤ maxLen) (hnc : n ≤ cap) (hsh : Short O n) :
    Calls Try.prog 3 #[.slice a n cap] w fun e w' => e = .returned (.bool true) ∧ Upd [] w w' := by
  have HR := Hd.mk h
  have HSH := Hd.mk hsh
  have HN := Hd.mk hn
  clear h hsh
  unfold maxLen at hn
  go_enter Try.func3, Try.ntmps3
  go_wp2_with fail
  refine (fit_ok w).mono ?_
  rintro e w1 ⟨rfl, u1⟩
  go_wp2_with fail
  refine (light_ok a n cap O w1 (HR.out.upd u1) HN.out HSH.out).mono ?_
  rintro e w2 ⟨rfl, u2⟩
  have U2 := Hd.mk (u1.trans u2 (by simp))
  clear u1 u2
  cases hl : lightB O n with
  | false =>
    clear hl
    go_wp2_with fail
    go_ret
    exact ⟨rfl, U2.out⟩
  | true =>
    have h20 : n ≤ 20 := by
      unfold lightB at hl
      simp at hl
      exact hl.2
    clear hl
    obtain ⟨k, hk⟩ : ∃ k : Nat, k = min n 6 := ⟨_, rfl⟩
    have hmin : min (n : Int) 6 = (k : Int) := by omega
    have k6 : k ≤ 6 := by omega
    have kn : k ≤ n := by omega
    obtain ⟨a', hsl, ha'⟩ := run_ext_upto (P := Try.prog) 22 31 6 Try.underlying22 (by kernel_rfl) a n cap hnc k kn (by omega)
    have HRK := Hd.mk (show Rd w a' k O from (HR.out.less kn).same ha')
    clear ha' hk
    go_wp2_with (refine wpList_min rfl (.tmp 18) (.const (.int .i64 6)) _ rfl n 6 rfl rfl ?_; simp only [hmin]; simp only [Act.put, List.setIfInBounds_toArray, List.set_cons_succ, List.set_cons_zero])
    refine (order_ok a' k cap O w2 (HRK.out.upd U2.out) (by unfold maxLen; omega)).mono ?_
    clear hsl hmin
    rintro e w3 ho
    obtain ⟨v, ok, rfl, HOR, HU3⟩ : ∃ v ok, e = .returned (.tuple #[v, .bool ok]) ∧ Hd ((∃ l, ordRes O k = some l ∧ ok = true ∧ Bld w2 w3 3 1 v l.length (nums l)) ∨ (ordRes O k = none ∧ ok = false ∧ v = .slice none 0 0)) ∧ Hd (Upd [] w w3) := by
      rcases ho with ⟨l, v, h1, rfl, h2⟩ | ⟨h1, rfl, h2⟩
      · exact ⟨v, true, rfl, Hd.mk (.inl ⟨l, h1, rfl, h2⟩), Hd.mk (U2.out.trans h2.upd (by simp))⟩
      · exact ⟨_, false, rfl, Hd.mk (.inr ⟨h1, rfl, rfl⟩), Hd.mk (U2.out.trans h2 (by simp))⟩
    clear ho
    go_wp2_with fail
    refine (right_ok a' k cap O w3 (HRK.out.upd HU3.out) (by unfold maxLen; omega)).mono ?_
    rintro e w4 ⟨rfl, u4⟩
    have HU4 := Hd.mk (HU3.out.trans u4 (by simp))
    have HU34 := Hd.mk u4
    clear u4
    cases hrt : rightB O k with
    | false =>
      obtain ⟨l, h1, -⟩ | ⟨-, rfl, rfl⟩ := HOR.out
      · unfold ordRes at h1
        rw [hrt] at h1
        cases h1
      clear hrt
      go_wp2_with fail
      go_ret
      exact ⟨rfl, HU4.out⟩
    | true =>
      have HOF := Hd.mk (ord_find O k hrt)
      clear hrt
      go_wp2_with fail
      go_loopg [5, 38] k (fun g s5 ii wr => ∃ i : Nat, ii = .int .i64 i ∧ g + i = k ∧ Bld w4 wr 32 6 s5 i ((List.range i).flatMap fun i => (O i).cells))
      case atStart => exact ⟨0, rfl, by omega, Bld.nil (Upd.refl _ _) _ _⟩
      case round =>
        obtain ⟨i, rfl, hg, y⟩ := hrel
        by_cases hi : i < k
        · obtain ⟨b, off, rfl, hb, c0, c1, c2, c3, c4, c5⟩ := ((HRK.out.upd HU4.out).upd y.upd).at i hi
          have HG := Hd.mk hg
          have HY := Hd.mk y
          clear hg y
          go_upto_region 13 with (fail)
          have al := (Upd.refl [] wr).alloc (.cells (O i).cells.toArray 31)
          refine wp_abs (fun W => Bld w4 W 32 6 u5 i ((List.range i).flatMap fun i => (O i).cells) ∧ Blk W wr.heap.size (O i).cells 31) ⟨HY.out.over al, Blk.new wr (O i).cells 31 _ rfl⟩ ?_
          clear c0 c1 c2 c3 c4 c5 al HY
          generalize wr.heap.size = cb at *
          rintro w5 ⟨y, tb⟩
          have c0 := tb.cell 0
          have c1 := tb.cell 1
          have c2 := tb.cell 2
          have c3 := tb.cell 3
          have c4 := tb.cell 4
          have c5 := tb.cell 5
          simp only [Op.cells, List.getElem?_cons_zero, List.getElem?_cons_succ] at c0 c1 c2 c3 c4 c5
          have HY := Hd.mk y
          have hss := y.sl
          clear y tb
          go_wp2_with (at_builtin; refine wpList_append_row rfl (.tmp 42) (.tmp 56) 29 rfl rfl 32 (.agg Op.zero.cells.toArray) 6 64 Try.underlying29 (by kernel_rfl) rfl _ _ _ rfl hss (O i).cells rfl rfl rfl (by omega) (by omega) ?_)
          intro v' w9 s9 u9 o9
          have HY9 := Hd.mk (HY.out.app s9 u9 o9)
          clear s9 u9 o9 hss c0 c1 c2 c3 c4 c5
          go_wp2_with fail
          go_roundg (gk - 1)
          case measure => have := HG.out; omega
          case rel => exact ⟨i + 1, by go_num, by have := HG.out; omega, by have := HY9.out; rw [List.range_succ]; simpa using this⟩
        · obtain rfl : i = k := by omega
          obtain ⟨a5, c5, rfl⟩ := y.sl.form
          have HR5 := Hd.mk (Rd.of_sl' y.sl)
          have HU5 := Hd.mk (HU4.out.trans y.upd (by simp))
          have HU45 := Hd.mk y.upd
          clear hi hg y
          go_wp2_with fail
          refine (refOrder_ok a5 i c5 O wr HR5.out k6).mono ?_
          rintro e w6 hr
          obtain ⟨l, h1, rfl, hb⟩ | ⟨h1, rfl, rfl⟩ := HOR.out
          · rw [HOF.out] at h1
            obtain ⟨p, v2, h2, rfl, hb2⟩ | ⟨h2, -⟩ := hr
            rotate_left
            · rw [h1] at h2; cases h2
            rw [h1] at h2
            simp only [Option.some.injEq] at h2
            subst h2
            have hll : l.length ≤ 6 := by
              have := perms_perm i (List.range i) l (by simp) (List.mem_of_find?_eq_some h1)
              have := this.length_eq
              simp at this
              omega
            have HB1 := Hd.mk (((hb.sl.upd HU34.out (by simp)).upd HU45.out (by simp)).upd hb2.upd (by simp))
            have HB2 := Hd.mk hb2.sl
            have HU6 := Hd.mk (HU5.out.trans hb2.upd (by simp))
            obtain ⟨b1, d1, rfl⟩ := hb.sl.form
            obtain ⟨b2, d2, rfl⟩ := hb2.sl.form
            clear h1 hb hb2 HOR HOF HR5
            go_wp2_with fail
            go_loopg [79] l.length (fun g ii wq => ∃ j : Nat, ii = .int .i64 j ∧ g + j = l.length ∧ Upd [] w6 wq)
            case atStart => exact ⟨0, rfl, by omega, Upd.refl _ _⟩
            case round =>
              obtain ⟨j, rfl, hg, u⟩ := hrel
              by_cases hj : j < l.length
              · obtain ⟨g1, o1, x1, he1, -, -, hc1⟩ := (HB1.out.upd u (by simp)).some (by omega)
                simp only [Value.slice.injEq] at he1
                obtain ⟨rfl, -, rfl⟩ := he1
                obtain ⟨g2, o2, x2, he2, -, -, hc2⟩ := (HB2.out.upd u (by simp)).some (by omega)
                simp only [Value.slice.injEq] at he2
                obtain ⟨rfl, -, rfl⟩ := he2
                have c1 := hc1 j (by omega)
                have c2 := hc2 j (by omega)
                rw [nums_at l j hj] at c1 c2
                generalize l.getD j 0 = z at c1 c2
                have HU := Hd.mk u
                have HG := Hd.mk hg
                clear hc1 hc2 u hg
                go_upto_region 21 with (fail)
                refine wp_region_quiet_lit (by kernel_rfl) (by kernel_rfl) ?_
                repeat (go_big_quiet_step (fail))
                refine wpQuiet_nil ?_
                (intro _ hw'; obtain ⟨nb, hw''⟩ := hw'; subst hw'')
                go_wp2_with fail
                go_roundg (gk - 1)
                case measure => have := HG.out; omega
                case rel => exact ⟨j + 1, by go_num, by have := HG.out; omega, HU.out.drewN _⟩
              · obtain rfl : j = l.length := by omega
                have HU := Hd.mk u
                clear hj hg u
                go_wp2_with fail
                go_ret
                exact ⟨rfl, HU6.out.trans HU.out (by simp)⟩
          · rw [HOF.out] at h1
            obtain ⟨p, v2, h2, -⟩ | ⟨-, rfl, u6⟩ := hr
            · rw [h1] at h2; cases h2
            have HU6 := Hd.mk (HU5.out.trans u6 (by simp))
            clear u6 h1 HOR HOF HR5
            go_wp2_with fail
            go_loopg [79] 0 (fun g ii wq => g = 0 ∧ ii = .int .i64 0 ∧ wq = w6)
            case atStart => exact ⟨rfl, rfl, rfl⟩
            case round =>
              obtain ⟨-, rfl, rfl⟩ := hrel
              go_wp2_with fail
              go_ret
              exact ⟨rfl, HU6.out⟩

theorem orders_row (a : Option Addr) (len cap : Nat) (w : World) (hz : Leaf.ok w (.sl [.int .i64, .int .i64, .int .i64, .str, .str, .bool]) (.slice a len cap)) :
    Calls Try.prog 3 #[.slice a len cap] w fun e w' => e = .returned (.bool true) ∧ Below w.heap.size w w' := by
  obtain ⟨O, h1, h2, h3, -⟩ := leaf_rd hz
  have hnc : len ≤ cap := by
    simp only [Leaf.ok] at hz
    obtain ⟨_, _, _, _, h, h', -⟩ := hz
    simp only [Value.slice.injEq] at h
    omega
  exact (orders_walk a len cap O w h1 h3 hnc h2).mono fun _ _ h => ⟨h.1, h.2.nil_below⟩
end Go.Proofs.Ytbdiejlodedelaa
