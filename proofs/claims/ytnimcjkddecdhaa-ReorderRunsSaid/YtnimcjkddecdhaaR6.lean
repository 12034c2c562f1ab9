/- ReorderRuns: call by call. -/
import Derived.Test.YtnimcjkddecdhaaR4
import Derived.Test.YtnimcjkddecdhaaMk
import Derived.Test.YtnimcjkddecdhaaFlat
import Derived.Deep.DeepCutAuto
import Derived.Deep.RegionWith
import Derived.Deep.CutBlock
namespace Go.Proofs.Ytnimcjkddecdhaa
open Go.RowKit BigFrame

theorem ready_ok (p r n g o : Nat) (T : Nat → Option Rp) (X : List Nat) (c : List Value) (w : World) (hg : g ≤ 1000000) (hn : n ≤ 8) (h : IsB w p r n g o T X c) :
    Calls Try.prog 13 #[.pointer (some ⟨p, 0, none⟩)] w fun e w' => e = .returned (.bool (T o).isSome) ∧ ∃ k, w' = w.drewN k := by
  by_cases e : o < g
  · exact ready_open p r n g o T X c w hg hn h e
  · have : g = o := by have := h.le; omega
    subst this
    rw [h.new _ (Nat.le_refl _)]
    exact ready_none p r n g T X c w hg h

structure RunI (w W : World) (p r mb n g o : Nat) (T : Nat → Option Rp) (c : List Value) (L : List (Int × Value × Nat)) : Prop where
  buf : IsB W p r n g o T [] c
  map : Mp W mb (fun k => .int .i64 k) L
  law : ∀ k : Int, get L k = if (o : Int) ≤ k then (T k.toNat).map (fun x => .int .i64 x.st) else none
  val : ∀ j x, T j = some x → x = rs x.st
  upd : Upd [] w W

theorem RunI.over {w W W' : World} {p r mb n g o : Nat} {T : Nat → Option Rp} {c : List Value} {L : List (Int × Value × Nat)} (h : RunI w W p r mb n g o T c L) (hu : Upd [] W W') : RunI w W' p r mb n g o T c L where
  buf := h.buf.upd hu (by simp) (by simp) (by simp)
  map := h.map.upd hu (by simp)
  law := h.law
  val := h.val
  upd := h.upd.trans hu (by simp)

theorem RunI.step {w W W' : World} {p r mb n g o g' o' : Nat} {T T' : Nat → Option Rp} {c c' : List Value} {L : List (Int × Value × Nat)} {S : List Nat} (h : RunI w W p r mb n g o T c L) (hu : Upd S W W') (hS : ∀ k, k ∈ S → k = p ∨ k = r) (hb : IsB W' p r n g' o' T' [] c')
    (hp : w.heap.size ≤ p ∧ w.heap.size ≤ r) : IsB W' p r n g' o' T' [] c' ∧ Mp W' mb (fun k => .int .i64 k) L ∧ Upd [] w W' :=
  ⟨hb, h.map.upd hu (fun e => by rcases hS _ e with e | e; exact h.map.other _ _ (e ▸ h.buf.head); exact h.map.other _ _ (e ▸ h.buf.ring)), h.upd.trans hu (fun k hk e => by rcases hS _ e with e | e <;> omega)⟩
theorem RunI.maps {w W W' : World} {p r mb n g o : Nat} {T : Nat → Option Rp} {c : List Value} {L : List (Int × Value × Nat)} (hb : IsB W p r n g o T [] c) (hm : Mp W mb (fun k => .int .i64 k) L) (hv : Upd [] w W) (hu : Upd [mb] W W') (hmb : w.heap.size ≤ mb) :
    IsB W' p r n g o T [] c ∧ Upd [] w W' :=
  ⟨hb.keep hu (by simp; intro e; exact hm.other _ _ (e ▸ hb.head)) (by simp; intro e; exact hm.other _ _ (e ▸ hb.ring)) (by simp; intro cs h; exact hm.other _ _ h), hv.trans hu (by intro k hk e; simp at e; omega)⟩

set_option maxRecDepth 100000 in
set_option maxHeartbeats 2000000 in
theorem runs_walk (m : Int) (a : Option Addr) (len cap : Nat) (w : World) (hz : Leaf.ok w (.sl [.int .i64, .int .i64]) (.slice a len cap)) :
    Calls Try.prog 3 #[.int .i64 m, .slice a len cap] w fun e w' => e = .returned (.bool true) ∧ Upd [] w w' := by
  by_cases hl : 300 < len
  · go_enter Try.func3, Try.ntmps3
    go_wp2_with fail
    refine (fit_ok w).mono ?_
    rintro e w1 ⟨rfl, u1⟩
    go_wp2_with fail
    go_ret
    exact ⟨rfl, u1⟩
  have hl : len ≤ 300 := by omega
  have HO := Hd.mk (fun (h : 0 < len) => Leaf.open hz h (by simp))
  clear hz
  have hmm := @run_makeMap Try.prog
  obtain ⟨n, hn⟩ : ∃ n : Nat, (n : Int) = min (max m 1) 8 := ⟨(min (max m 1) 8).toNat, by omega⟩
  have HN := Hd.mk hn
  have n1 : 1 ≤ n := by omega
  have n2 : n ≤ 8 := by omega
  clear hn
  go_enter Try.func3, Try.ntmps3
  go_wp2_with fail
  refine (fit_ok w).mono ?_
  rintro e w1 ⟨rfl, u1⟩
  go_wp2_with fail
  refine (new_ok m n [] w1 HN.out).mono ?_
  rintro e w2 ⟨p, r, c, rfl, hpr, hp, hr, q2, u2⟩
  have v2 := u1.trans u2 (by simp)
  have z1 : w.heap.size ≤ p := by have := u1.size; omega
  have z2 : w.heap.size ≤ r := by have := u1.size; omega
  have Y := Hd.mk (And.intro z1 z2)
  clear z1 z2 hp hr u1 u2
  have hn := HN.out.symm
  go_upto_region 9 with (first | (refine wpList_max rfl (.tmp 31) (.const (.int .i64 1)) _ rfl m 1 rfl rfl ?_; simp only [Act.put, List.setIfInBounds_toArray, List.set_cons_succ, List.set_cons_zero]) | (refine wpList_min rfl (.tmp 32) (.const (.int .i64 8)) _ rfl (max m 1) 8 rfl rfl ?_; simp only [hn]; simp only [Act.put, List.setIfInBounds_toArray, List.set_cons_succ, List.set_cons_zero]))
  refine wp_abs (fun W => IsB W p r n 0 0 (fun _ => none) [] c ∧ Upd [] w W ∧ Mp W w2.heap.size (fun k => .int .i64 k) ([] : List (Int × Value × Nat))) ⟨q2.upd ((Upd.refl [] w2).alloc _) (by simp) (by simp) (by simp), v2.alloc _, Mp.new _ _⟩ ?_
  rintro w3 ⟨q3, v3, m3⟩
  have MB := Hd.mk (show w.heap.size ≤ w2.heap.size by have := v2.size; omega)
  generalize w2.heap.size = mb at m3 MB ⊢
  clear q2 v2 hmm hn
  go_wp2_with fail
  go_loopg [7, 8, 37] len (fun gh s7 s8 ii W => ∃ (i g o : Nat) (T : Nat → Option Rp) (c : List Value) (L : List (Int × Value × Nat)), s7 = .int .i64 g ∧ s8 = .int .i64 o ∧ ii = .int .i64 i ∧ gh + i = len ∧ g ≤ i ∧ RunI w W p r mb n g o T c L)
  case atStart => exact ⟨0, 0, 0, _, c, [], by simp, by simp, by simp, by omega, by omega, q3, m3, by intro k; simp [get], by simp, v3⟩
  case round =>
    clear q3 v3 m3 c
    obtain ⟨i, g, o, T, c, L, rfl, rfl, rfl, hg, hgi, inv⟩ := hrel
    by_cases hlt : i < len
    · obtain ⟨b, off, V, rfl, hb, -, hV⟩ := HO.out (by omega)
      obtain ⟨hv, hc⟩ := hV i hlt
      simp only [Leaf.oks, Leaf.ok] at hv
      obtain ⟨_, _, hv, ⟨kd, rfl, hk⟩, _, _, rfl, ⟨nn, rfl, hn⟩, rfl⟩ := hv
      have hc0 := hc 0 (by simp)
      have hc1 := hc 1 (by simp)
      simp only [hv, List.length_cons, List.length_nil, List.getElem?_cons_zero, List.getElem?_cons_succ, Nat.zero_add, Nat.reduceAdd] at hc0 hc1
      clear hV hc hv
      replace hc0 : wr.cell? ⟨b, off + i * 2, none⟩ = some (.int .i64 kd) := by rw [inv.upd.cell (p := ⟨b, off + i * 2, none⟩) hb (by simp)]; exact hc0
      replace hc1 : wr.cell? ⟨b, off + i * 2 + 1, none⟩ = some (.int .i64 nn) := by rw [inv.upd.cell (p := ⟨b, off + i * 2 + 1, none⟩) hb (by simp)]; exact hc1
      have HI := Hd.mk inv
      have HG := Hd.mk hg
      clear inv hg
      go_upto_region 12 with (fail)
      refine wp_abs (fun W => RunI w W p r mb n g o T c L ∧ Blk W wr.heap.size [.int .i64 kd, .int .i64 nn] 28) ⟨HI.out.over ((Upd.refl [] wr).alloc _), Blk.new wr [.int .i64 kd, .int .i64 nn] 28 _ rfl⟩ ?_
      rintro w5 ⟨inv, tb⟩
      clear hc0 hc1 HI
      have hc0 := tb.cell 0
      have hc1 := tb.cell 1
      simp only [List.getElem?_cons_zero, List.getElem?_cons_succ] at hc0 hc1
      generalize wr.heap.size = cb at hc0 hc1 tb ⊢
      have HI := Hd.mk inv
      clear inv
      obtain ⟨x, hx⟩ : ∃ x, (wrap64 (kd.tmod 4 + 4)).tmod 4 = x := ⟨_, rfl⟩
      have hx4 : x = 0 ∨ x = 1 ∨ x = 2 ∨ x = 3 := by
        have e1 := Int.tmod_lt_of_pos kd (show (0 : Int) < 4 by decide)
        have e2 := Int.lt_tmod_of_pos kd (show (0 : Int) < 4 by decide)
        have e3 : wrap64 (kd.tmod 4 + 4) = kd.tmod 4 + 4 := by unfold wrap64; omega
        rw [e3, Int.tmod_eq_emod_of_nonneg (by omega)] at hx
        omega
      go_upto_block 2 with (fail)
      go_cut [7, 8] (fun s7 s8 W => ∃ (g' o' : Nat) (T' : Nat → Option Rp) (c' : List Value) (L' : List (Int × Value × Nat)), s7 = .int .i64 g' ∧ s8 = .int .i64 o' ∧ g' ≤ i + 1 ∧ RunI w W p r mb n g' o' T' c' L')
      case first =>
        have hle := HI.out.buf.le
        have hfew := HI.out.buf.few
        have hx5 : x = 0 ∨ x = 2 ∨ (x = 1 ∨ x = 3) := by omega
        clear hx4
        rcases hx5 with rfl | rfl | h13
        · as_aux_lemma =>
          by_cases hroom : g < o + n
          · have hd : decide ((g : Int) - o < n) = true := by simp; omega
            go_wp2_with fail
            refine (give_room p r n g o _ [] c w5 hpr (by omega) n2 HI.out.buf hroom).mono ?_
            rintro e w6 ⟨rfl, q6, u6⟩
            go_wp2_with fail
            go_meet
            case rel =>
              have inv := HI.out
              obtain ⟨i1, i2, i3⟩ := inv.step u6 (by simp) q6 Y.out
              exact ⟨g + 1, o, T, c, L, by simp, rfl, by omega, i1, i2, inv.law, inv.val, i3⟩
          · have hd : decide ((g : Int) - o < n) = false := by simp; omega
            go_wp2_with fail
            refine (give_full p r n g o _ [] c w5 (by omega) n2 HI.out.buf (by omega)).mono ?_
            rintro e w6 ⟨rfl, k6, rfl⟩
            go_wp2_with fail
            go_meet
            case rel => exact ⟨g, o, T, c, L, rfl, rfl, by omega, HI.out.over ((Upd.refl [] w5).drewN k6)⟩
        · as_aux_lemma =>
          have K := keyLaw_int (P := Try.prog) (kt := 3) Try.underlying3
          cases hT : T o with
          | none =>
            have hL := HI.out.law o
            simp only [Int.le_refl, if_true, Int.toNat_natCast, hT, Option.map_none] at hL
            go_wp2_with fail
            refine (take_none p r n g o T [] c w5 (by omega) n2 HI.out.buf (.inr hT)).mono ?_
            rintro e w6 ⟨rfl, u6⟩
            simp only [Rp.zero, Rp.cells]
            go_upto_region 30 with (fail)
            have nz := Blk.new w6 Rp.zero.cells 33 w6.heap.size rfl
            refine wp_abs (fun W => RunI w W p r mb n g o T c L ∧ Blk W w6.heap.size Rp.zero.cells 33) ⟨HI.out.over (u6.alloc _), nz⟩ ?_
            rintro w7 ⟨inv, nz⟩
            have nz0 := nz.cell 0
            simp only [Rp.zero, Rp.cells, List.getElem?_cons_zero] at nz0
            clear nz
            generalize w6.heap.size = zb at nz0 ⊢
            go_wp2_with (first | (refine wpList_lookup_mp K rfl 26 (.tmp 141) (.tmp 142) true rfl Try.underlying26 (.int .i64 0) (fun W => by kernel_rfl) inv.map (o : Int) rfl rfl ?_; simp only [if_true, hL, Option.isSome_map, Option.isSome_none, Option.isSome_some, Option.getD_none, Option.getD_some]; simp only [Act.put, List.setIfInBounds_toArray, List.set_cons_succ, List.set_cons_zero]))
            go_meet
            case rel => exact ⟨g, o, T, c, L, rfl, rfl, by omega, inv⟩
          | some y =>
            have hL := HI.out.law o
            simp only [Int.le_refl, if_true, Int.toNat_natCast, hT, Option.map_some] at hL
            obtain ⟨z, rfl⟩ : ∃ z, y = rs z := ⟨_, HI.out.val o y hT⟩
            have hog : o < g := by
              apply Classical.byContradiction
              intro h
              have := HI.out.buf.new o (by omega)
              rw [this] at hT; cases hT
            go_wp2_with fail
            refine (take_some p r n g o T [] c w5 (rs z) hpr (by omega) n2 HI.out.buf hog hT).mono ?_
            rintro e w6 ⟨rfl, ⟨c6, q6⟩, u6⟩
            simp only [rs, Rp.cells]
            go_upto_region 30 with (fail)
            obtain ⟨i1, i2, i3⟩ := HI.out.step u6 (by simp) q6 Y.out
            refine wp_abs (fun W => IsB W p r n g (o + 1) T [] c6 ∧ Mp W mb (fun k => .int .i64 k) L ∧ Upd [] w W ∧ Blk W w6.heap.size (rs z).cells 33) ⟨i1.upd ((Upd.refl [] w6).alloc _) (by simp) (by simp) (by simp), i2.upd ((Upd.refl [] w6).alloc _) (by simp), i3.alloc _, Blk.new w6 (rs z).cells 33 _ rfl⟩ ?_
            clear i1 i2 i3
            rintro w7 ⟨i1, i2, i3, nz⟩
            have nz0 := nz.cell 0
            simp only [rs, Rp.cells, List.getElem?_cons_zero] at nz0
            clear nz
            generalize w6.heap.size = zb at nz0 ⊢
            clear q6 u6
            simp only [rs] at hL
            go_wp2_with (first | (refine wpList_lookup_mp K rfl 26 (.tmp 141) (.tmp 142) true rfl Try.underlying26 (.int .i64 0) (fun W => by kernel_rfl) i2 (o : Int) rfl rfl ?_; simp only [if_true, hL, Option.isSome_map, Option.isSome_none, Option.isSome_some, Option.getD_none, Option.getD_some]; simp only [Act.put, List.setIfInBounds_toArray, List.set_cons_succ, List.set_cons_zero]) | (refine wpList_delete_mp K rfl 26 3 (.tmp 168) (.tmp 169) rfl Try.underlying26 i2 (o : Int) rfl rfl ?_))
            intro w8 m8 u8
            obtain ⟨j1, j2⟩ := RunI.maps i1 i2 i3 u8 MB.out
            go_wp2_with fail
            go_meet
            case rel => exact ⟨g, o + 1, T, c6, _, rfl, by simp, by omega, j1, m8, fun k => by
              rw [get_del, HI.out.law k]
              by_cases e : k = o
              · have : ¬ ((o + 1 : Nat) : Int) ≤ k := by omega
                rw [if_pos e, if_neg this]
              · rw [if_neg e]
                by_cases e2 : (o : Int) ≤ k
                · rw [if_pos e2, if_pos (by omega)]
                · rw [if_neg e2, if_neg (by omega)], HI.out.val, j2⟩
        · as_aux_lemma =>
          have x0 : (x == 0) = false := by simp; omega
          have x2 : (x == 2) = false := by simp; omega
          go_upto_region 14 with (fail)
          go_cut [59] (fun s W => s = .bool (decide (x = 1 ∧ o < g)) ∧ W = w5)
          case first =>
            by_cases x1 : x = 1
            · subst x1
              by_cases hog : o < g
              · have dg : decide ((o : Int) < (g : Int)) = true := by simpa using hog
                go_wp2_with fail
                go_meet
                case rel => exact ⟨by simp [hog], rfl⟩
              · have dg : decide ((o : Int) < (g : Int)) = false := by simpa using hog
                go_wp2_with fail
                go_meet
                case rel => exact ⟨by simp [hog], rfl⟩
            · have x1' : (x == 1) = false := by simpa using x1
              go_wp2_with fail
              go_meet
              case rel => exact ⟨by simp [x1], rfl⟩
          case rest =>
            obtain ⟨rfl, rfl⟩ := hcut
            go_upto_if 59 with (fail)
            go_cut [18] (fun s W => (∃ k : Int, s = .int .i64 k) ∧ W = wc)
            case first =>
              by_cases hog : x = 1 ∧ o < g
              · have dh : decide (x = 1 ∧ o < g) = true := by simpa using hog
                have dz : ((g : Int) - o == 0) = false := by simp; omega
                go_wp2_with fail
                go_meet
                case rel => exact ⟨⟨_, rfl⟩, rfl⟩
              · have dh : decide (x = 1 ∧ o < g) = false := by simpa using hog
                go_wp2_with fail
                go_meet
                case rel => exact ⟨⟨_, rfl⟩, rfl⟩
            case rest =>
            obtain ⟨⟨k, rfl⟩, rfl⟩ := hcut
            have K := keyLaw_int (P := Try.prog) (kt := 3) Try.underlying3
            have hL := HI.out.law k
            have buf := HI.out.buf
            have imap := HI.out.map
            by_cases ha : (o : Int) ≤ k
            · have da : decide ((o : Int) ≤ k) = true := by simpa using ha
              rw [if_pos ha] at hL
              by_cases hb : k < g
              · have db : decide (k < (g : Int)) = true := by simpa using hb
                obtain ⟨j, rfl⟩ : ∃ j : Nat, k = j := ⟨k.toNat, by omega⟩
                simp only [Int.toNat_natCast] at hL
                cases hT : T j with
                | some y =>
                  simp only [hT, Option.map_some] at hL
                  go_wp2_with (first | (refine wpList_lookup_mp K rfl 26 (.tmp 70) (.tmp 71) true rfl Try.underlying26 (.int .i64 0) (fun W => by kernel_rfl) imap (j : Int) rfl rfl ?_; simp only [if_true, hL, Option.isSome_map, Option.isSome_none, Option.isSome_some, Option.getD_none, Option.getD_some]; simp only [Act.put, List.setIfInBounds_toArray, List.set_cons_succ, List.set_cons_zero]))
                  refine (put_no p r n g o T [] c _ _ (rs (i + 1)) (by omega) n2 buf (.inr (.inr ⟨j, rfl, by omega, by omega, by rw [hT]; rfl⟩))).mono ?_
                  rintro e w6 ⟨rfl, u6⟩
                  go_wp2_with fail
                  go_meet
                  case rel => exact ⟨g, o, T, c, L, rfl, rfl, by omega, HI.out.over u6⟩
                | none =>
                  simp only [hT, Option.map_none] at hL
                  go_wp2_with (first | (refine wpList_lookup_mp K rfl 26 (.tmp 70) (.tmp 71) true rfl Try.underlying26 (.int .i64 0) (fun W => by kernel_rfl) imap (j : Int) rfl rfl ?_; simp only [if_true, hL, Option.isSome_map, Option.isSome_none, Option.isSome_some, Option.getD_none, Option.getD_some]; simp only [Act.put, List.setIfInBounds_toArray, List.set_cons_succ, List.set_cons_zero]))
                  refine (put_yes p r n g o T [] c _ j (rs (i + 1)) hpr (by simp) (by omega) n2 buf (by omega) (by omega) hT).mono ?_
                  rintro e w6 ⟨rfl, ⟨c6, q6⟩, u6⟩
                  obtain ⟨i1, i2, i3⟩ := HI.out.step u6 (by simp) q6 Y.out
                  go_wp2_with (first | (refine wpList_update_mp K rfl rfl 26 (.tmp 96) (.tmp 97) (.tmp 99) rfl Try.underlying26 i2 (j : Int) (.int .i64 ((i : Int) + 1)) rfl rfl rfl ?_))
                  intro cb w8 m8 u8
                  obtain ⟨j1, j2⟩ := RunI.maps i1 i2 i3 u8 MB.out
                  go_wp2_with fail
                  go_meet
                  case rel => exact ⟨g, o, _, c6, _, rfl, rfl, by omega, j1, m8, fun k => by
                    rw [get_put, HI.out.law k]
                    by_cases e : k = j
                    · subst e
                      simp [rs, ha]
                    · rw [if_neg e]
                      by_cases e2 : (o : Int) ≤ k
                      · rw [if_pos e2, if_pos e2, if_neg (by omega)]
                      · rw [if_neg e2, if_neg e2], fun j' x' hx' => by
                    by_cases e : j' = j
                    · simp only [e, if_true, Option.some.injEq] at hx'
                      subst hx'; rfl
                    · simp only [e, if_false] at hx'
                      exact HI.out.val j' x' hx', j2⟩
              · have db : decide (k < (g : Int)) = false := by simpa using hb
                have hT := buf.new k.toNat (by omega)
                simp only [hT, Option.map_none] at hL
                go_wp2_with (first | (refine wpList_lookup_mp K rfl 26 (.tmp 70) (.tmp 71) true rfl Try.underlying26 (.int .i64 0) (fun W => by kernel_rfl) imap k rfl rfl ?_; simp only [if_true, hL, Option.isSome_map, Option.isSome_none, Option.isSome_some, Option.getD_none, Option.getD_some]; simp only [Act.put, List.setIfInBounds_toArray, List.set_cons_succ, List.set_cons_zero]))
                refine (put_no p r n g o T [] c _ _ (rs (i + 1)) (by omega) n2 buf (.inr (.inl (by omega)))).mono ?_
                rintro e w6 ⟨rfl, u6⟩
                go_wp2_with fail
                go_meet
                case rel => exact ⟨g, o, T, c, L, rfl, rfl, by omega, HI.out.over u6⟩
            · have da : decide ((o : Int) ≤ k) = false := by simpa using ha
              rw [if_neg ha] at hL
              go_wp2_with (first | (refine wpList_lookup_mp K rfl 26 (.tmp 70) (.tmp 71) true rfl Try.underlying26 (.int .i64 0) (fun W => by kernel_rfl) imap k rfl rfl ?_; simp only [if_true, hL, Option.isSome_map, Option.isSome_none, Option.isSome_some, Option.getD_none, Option.getD_some]; simp only [Act.put, List.setIfInBounds_toArray, List.set_cons_succ, List.set_cons_zero]))
              refine (put_no p r n g o T [] c _ _ (rs (i + 1)) (by omega) n2 buf (.inl (by omega))).mono ?_
              rintro e w6 ⟨rfl, u6⟩
              go_wp2_with fail
              go_meet
              case rel => exact ⟨g, o, T, c, L, rfl, rfl, by omega, HI.out.over u6⟩
      case rest =>
        obtain ⟨g, o, T, c, L, rfl, rfl, hgi, inv⟩ := hcut
        have K := keyLaw_int (P := Try.prog) (kt := 3) Try.underlying3
        have hL := inv.law o
        have hle := inv.buf.le
        simp only [Int.le_refl, if_true, Int.toNat_natCast] at hL
        go_wp2_with (first | (refine wpList_lookup_mp K rfl 26 (.tmp 173) (.tmp 174) true rfl Try.underlying26 (.int .i64 0) (fun W => by kernel_rfl) inv.map (o : Int) rfl rfl ?_; simp only [if_true, hL, Option.isSome_map]; simp only [Act.put, List.setIfInBounds_toArray, List.set_cons_succ, List.set_cons_zero]))
        clear K hL
        refine (open_ok p r n g o T [] c _ (by omega) inv.buf).mono ?_
        rintro e w7 ⟨rfl, k7, rfl⟩
        go_wp2_with fail
        refine (room_ok p r n g o T [] c _ (by omega) n2 (inv.buf.upd ((Upd.refl [] _).drewN k7) (by simp) (by simp) (by simp))).mono ?_
        rintro e w8 ⟨rfl, k8, rfl⟩
        go_wp2_with fail
        refine (ready_ok p r n g o T [] c _ (by omega) n2 (inv.buf.upd ((Upd.refl [] _).drewN _) (by simp) (by simp) (by simp))).mono ?_
        rintro e w9 ⟨rfl, k9, rfl⟩
        go_wp2_with fail
        go_roundg (gk - 1)
        case measure => have := HG.out; omega
        case rel => exact ⟨i + 1, g, o, T, c, L, rfl, rfl, by simp, by have := HG.out; omega, hgi, inv.over ((Upd.refl [] _).drewN _)⟩
    · obtain rfl : i = len := by omega
      clear hlt hg
      go_wp2_with fail
      go_ret
      exact ⟨rfl, inv.upd⟩

theorem runs_row (m : Int) (a : Option Addr) (len cap : Nat) (w : World) (_ : (Lit.int .i64 m).wf = true) (hz : Leaf.ok w (.sl [.int .i64, .int .i64]) (.slice a len cap)) :
    Calls Try.prog 3 #[.int .i64 m, .slice a len cap] w fun e w' => e = .returned (.bool true) ∧ Below w.heap.size w w' :=
  (runs_walk m a len cap w hz).mono fun _ _ h => ⟨h.1, h.2.nil_below⟩
end Go.Proofs.Ytnimcjkddecdhaa
