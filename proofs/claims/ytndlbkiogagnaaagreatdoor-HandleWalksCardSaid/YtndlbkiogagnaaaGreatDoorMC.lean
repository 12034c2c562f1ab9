/- Holders: the first table; fit; a row of bools that came in; steps of maps within a region. (With what it rests on, merged: H1, H2, H3.) -/
import Derived.Test.YtndlbkiogagnaaaGreatDoorV26
import Derived.Test.YtndlbkiogagnaaaGreatDoorQm
import Derived.Deep.DeepCutAuto
namespace Go.Proofs.YtndlbkiogagnaaaGreatDoor
set_option linter.unusedSimpArgs false
set_option linter.unusedVariables false
set_option linter.unnecessarySimpa false
open Go.RowKit BigFrame
def neB (x : Bs) : Bool := !x.isEmpty
/-- The words of a line. -/
def wordsL (l : Bs) : List Bs := (splitL 32 l).filter neB
/-- The routes of a line: none, or one; or it is none that may be. -/
def rowL (l : Bs) : Option (List Rt) := match wordsL l with
  | [] => some []
  | [m, p, h] => some [⟨m, p, h⟩]
  | _ => none
def rowsL : List Bs → Option (List Rt)
  | [] => some []
  | l :: r => (rowL l).bind fun a => (rowsL r).map (a ++ ·)
/-- What Parse tells: an error's number, the routes. -/
def prs (s : Bs) : Nat × List Rt := match rowsL (splitL 10 s) with
  | none => (1, [])
  | some L => if chk L = 0 then (0, L) else (chk L, [])
theorem rowsL_app : ∀ (a b : List Bs), rowsL (a ++ b) = (rowsL a).bind fun x => (rowsL b).map (x ++ ·)
  | [], b => by cases h : rowsL b <;> simp [rowsL, h]
  | l :: a, b => by
    simp only [List.cons_append, rowsL, rowsL_app a b]
    cases rowL l with
    | none => rfl
    | some x => cases rowsL a with
      | none => rfl
      | some y => cases rowsL b with
        | none => rfl
        | some z => simp
theorem rowsL_snoc {a : List Bs} {x : Bs} {L : List Rt} (h : rowsL a = some L) : rowsL (a ++ [x]) = (rowL x).map (L ++ ·) := by
  rw [rowsL_app, h]
  cases hx : rowL x <;> simp [rowsL, hx]
theorem rowsL_bad {a b : List Bs} (h : rowsL a = none) : rowsL (a ++ b) = none := by rw [rowsL_app, h]; rfl
theorem rowsL_len : ∀ (a : List Bs) (L : List Rt), rowsL a = some L → L.length ≤ a.length
  | [], L, h => by simp [rowsL] at h; subst h; simp
  | l :: a, L, h => by
    simp only [rowsL] at h
    obtain ⟨x, hx, h⟩ := Option.bind_eq_some_iff.1 h
    obtain ⟨y, hy, rfl⟩ := Option.map_eq_some_iff.1 h
    have := rowsL_len a y hy
    have : x.length ≤ 1 := by
      unfold rowL at hx
      split at hx
      · simp only [Option.some.injEq] at hx; subst hx; simp
      · simp only [Option.some.injEq] at hx; subst hx; simp
      · cases hx
    simp
    omega
theorem wordsL_le {l x : Bs} (h : x ∈ wordsL l) : x.length ≤ l.length := (splitL_le 32 l).2 x (List.mem_filter.1 h).1
theorem rowL_le {l : Bs} {L : List Rt} (h : rowL l = some L) : ∀ r ∈ L, r.m.length ≤ l.length ∧ r.p.length ≤ l.length ∧ r.h.length ≤ l.length := by
  unfold rowL at h
  split at h
  · simp only [Option.some.injEq] at h; subst h; simp
  · rename_i m p hh hw
    simp only [Option.some.injEq] at h; subst h
    intro r hr
    rw [List.mem_singleton] at hr
    subst hr
    exact ⟨wordsL_le (by rw [hw]; simp), wordsL_le (by rw [hw]; simp), wordsL_le (by rw [hw]; simp)⟩
  · cases h
theorem rowsL_le {n : Nat} : ∀ (a : List Bs) (L : List Rt), rowsL a = some L → (∀ x ∈ a, x.length ≤ n) → ∀ r ∈ L, r.m.length ≤ n ∧ r.p.length ≤ n ∧ r.h.length ≤ n
  | [], L, h, _ => by simp [rowsL] at h; subst h; simp
  | l :: a, L, h, hn => by
    simp only [rowsL] at h
    obtain ⟨x, hx, h⟩ := Option.bind_eq_some_iff.1 h
    obtain ⟨y, hy, rfl⟩ := Option.map_eq_some_iff.1 h
    intro r hr
    have h0 := hn l (by simp)
    rcases List.mem_append.1 hr with h1 | h1
    · have := rowL_le hx r h1; omega
    · exact rowsL_le a y hy (fun z hz => hn z (by simp [hz])) r h1
theorem prs_lines {s : Bs} {L : List Rt} (h : rowsL (splitL 10 s) = some L) : L.length ≤ s.length + 1 ∧ ∀ r ∈ L, r.m.length ≤ s.length ∧ r.p.length ≤ s.length ∧ r.h.length ≤ s.length := by
  have h1 := splitL_le 10 s
  exact ⟨Nat.le_trans (rowsL_len _ _ h) h1.1, rowsL_le _ _ h h1.2⟩
theorem prs_le (s : Bs) : ∀ r ∈ (prs s).2, r.m.length ≤ s.length ∧ r.p.length ≤ s.length ∧ r.h.length ≤ s.length := by
  unfold prs
  split
  · simp
  · rename_i L h
    split
    · exact (prs_lines h).2
    · simp
theorem prs_chk (s : Bs) : chk (prs s).2 = 0 := by
  unfold prs
  split
  · decide
  · split
    · assumption
    · show chk [] = 0
      decide
theorem chk_le3 (L : List Rt) : chk L ≤ 3 := by unfold chk; split <;> (try split) <;> (try split) <;> omega
theorem prs_ok {s : Bs} (h : (prs s).1 ≠ 0) : (prs s).2 = [] := by
  unfold prs at h ⊢
  split
  · rfl
  · rename_i L hL
    rw [hL] at h
    simp only at h ⊢
    split
    · rename_i h0; rw [if_pos h0] at h; exact absurd rfl h
    · rfl
theorem chk_rgt {L : List Rt} (h : chk L = 0) : L.length ≤ 24 ∧ ∀ r ∈ L, rgtB r = true := by
  unfold chk at h
  by_cases h1 : L.all rgtB = false
  · rw [if_pos h1] at h; cases h
  · rw [if_neg h1] at h
    by_cases h2 : 24 < L.length
    · rw [if_pos h2] at h; cases h
    · refine ⟨by omega, ?_⟩
      have : L.all rgtB = true := by simpa using h1
      exact List.all_eq_true.1 this
theorem rgtB_rgt {r : Rt} (h : rgtB r = true) (hz : r.p.length ≤ 800000) : Rgt r := by
  unfold rgtB at h
  simp only [Bool.and_eq_true] at h
  exact ⟨h.1.1, hz⟩
def ParseQ (w : World) (R : Nat × List Rt) (e : Ending) (w' : World) : Prop := ∃ v, e = .returned (.tuple #[v, .int .i64 R.1]) ∧ Bld w w' 90 3 v R.2.length (R.2.flatMap Rt.cells)
set_option maxRecDepth 100000 in
set_option maxHeartbeats 4000000 in
theorem parse_ok (s : Bs) (w : World) (hT : HTab w) (hz : s.length ≤ 100000) : Calls Tryz.prog 14 #[S s] w (ParseQ w (prs s)) := by
  obtain ⟨sb, hs, hsx, hsz⟩ := S_ex s
  have HT := Hd.mk hT
  have HZ := Hd.mk hz
  have HW1 := Hd.mk (fun W => words_ok sb 10 W (by omega))
  rw [hsx] at HW1
  rw [hs]
  clear hT hs hsx
  go_enter Tryz.func14, Tryz.ntmps14
  go_wp2_with fail
  go_step3
  go_wp2_with fail
  go_step3
  go_wp2_with fail
  refine (HW1.out _).mono ?_
  rintro e w1 ⟨lv, rfl, hb⟩
  obtain ⟨la, lc, rfl⟩ := hb.sl.form
  have HLN := Hd.mk hb.sl
  have HU := Hd.mk hb.upd
  have HSP := Hd.mk (splitL_le 10 s)
  have HPR := Hd.mk (show ∀ L, rowsL (splitL 10 s) = some L → prs s = if chk L = 0 then (0, L) else (chk L, []) by intro L h; unfold prs; rw [h])
  have HPE := Hd.mk (show rowsL (splitL 10 s) = none → prs s = (1, []) by intro h; unfold prs; rw [h])
  have HPL := Hd.mk (fun L => @prs_lines s L)
  have hll := HSP.out.1
  clear hb HW1
  generalize splitL 10 s = ls at *
  generalize prs s = R at *
  go_upto_region 3 with (fail)
  go_loopg [4, 6, 7, 9, 14] ls.length (fun g s4 s6 s7 s9 ii wr => ∃ (k : Nat) (L : List Rt), g + k = ls.length ∧ ii = .int .i64 k ∧ Hd (Bld w1 wr 90 3 s4 L.length (L.flatMap Rt.cells)) ∧ Hd (rowsL (ls.take k) = some L) ∧ L.length ≤ k)
  case atStart => exact ⟨0, [], by omega, rfl, Hd.mk (Bld.nil (Upd.refl _ _) _ _), Hd.mk rfl, by simp⟩
  case round =>
    obtain ⟨k, L, hg, rfl, HS, HR, hLk⟩ := hrel
    have HG := Hd.mk hg
    clear hg
    obtain ⟨va, vc, rfl⟩ := HS.out.sl.form
    by_cases hk : k < ls.length
    · obtain ⟨b, off, cap, hv, -, -, hc⟩ := (HLN.out.upd HS.out.upd (by simp)).some (by omega)
      simp only [Value.slice.injEq, true_and] at hv
      obtain ⟨rfl, rfl⟩ := hv
      have k0 := hc k (by omega)
      unfold Ss at k0
      rw [List.getElem?_map, List.getElem?_eq_getElem hk] at k0
      have HXZ := Hd.mk (HSP.out.2 _ (List.getElem_mem hk))
      have HTK := Hd.mk (show ls.take (k + 1) = ls.take k ++ [ls[k]] from List.take_succ_eq_append_getElem hk)
      have HCUT := Hd.mk (show ls = (ls.take k ++ [ls[k]]) ++ ls.drop (k + 1) by rw [← HTK.out, List.take_append_drop])
      generalize ls[k] = x at k0 HXZ HTK HCUT
      obtain ⟨xb, hx, hxx, hxz⟩ := S_ex x
      rw [Option.map_some, hx] at k0
      have HW2 := Hd.mk (fun W => words_ok xb 32 W (by have := HXZ.out; omega))
      rw [hxx] at HW2
      have HWL := Hd.mk (show wordsL x = (splitL 32 x).filter neB from rfl)
      have HWN := Hd.mk (splitL_le 32 x)
      have hwn : (splitL 32 x).length ≤ 100001 := by have := HWN.out.1; have := HXZ.out; omega
      clear hc hx hxx hxz
      go_upto_region 6 with (fail)
      go_wp2_with fail
      refine (HW2.out _).mono ?_
      rintro e w2 ⟨wv, rfl, hb2⟩
      obtain ⟨wa, wc, rfl⟩ := hb2.sl.form
      have HWS := Hd.mk hb2.sl
      have HS := Hd.mk (HS.out.over hb2.upd)
      clear hb2 k0 HW2
      generalize splitL 32 x = ws at *
      obtain ⟨gq, hgq⟩ : ∃ gq, gq = gk - 1 := ⟨_, rfl⟩
      have HG := Hd.mk (show gq + (k + 1) = ls.length ∧ gq < gk by have := HG.out; omega)
      clear hgq
      go_upto_region 7 with (fail)
      go_loopg [7, 9, 21] ws.length (fun g s7 s9 ii wq => ∃ (j : Nat) (W : List Bs), g + j = ws.length ∧ ii = .int .i64 j ∧ Hd (Bld w2 wq 9 1 s7 W.length (W.map S)) ∧ Hd (W = (ws.take j).filter neB) ∧ W.length ≤ j)
      case atStart => exact ⟨0, [], by omega, rfl, Hd.mk (Bld.nil (Upd.refl _ _) _ _), Hd.mk rfl, by simp⟩
      case round =>
        obtain ⟨j, W, hj0, rfl, HB, HF, hWj⟩ := hrel
        have HGJ := Hd.mk hj0
        clear hj0
        obtain ⟨xa, xc, rfl⟩ := HB.out.sl.form
        by_cases hj : j < ws.length
        · obtain ⟨b, off, cap, hv, -, -, hc⟩ := (HWS.out.upd HB.out.upd (by simp)).some (by omega)
          simp only [Value.slice.injEq, true_and] at hv
          obtain ⟨rfl, rfl⟩ := hv
          have k0 := hc j (by omega)
          unfold Ss at k0
          rw [List.getElem?_map, List.getElem?_eq_getElem hj] at k0
          have HTJ := Hd.mk (show ws.take (j + 1) = ws.take j ++ [ws[j]] from List.take_succ_eq_append_getElem hj)
          generalize ws[j] = y at k0 HTJ
          obtain ⟨yb, hy, hyx, hyz⟩ := S_ex y
          rw [Option.map_some, hy] at k0
          have HY := Hd.mk hyx
          clear hc hy hyx hyz
          by_cases he : yb = ⟨#[]⟩
          · have q := str_eq0 he
            have HFN := Hd.mk (show W = (ws.take (j + 1)).filter neB by rw [HTJ.out, List.filter_append, ← HF.out, ← HY.out, he]; simp [neB])
            clear he
            go_wp2_with fail
            go_roundg (gk - 1)
            case measure => have := HGJ.out; omega
            case rel => exact ⟨j + 1, W, by have := HGJ.out; omega, by go_num, HB, HFN, by omega⟩
          · have q := str_ne0 he
            have HFN := Hd.mk (show W ++ [y] = (ws.take (j + 1)).filter neB by
              rw [HTJ.out, List.filter_append, ← HF.out]
              have : neB y = true := by
                unfold neB
                cases hy : y with
                | nil => exact absurd (by rw [← mk_data yb, HY.out, hy]) he
                | cons a r => rfl
              simp [this])
            have hsl := HB.out.sl
            clear he
            go_wp2_with (at_builtin; refine wpList_append_row rfl (.tmp 27) (.tmp 29) 22 rfl rfl 9 (.string ⟨#[]⟩) 1 16 Tryz.underlying22 (by kernel_rfl) rfl _ _ _ rfl hsl [.string yb] rfl rfl rfl (by omega) (by omega) ?_)
            intro v5 w5 s5 u5 o5
            have HB := Hd.mk (HB.out.app s5 u5 o5)
            obtain ⟨a5, c5, rfl⟩ := s5.form
            clear s5 u5 o5 hsl
            go_wp2_with fail
            go_roundg (gk - 1)
            case measure => have := HGJ.out; omega
            case rel => exact ⟨j + 1, W ++ [y], by have := HGJ.out; omega, by go_num, Hd.mk (by
                have := HB.out
                rw [List.length_append, List.map_append, List.map_singleton, ← S_of HY.out]
                exact this), HFN, by simp; omega⟩
        · obtain rfl : j = ws.length := by have := HGJ.out; omega
          rw [List.take_length] at HF
          have hwl : wordsL x = W := by rw [HWL.out, HF.out]
          have HWL := Hd.mk hwl
          have HS := Hd.mk (HS.out.over HB.out.upd)
          clear hj hwl HF HGJ
          by_cases h0 : W.length = 0
          · have d0 : ((W.length : Int) == 0) = true := by rw [beq_iff_eq]; omega
            have HRN := Hd.mk (show rowsL (ls.take (k + 1)) = some L by
              rw [HTK.out, rowsL_snoc HR.out]
              have : W = [] := List.eq_nil_of_length_eq_zero h0
              rw [show rowL x = some [] by unfold rowL; rw [HWL.out, this]]
              simp)
            clear h0
            go_wp2_with fail
            go_roundg gq
            case measure => have := HG.out; omega
            case rel => exact ⟨k + 1, L, by have := HG.out; omega, by go_num, HS, HRN, by omega⟩
          have d0 : ((W.length : Int) == 0) = false := by rw [beq_eq_false_iff_ne]; omega
          by_cases h3 : W.length = 3
          · have d3 : ((W.length : Int) == 3) = true := by rw [beq_iff_eq]; omega
            obtain ⟨m, p, h, rfl⟩ : ∃ m p h, W = [m, p, h] := by
              match W, h3 with
              | [m, p, h], _ => exact ⟨m, p, h, rfl⟩
            have HRN := Hd.mk (show rowsL (ls.take (k + 1)) = some (L ++ [⟨m, p, h⟩]) by
              rw [HTK.out, rowsL_snoc HR.out]
              rw [show rowL x = some [⟨m, p, h⟩] by unfold rowL; rw [HWL.out]]
              simp)
            obtain ⟨b, off, cap, hv, -, -, hc⟩ := HB.out.sl.some (by simp)
            simp only [Value.slice.injEq, true_and] at hv
            obtain ⟨rfl, rfl⟩ := hv
            have k0 := hc 0 (by simp)
            have k1 := hc 1 (by simp)
            have k2 := hc 2 (by simp)
            simp only [List.map_cons, List.map_nil, List.getElem?_cons_zero, List.getElem?_cons_succ, Nat.add_zero] at k0 k1 k2
            obtain ⟨mb, hm, -, -⟩ := S_ex m
            obtain ⟨pb, hp, -, -⟩ := S_ex p
            obtain ⟨hb, hh, -, -⟩ := S_ex h
            have HCE := Hd.mk (show (⟨m, p, h⟩ : Rt).cells = [.string mb, .string pb, .string hb] by unfold Rt.cells; rw [hm, hp, hh])
            rw [hm] at k0
            rw [hp] at k1
            rw [hh] at k2
            simp only [List.length_cons, List.length_nil] at *
            clear hc hm hp hh h0 h3
            go_upto_region 16 with (fail)
            obtain ⟨w4, hw4⟩ : ∃ w4, wr.drew = w4 := ⟨_, rfl⟩
            have UD := (Upd.refl [] wr).drew
            rw [hw4] at UD
            have HS := Hd.mk (HS.out.over UD)
            have hsz : w4.heap.size = wr.heap.size := by rw [← hw4]; rfl
            refine wp_mk_tail (fun X => X = w4 ∨ X = w4.alloc (.cells #[.string mb, .string pb, .string hb] 90)) 11 12 _ (fun _ => by rw [hw4]) (by kernel_rfl) (by kernel_rfl) (by decide) rfl (by decide +kernel) (fun _ => ?_)
            have kk : ∀ (x : Cls (fun X => X = w4 ∨ X = w4.alloc (.cells #[.string mb, .string pb, .string hb] 90))) (a : Addr) (v : Value), wr.cell? a = some v → x.w.cell? a = some v := by
              rintro ⟨_, rfl | rfl⟩ a v h
              · exact (UD.cell (block_lt_of_cell h) (by simp)).trans h
              · exact ((UD.alloc _).cell (block_lt_of_cell h) (by simp)).trans h
            have x0 := fun x => kk x _ _ k0
            have x1 := fun x => kk x _ _ k1
            have x2 := fun x => kk x _ _ k2
            rw [hw4]
            clear hw4 UD kk k0 k1 k2
            simp only [List.take_succ_cons, List.take_zero, List.drop_succ_cons, List.drop_zero]
            repeat (go_big_quiet_step (fail))
            refine wpQuiet_nil ?_
            refine ⟨.slice (some ⟨w4.heap.size, 0, none⟩) 1 1, by go_simp, by go_simp, ?_⟩
            refine wpQuiet_nil ?_
            clear x0 x1 x2
            have hsl := HS.out.sl
            go_wp2_with (at_builtin; refine wpList_append_row rfl (.tmp 38) (.tmp 49) 26 rfl rfl 90 (.agg #[.string ⟨#[]⟩, .string ⟨#[]⟩, .string ⟨#[]⟩]) 3 48 Tryz.underlying26 (by kernel_rfl) rfl _ _ _ rfl hsl [.string mb, .string pb, .string hb] rfl rfl rfl (by omega) (by omega) ?_)
            intro v5 w5 s5 u5 o5
            rw [← hsz] at o5
            have HS := Hd.mk (HS.out.app s5 u5 o5)
            obtain ⟨a5, c5, rfl⟩ := s5.form
            clear s5 u5 o5 hsl
            go_wp2_with fail
            go_roundg gq
            case measure => have := HG.out; omega
            case rel => exact ⟨k + 1, L ++ [⟨m, p, h⟩], by have := HG.out; omega, by go_num, Hd.mk (by
                have := HS.out
                rw [List.length_append, List.flatMap_append, List.flatMap_singleton, HCE.out]
                exact this), HRN, by simp; omega⟩
          have d3 : ((W.length : Int) == 3) = false := by rw [beq_eq_false_iff_ne]; omega
          have HRN := Hd.mk (show R = (1, []) from HPE.out (by
            rw [HCUT.out]
            refine rowsL_bad ?_
            rw [rowsL_snoc HR.out]
            rw [show rowL x = none by
              unfold rowL
              rw [HWL.out]
              match W, h0, h3 with
              | [_], _, _ => rfl
              | [_, _], _, _ => rfl
              | _ :: _ :: _ :: _ :: _, _, _ => rfl]
            rfl))
          clear h0 h3
          go_wp2_with fail
          go_ret2
          rw [HRN.out]
          exact ⟨_, rfl, Sl.nil _ _ _, by simp [ownB], HU.out.trans HS.out.upd (by simp)⟩
    · obtain rfl : k = ls.length := by have := HG.out; omega
      rw [List.take_length] at HR
      have hps := HPL.out _ HR.out
      have HC := Hd.mk (fun W (h : Sl W 90 3 (.slice va L.length vc) L.length (L.flatMap Rt.cells)) (h2 : HTab W) => check_ok L (.slice va L.length vc) W h2 h (by have := HZ.out; omega) (fun r hr => by have := hps.2 r hr; have := HZ.out; omega))
      have HRR := Hd.mk (HPR.out _ HR.out)
      clear hk hps
      go_upto_region 18 with (fail)
      go_wp2_with fail
      refine (HC.out _ HS.out.sl ((HT.out.upd HU.out).upd HS.out.upd)).mono ?_
      rintro e w4 ⟨rfl, u4⟩
      have HS := Hd.mk (HS.out.over u4)
      have hs1 := HU.out.size
      have HU := Hd.mk (HU.out.trans HS.out.upd (by simp))
      clear u4
      by_cases h0 : chk L = 0
      · have HRR := Hd.mk (show R = (0, L) by rw [HRR.out, if_pos h0])
        rw [h0]
        clear h0
        go_wp2_with fail
        go_ret2
        rw [HRR.out]
        exact ⟨_, rfl, HS.out.sl, fun k hk => by have := HS.out.own k hk; omega, HU.out⟩
      · have HRR := Hd.mk (show R = (chk L, []) by rw [HRR.out, if_neg h0])
        have HNE := Hd.mk h0
        have d0 : (((chk L : Nat) : Int) != 0) = true := by simp; omega
        generalize chk L = ck at *
        clear h0
        go_wp2_with fail
        go_ret2
        rw [HRR.out]
        exact ⟨_, rfl, Sl.nil _ _ _, by simp [ownB], HU.out⟩
end Go.Proofs.YtndlbkiogagnaaaGreatDoor

namespace Go.Proofs.YtndlbkiogagnaaaGreatDoor
set_option linter.unusedSimpArgs false
set_option linter.unusedVariables false
set_option linter.unnecessarySimpa false
open Go.RowKit BigFrame

/-- No block that a tree may lead to. -/
def Fgn (w : World) (k : Nat) : Prop := ∀ cs t, Blk w k cs t → t ≠ 164 ∧ t ≠ 201 ∧ t ≠ 90 ∧ t ≠ 128
theorem Blk.fgn {w : World} {k : Nat} {cs : List Value} {t : TypeId} (h : Blk w k cs t) (ht : (t != 164 && t != 201 && t != 90 && t != 128) = true) : Fgn w k := by
  intro cs' t' h'
  obtain ⟨-, rfl⟩ := h.uniq h'
  simpa [and_assoc] using ht
theorem Sl.fgn {w : World} {e : TypeId} {sz : Nat} {v : Value} {n : Nat} {xs : List Value} (h : Sl w e sz v n xs) (he : e = 201 ∨ e = 90) : ∀ k, k ∈ ownB v → ¬ Fgn w k := by
  intro k hk hf
  rcases h.2 with ⟨rfl, _⟩ | ⟨g, o, cap, cur, rfl, hb, _⟩
  · simp [ownB] at hk
  · simp [ownB] at hk
    subst hk
    have := hf _ _ hb
    rcases he with rfl | rfl
    · exact this.2.1 rfl
    · exact this.2.2.1 rfl
mutual
theorem NdV.fgn : ∀ {t : T} {w : World} {X : Nat → Prop} {v : Value}, NdV w X t v → NdV w (Fgn w) t v
  | .nil, _, _, _, h => by simpa [NdV] using h
  | .node es nx pa re en, w, X, v, h => by
    simp only [NdV] at h ⊢
    obtain ⟨b, ev, nv, pv, rv, sv, n, cs, h1, h2, h3, h4, h5, h6, h7, h8, h9, h10, h11⟩ := h
    exact ⟨b, ev, nv, pv, rv, sv, n, cs, h1, h2, fun e => (e _ _ h2).1 rfl, h4, h4.fgn (.inl rfl), EdV.fgn h6, NdV.fgn h7, NdV.fgn h8, NdV.fgn h9, h10, h10.fgn (.inr rfl)⟩
theorem EdV.fgn : ∀ {es : E} {w : World} {X : Nat → Prop} {cs : List Value}, EdV w X es cs → EdV w (Fgn w) es cs
  | .nil, _, _, _, h => by simpa [EdV] using h
  | .cons t d tl, w, X, cs, h => by
    simp only [EdV] at h ⊢
    obtain ⟨p, r, h1, h2, h3⟩ := h
    exact ⟨p, r, h1, NdV.fgn h2, EdV.fgn h3⟩
end
theorem Tr.updF {w w' : World} {v : Value} {L : List Rt} {S : List Nat} (h : Tr w v L) (hu : Upd S w w') (hS : ∀ k ∈ S, Fgn w k) : Tr w' v L := by
  obtain ⟨⟨n, h1, h2⟩, h3⟩ := h
  refine ⟨⟨n, ?_, h2⟩, h3⟩
  rcases h1 with h1 | ⟨b, rv, e1, e2, e3⟩
  · exact .inl h1
  · exact .inr ⟨b, rv, e1, hu.blk e2 (fun e => (hS b e _ _ e2).2.2.2 rfl), e3.fgn.move hu hS (by simp)⟩
theorem Sl.updF {w w' : World} {v : Value} {n : Nat} {xs : List Value} {S : List Nat} (h : Sl w 90 3 v n xs) (hu : Upd S w w') (hS : ∀ k ∈ S, Fgn w k) : Sl w' 90 3 v n xs :=
  h.upd hu fun k hk e => h.fgn (.inr rfl) k hk (hS k e)
/-- The routes that may stand beside one another; else none. -/
def fixL (L : List Rt) : List Rt := if chk L = 0 then L else []
theorem fixL_chk (L : List Rt) : chk (fixL L) = 0 := by
  unfold fixL
  split
  · assumption
  · decide
theorem fixL_prs (s : Bs) : fixL (prs s).2 = (prs s).2 := by unfold fixL; rw [if_pos (prs_chk s)]
theorem fixL_mem {L : List Rt} {r : Rt} (h : r ∈ fixL L) : r ∈ L := by
  unfold fixL at h
  split at h
  · exact h
  · cases h
theorem fixL_len (L : List Rt) : (fixL L).length ≤ 24 := (chk_rgt (fixL_chk L)).1
theorem fixL_rgt {L : List Rt} (hz : ∀ r ∈ L, r.p.length ≤ 800000 ∧ r.m.length ≤ 800000) : ∀ r ∈ fixL L, Rgt r := fun r hr => rgtB_rgt ((chk_rgt (fixL_chk L)).2 r hr) (hz r (fixL_mem hr)).1
/-- A table as it is: its tree, its routes. -/
structure Snp (w : World) (tv rv : Value) (L : List Rt) : Prop where
  tr : Tr w tv L
  rs : Sl w 90 3 rv L.length (L.flatMap Rt.cells)
  ok : chk L = 0
  le : ∀ r ∈ L, r.p.length ≤ 800000 ∧ r.m.length ≤ 800000
  ptr : ∃ b, tv = .pointer (some ⟨b, 0, none⟩)
theorem Snp.upd {w w' : World} {tv rv : Value} {L : List Rt} {S : List Nat} (h : Snp w tv rv L) (hu : Upd S w w') (hS : ∀ k ∈ S, Fgn w k) : Snp w' tv rv L :=
  ⟨h.tr.updF hu hS, h.rs.updF hu hS, h.ok, h.le, h.ptr⟩
theorem Snp.up {w w' : World} {tv rv : Value} {L : List Rt} (h : Snp w tv rv L) (hu : Upd [] w w') : Snp w' tv rv L := h.upd hu (by simp)
theorem Snp.len {w : World} {tv rv : Value} {L : List Rt} (h : Snp w tv rv L) : L.length ≤ 24 := (chk_rgt h.ok).1
/-- A holder. -/
structure Hol (w : World) (hb : Nat) (tv rv : Value) (n : Nat) (L : List Rt) : Prop where
  blk : Blk w hb [tv, .int .i64 n, rv] 103
  sn : Snp w tv rv L
theorem Hol.up {w w' : World} {hb n : Nat} {tv rv : Value} {L : List Rt} (h : Hol w hb tv rv n L) (hu : Upd [] w w') : Hol w' hb tv rv n L := ⟨hu.blk h.blk (by simp), h.sn.up hu⟩
theorem holder_fgn {w : World} {hb : Nat} {cs : List Value} (h : Blk w hb cs 103) : Fgn w hb := h.fgn (by decide)
theorem Snp.updH {w w' : World} {tv rv : Value} {L : List Rt} {hb : Nat} {cs : List Value} (h : Snp w tv rv L) (hbl : Blk w hb cs 103) (hu : Upd [hb] w w') : Snp w' tv rv L :=
  h.upd hu (by intro k hk; rw [List.mem_singleton] at hk; subst hk; exact holder_fgn hbl)
def SetQ (hb n : Nat) (M : List Rt) (w : World) (e : Ending) (w' : World) : Prop := ∃ tv rv, e = .returned (.tuple #[]) ∧ Hol w' hb tv rv (n + 1) M ∧ Upd [hb] w w'
set_option maxRecDepth 100000 in
set_option maxHeartbeats 4000000 in
theorem set_ok (hb n : Nat) (tv rv lv : Value) (L : List Rt) (w : World) (hT : HTab w) (hh : Blk w hb [tv, .int .i64 n, rv] 103) (h1 : tv.oneCell' = true) (h2 : rv.oneCell' = true) (hn : n ≤ 1000000) (hl : Sl w 90 3 lv L.length (L.flatMap Rt.cells)) (hm : L.length ≤ 200000) (hz : ∀ r ∈ L, r.p.length ≤ 800000 ∧ r.m.length ≤ 800000) :
    Calls Tryz.prog 53 #[.pointer (some ⟨hb, 0, none⟩), lv] w (SetQ hb n (fixL L) w) := by
  obtain ⟨la, lc, rfl⟩ := hl.form
  have HL := Hd.mk hl
  have HZ := Hd.mk hz
  have HB := Hd.mk hh
  have HC := Hd.mk (check_ok L (.slice la L.length lc) w hT hl (by omega) hz)
  clear hT hh hl hz
  go_enter Tryz.func53, Tryz.ntmps53
  go_wp2_with fail
  refine HC.out.mono ?_
  rintro e w2 ⟨rfl, u2⟩
  have HU := Hd.mk u2
  have HL := Hd.mk (HL.out.upd u2 (by simp))
  have HB := Hd.mk (u2.blk HB.out (by simp))
  have HFL := Hd.mk (And.intro (fixL_len L) (fixL_rgt HZ.out))
  clear u2 HC
  go_upto_if 7 with (fail)
  go_cut [1] (fun s1 W => ∃ a c, s1 = .slice a (fixL L).length c ∧ Hd (Sl w2 90 3 s1 (fixL L).length ((fixL L).flatMap Rt.cells)) ∧ W = w2)
  case first =>
    by_cases h0 : chk L = 0
    · have HE := Hd.mk (show fixL L = L by unfold fixL; rw [if_pos h0])
      rw [h0]
      go_wp2_with fail
      go_meet
      case rel => exact ⟨la, lc, by rw [HE.out], Hd.mk (by rw [HE.out]; exact HL.out), rfl⟩
    · have HE := Hd.mk (show fixL L = [] by unfold fixL; rw [if_neg h0])
      have d0 : (((chk L : Nat) : Int) != 0) = true := by simp; omega
      generalize chk L = ck at *
      clear h0
      go_wp2_with fail
      go_meet
      case rel => exact ⟨none, 0, by rw [HE.out]; rfl, Hd.mk (by rw [HE.out]; exact Sl.nil _ _ _), rfl⟩
  case rest =>
    obtain ⟨a, c, rfl, HS, rfl⟩ := hcut
    have HSN := Hd.mk (show ∀ r ∈ fixL L, r.p.length ≤ 800000 ∧ r.m.length ≤ 800000 from fun r hr => HZ.out r (fixL_mem hr))
    have HOK := Hd.mk (fixL_chk L)
    generalize fixL L = M at *
    have HTW := Hd.mk (fun X (hu : Upd [] wc X) => (Tr.with_ (.pointer none) (.slice a M.length c) [] M X (Tr.nil _) (HS.out.upd hu (by simp)) HFL.out.2 (by have := HFL.out.1; simp; omega)).mono (R' := fun e w6 => ∃ tb, e = .returned (.pointer (some ⟨tb, 0, none⟩)) ∧ Tr w6 (.pointer (some ⟨tb, 0, none⟩)) M ∧ Upd [] wc w6 ∧ Upd [] X w6) (by rintro e w6 ⟨tb, rfl, ht, h6⟩; exact ⟨tb, rfl, ht, hu.trans h6 (by simp), h6⟩))
    have HAP := Hd.mk (fun X (hu : Upd [] wc X) => HS.out.upd hu (by simp))
    have HM24 := HFL.out.1
    have h1c : (M.flatMap Rt.cells).all (·.oneCell') = true := by
      rw [List.all_eq_true]
      intro v hv
      obtain ⟨r, -, hr⟩ := List.mem_flatMap.1 hv
      simp only [Rt.cells, List.mem_cons, List.not_mem_nil, or_false] at hr
      rcases hr with rfl | rfl | rfl <;> rfl
    have H1C := Hd.mk h1c
    have b := HB.out
    have c0 := b.cell 0
    have c1 := b.cell 1
    have c2 := b.cell 2
    simp only [List.getElem?_cons_zero, List.getElem?_cons_succ] at c0 c1 c2
    have f0 := b.free 0
    have f1 := b.free 1
    have f2 := b.free 2
    have tok1 := H1C
    have tok2 := H1C
    clear b h1c
    go_upto_region 3 with (fail)
    go_region_law (first
      | (have _t := tok1; refine step_func_ex rfl 86 #[.tmp 9, .tmp 10] #[46, 26] rfl #[.pointer none, .slice a M.length c] (by go_simp) (by go_simp) ?_; refine (Calls.mono (HTW.out _ ?hup) ?_); (case hup => repeat (first | with_reducible exact HU5.out | with_reducible exact Upd.refl _ _ | ((with_reducible refine Upd.set ?_ _ _ ?hne); (case hne => (simp; omega))) | with_reducible apply Upd.drewN | with_reducible apply Upd.drew | with_reducible apply Upd.alloc)); rintro e w6 ⟨tb, rfl, htr, hu6, hx6⟩; refine ⟨_, rfl, ?_⟩; have HT6 := Hd.mk htr; have HU6 := Hd.mk hu6; have HX6 := Hd.mk hx6; have b6 := hu6.blk HB.out (by simp); have c60 := b6.cell 0; have c61 := b6.cell 1; have c62 := b6.cell 2; have f60 := b6.free 0; have f61 := b6.free 1; have f62 := b6.free 2; simp only [List.getElem?_cons_zero, List.getElem?_cons_succ] at c60 c61 c62; clear tok1 _t htr hu6 hx6 b6)
      | (have _t := tok2; refine step_append_any rfl (.const (.slice none 0 0)) (.tmp 18) 26 rfl 90 (.agg #[.string ⟨#[]⟩, .string ⟨#[]⟩, .string ⟨#[]⟩]) 3 48 Tryz.underlying26 (by kernel_rfl) rfl (.slice none 0 0) 0 [] rfl (Sl.nil _ _ _) (.slice a M.length c) M.length (M.flatMap Rt.cells) (by go_simp) (HAP.out _ ?hup) H1C.out (by omega) (by omega) ?_; (case hup => repeat (first | with_reducible exact HU6.out | with_reducible exact Upd.refl _ _ | ((with_reducible refine Upd.set ?_ _ _ ?hne); (case hne => (simp; omega))) | with_reducible apply Upd.drewN | with_reducible apply Upd.drew | with_reducible apply Upd.alloc)); intro v5 w5 s5 u5 o5; simp only [Nat.zero_add, List.nil_append] at s5; obtain ⟨a5, p5, rfl⟩ := s5.form; have HS5 := Hd.mk s5; have HX5 := Hd.mk u5; have HU5 := Hd.mk (show Upd [] wc w5 by (refine Upd.trans (T := []) ?hup u5 (by simp); case hup => repeat (first | with_reducible exact HU6.out | with_reducible exact Upd.refl _ _ | ((with_reducible refine Upd.set ?_ _ _ ?hne); (case hne => (simp; omega))) | with_reducible apply Upd.drewN | with_reducible apply Upd.drew | with_reducible apply Upd.alloc))); have b5 := HU5.out.blk HB.out (by simp); have c50 := b5.cell 0; have c51 := b5.cell 1; have c52 := b5.cell 2; have f50 := b5.free 0; have f51 := b5.free 1; have f52 := b5.free 2; simp only [List.getElem?_cons_zero, List.getElem?_cons_succ] at c50 c51 c52; clear tok2 _t s5 u5 o5 b5))
    all_goals
      first
        | (have HT9 := Hd.mk (HT6.out.upd HX5.out))
        | (have HT9 := HT6)
      first
        | (have HS9 := Hd.mk (HS5.out.upd HX6.out (by simp)))
        | (have HS9 := HS5)
      first
        | (have HU9 := Hd.mk (HU6.out.trans HX5.out (by simp [ownB])))
        | (have HU9 := Hd.mk (HU5.out.trans HX6.out (by simp)))
      have HB9 := Hd.mk (HU9.out.blk HB.out (by simp))
      have hw : IntKind.i64.wrap ((n : Int) + 1) = ((n + 1 : Nat) : Int) := by rw [IntKind.wrap_i64]; omega
      have HUU := Hd.mk (fun (W : World) (a b c : Value) => (((Upd.refl [hb] W).set ⟨hb, 0, none⟩ a (by simp)).set ⟨hb, 1, none⟩ b (by simp)).set ⟨hb, 2, none⟩ c (by simp))
      go_wp2_with fail
      go_end0
      have hfg := fun k (hk : k ∈ [hb]) => (List.mem_singleton.1 hk) ▸ holder_fgn HB9.out
      refine ⟨_, _, rfl, ⟨((HB9.out.set 0 _).set 1 _).set 2 _ |>.as (by rw [hw]; rfl), ⟨HT9.out.updF (HUU.out _ _ _ _) hfg, HS9.out.updF (HUU.out _ _ _ _) hfg, HOK.out, HSN.out, _, rfl⟩⟩, ((HU.out.trans HU9.out (by simp)).mono (by simp)).trans (HUU.out _ _ _ _) (by simp)⟩
def NewQ (L : List Rt) (w : World) (e : Ending) (w' : World) : Prop := ∃ hb tv rv, e = .returned (.pointer (some ⟨hb, 0, none⟩)) ∧ Hol w' hb tv rv 1 (fixL L) ∧ Upd [] w w' ∧ w.heap.size ≤ hb
set_option maxRecDepth 100000 in
set_option maxHeartbeats 4000000 in
theorem new_ok (lv : Value) (L : List Rt) (w : World) (hT : HTab w) (hl : Sl w 90 3 lv L.length (L.flatMap Rt.cells)) (hm : L.length ≤ 200000) (hz : ∀ r ∈ L, r.p.length ≤ 800000 ∧ r.m.length ≤ 800000) :
    Calls Tryz.prog 28 #[lv] w (NewQ L w) := by
  obtain ⟨la, lc, rfl⟩ := hl.form
  have HL := Hd.mk hl
  have HT := Hd.mk hT
  have HZ := Hd.mk hz
  clear hT hl hz
  go_enter Tryz.func28, Tryz.ntmps28
  go_wp2_with fail
  refine (set_ok w.heap.size 0 (.pointer none) (.slice none 0 0) (.slice la L.length lc) L _ (HT.out.upd ((Upd.refl [] w).alloc _)) (Blk.new w [.pointer none, .int .i64 0, .slice none 0 0] 103 _ rfl) rfl rfl (by omega) (HL.out.alloc _) hm HZ.out).mono ?_
  rintro e w2 ⟨tv, rv, rfl, hh, hu⟩
  go_wp2_with fail
  go_ret
  exact ⟨_, tv, rv, rfl, hh, ((Upd.refl [] w).alloc _).trans hu (by intro k hk e; rw [List.mem_singleton] at e; omega), Nat.le_refl _⟩
set_option maxHeartbeats 2000000 in
theorem load_ok (hb n : Nat) (tv rv : Value) (L : List Rt) (w : World) (h : Hol w hb tv rv n L) : Calls Tryz.prog 15 #[.pointer (some ⟨hb, 0, none⟩)] w fun e w' => e = .returned (.agg #[tv, .int .i64 n, rv]) ∧ Upd [] w w' := by
  obtain ⟨b, hs⟩ := h
  obtain ⟨tb, rfl⟩ := hs.ptr
  obtain ⟨ra, rc, rfl⟩ := hs.rs.form
  clear hs
  have c0 := fun Z => (b.alloc Z).cell 0
  have c1 := fun Z => (b.alloc Z).cell 1
  have c2 := fun Z => (b.alloc Z).cell 2
  simp only [List.getElem?_cons_zero, List.getElem?_cons_succ] at c0 c1 c2
  clear b
  go_enter Tryz.func15, Tryz.ntmps15
  go_wp2_with fail
  exact bodyPost_ret (results_cell _ _ _ 2 48 w.heap.size [_, _, _] 48 rfl rfl (Blk.new w _ _ _ rfl) (by kernel_rfl) (by kernel_rfl)) rfl ⟨rfl, (Upd.refl [] w).alloc _⟩
def SwapQ (hb n : Nat) (R : Nat × List Rt) (w : World) (e : Ending) (w' : World) : Prop :=
  (R.1 ≠ 0 ∧ e = .returned (.tuple #[.int .i64 0, .int .i64 R.1]) ∧ Upd [] w w') ∨
  (R.1 = 0 ∧ e = .returned (.tuple #[.int .i64 ((n + 1 : Nat) : Int), .int .i64 0]) ∧ ∃ tv' rv', Hol w' hb tv' rv' (n + 1) R.2 ∧ Upd [hb] w w')
set_option maxRecDepth 100000 in
set_option maxHeartbeats 4000000 in
theorem swap_ok (hb n : Nat) (tv rv : Value) (L : List Rt) (s : Bs) (w : World) (hT : HTab w) (h : Hol w hb tv rv n L) (hn : n ≤ 1000000) (hz : s.length ≤ 100000) :
    Calls Tryz.prog 101 #[.pointer (some ⟨hb, 0, none⟩), S s] w (SwapQ hb n (prs s) w) := by
  have HT := Hd.mk hT
  have HH := Hd.mk h
  have HP := Hd.mk (parse_ok s w hT hz)
  have HLE := Hd.mk (prs_le s)
  have HFX := Hd.mk (fixL_prs s)
  have hlen := (chk_rgt (prs_chk s)).1
  have h3 : (prs s).1 ≤ 3 := by
    unfold prs
    split
    · show 1 ≤ 3
      omega
    · split
      · show 0 ≤ 3
        omega
      · exact chk_le3 _
  unfold ParseQ at HP
  clear hT h
  generalize prs s = R at *
  obtain ⟨c, M⟩ := R
  go_enter Tryz.func101, Tryz.ntmps101
  go_wp2_with fail
  refine HP.out.mono ?_
  rintro e w2 ⟨v, rfl, hb2⟩
  obtain ⟨va, vc, rfl⟩ := hb2.sl.form
  have HB2 := Hd.mk hb2
  clear hb2
  by_cases h0 : c = 0
  · subst h0
    go_wp2_with fail
    refine (set_ok hb n tv rv (.slice va M.length vc) M w2 (HT.out.upd HB2.out.upd) (HB2.out.upd.blk HH.out.blk (by simp)) (by obtain ⟨b, h⟩ := HH.out.sn.ptr; rw [h]; rfl) (by obtain ⟨a, p, h⟩ := HH.out.sn.rs.form; rw [h]; rfl) hn HB2.out.sl (by omega) (fun r hr => by have := HLE.out r hr; omega)).mono ?_
    rintro e w3 ⟨tv', rv', rfl, hh, hu⟩
    rw [HFX.out] at hh
    have c1 := hh.blk.cell 1
    simp only [List.getElem?_cons_zero, List.getElem?_cons_succ] at c1
    have HH3 := Hd.mk hh
    have HU3 := Hd.mk (show Upd [hb] w w3 from (HB2.out.upd.mono (by simp)).trans hu (by simp))
    clear hh hu
    go_wp2_with fail
    go_ret2
    exact .inr ⟨rfl, rfl, tv', rv', HH3.out, HU3.out⟩
  · have d0 : (((c : Nat) : Int) != 0) = true := by simp; omega
    have HN := Hd.mk h0
    clear h0
    go_wp2_with fail
    go_ret2
    exact .inl ⟨HN.out, rfl, HB2.out.upd⟩
theorem snap_f0 (p : Option Addr) (z : Int) (a : Option Addr) (k c : Nat) (W : World) : (Instr.field 48 (.agg #[.pointer p, .int .i64 z, .slice a k c]) 0).run Tryz.prog W = .ok (.pointer p) W := by kernel_rfl
theorem snap_f1 (p : Option Addr) (z : Int) (a : Option Addr) (k c : Nat) (W : World) : (Instr.field 48 (.agg #[.pointer p, .int .i64 z, .slice a k c]) 1).run Tryz.prog W = .ok (.int .i64 z) W := by kernel_rfl
theorem snap_f2 (p : Option Addr) (z : Int) (a : Option Addr) (k c : Nat) (W : World) : (Instr.field 48 (.agg #[.pointer p, .int .i64 z, .slice a k c]) 2).run Tryz.prog W = .ok (.slice a k c) W := by kernel_rfl
end Go.Proofs.YtndlbkiogagnaaaGreatDoor

namespace Go.Proofs.YtndlbkiogagnaaaGreatDoor
set_option linter.unusedSimpArgs false
set_option linter.unusedVariables false
set_option linter.unnecessarySimpa false
open Go.RowKit BigFrame

abbrev frsT : Bs := [71, 69, 84, 32, 47, 104, 101, 97, 108, 116, 104, 32, 104, 101, 97, 108, 116, 104, 10, 80, 79, 83, 84, 32, 47, 97, 100, 109, 105, 110, 47, 114, 111, 117, 116, 101, 115, 32, 114, 101, 108, 111, 97, 100, 10, 80, 79, 83, 84, 32, 47, 97, 100, 109, 105, 110, 47, 115, 116, 111, 112, 32, 115, 104, 117, 116, 100, 111, 119, 110, 10, 71, 69, 84, 32, 47, 107, 118, 47, 58, 107, 101, 121, 32, 103, 101, 116, 10, 80, 85, 84, 32, 47, 107, 118, 47, 58, 107, 101, 121, 32, 112, 117, 116, 10, 68, 69, 76, 69, 84, 69, 32, 47, 107, 118, 47, 58, 107, 101, 121, 32, 100, 101, 108, 101, 116, 101, 10, 71, 69, 84, 32, 47, 108, 105, 115, 116, 47, 42, 112, 114, 101, 102, 105, 120, 32, 108, 105, 115, 116, 10, 71, 69, 84, 32, 47, 119, 97, 108, 107, 47, 58, 109, 111, 118, 101, 115, 32, 119, 97, 108, 107, 10]
def frsL : List Rt := [⟨[71, 69, 84], [47, 104, 101, 97, 108, 116, 104], [104, 101, 97, 108, 116, 104]⟩, ⟨[80, 79, 83, 84], [47, 97, 100, 109, 105, 110, 47, 114, 111, 117, 116, 101, 115], [114, 101, 108, 111, 97, 100]⟩, ⟨[80, 79, 83, 84], [47, 97, 100, 109, 105, 110, 47, 115, 116, 111, 112], [115, 104, 117, 116, 100, 111, 119, 110]⟩, ⟨[71, 69, 84], [47, 107, 118, 47, 58, 107, 101, 121], [103, 101, 116]⟩, ⟨[80, 85, 84], [47, 107, 118, 47, 58, 107, 101, 121], [112, 117, 116]⟩, ⟨[68, 69, 76, 69, 84, 69], [47, 107, 118, 47, 58, 107, 101, 121], [100, 101, 108, 101, 116, 101]⟩, ⟨[71, 69, 84], [47, 108, 105, 115, 116, 47, 42, 112, 114, 101, 102, 105, 120], [108, 105, 115, 116]⟩, ⟨[71, 69, 84], [47, 119, 97, 108, 107, 47, 58, 109, 111, 118, 101, 115], [119, 97, 108, 107]⟩]
theorem first_prs : prs frsT = (0, frsL) := by decide +kernel
theorem first_fix : fixL frsL = frsL := by decide +kernel
set_option maxRecDepth 100000 in
set_option maxHeartbeats 4000000 in
theorem first_ok (w : World) (hT : HTab w) : Calls Tryz.prog 10 #[] w fun e w' => ∃ a c, e = .returned (.slice a 8 c) ∧ Bld w w' 90 3 (.slice a frsL.length c) frsL.length (frsL.flatMap Rt.cells) := by
  have HP := Hd.mk (parse_ok frsT w hT (by decide))
  rw [first_prs] at HP
  clear hT
  go_enter Tryz.func10, Tryz.ntmps10
  go_wp2_with fail
  refine HP.out.mono ?_
  rintro e w2 ⟨v, rfl, hb⟩
  obtain ⟨a, c, rfl⟩ := hb.sl.form
  have HB := Hd.mk hb
  clear hb
  go_wp2_with fail
  go_ret
  exact ⟨a, c, rfl, HB.out⟩
theorem nil_prs : prs [] = (0, []) := by decide +kernel
theorem leaf_bools {w : World} {a : Option Addr} {n cap : Nat} (h : Leaf.ok w (.sl [.bool]) (.slice a n cap)) :
    ∃ l : List Bool, l.length = n ∧ RdS w 1 (.slice a l.length cap) l.length (l.map Value.bool) ∧ n ≤ 140737488351232 := by
  have hn : n ≤ cap ∧ cap ≤ maxLen ∧ n ≤ 140737488351232 := by
    simp only [Leaf.ok] at h
    obtain ⟨_, _, _, _, e, h1, h2, hz, -⟩ := h
    simp only [Value.slice.injEq] at e
    omega
  by_cases h0 : 0 < n
  · obtain ⟨b, off, V, rfl, hb, hm, hV⟩ := Leaf.open h h0 (by simp)
    have hx : ∀ i : Nat, ∃ x : Bool, i < n → V i = [.bool x] := by
      intro i
      by_cases hi : i < n
      · have := (hV i hi).1
        simp only [Leaf.oks, Leaf.ok] at this
        obtain ⟨_, _, hv, ⟨x, rfl⟩, rfl⟩ := this
        exact ⟨x, fun _ => hv⟩
      · exact ⟨false, fun h => absurd h hi⟩
    obtain ⟨F, hF⟩ := Classical.axiomOfChoice hx
    refine ⟨(List.range n).map F, by simp, ?_, hn.2.2⟩
    rw [show ((List.range n).map F).length = n by simp]
    refine ⟨by simp, _, _, rfl, hn.1, hn.2.1, fun _ => ⟨b, off, rfl, hb, fun i hi => ?_⟩⟩
    have hi : i < n := by simpa using hi
    have h1 := (hV i hi).2 0 (by simp)
    rw [hF i hi] at h1
    simp only [List.length_cons, List.length_nil, Nat.zero_add, List.getElem?_cons_zero, Nat.add_zero, Nat.mul_one] at h1
    rw [h1]
    simp [hi]
  · obtain rfl : n = 0 := by omega
    exact ⟨[], rfl, ⟨by simp, _, _, rfl, by simp, hn.2.1, fun h => by simp at h⟩, hn.2.2⟩
section
variable {P : Program} {κ : Type} [DecidableEq κ]
theorem step_ins {ops : Array Oper} {o : Oper} {a : Act} {w : World} {K : Act → World → Prop} {Q : Exit → Act → World → Prop} {E : Prop} (hgd : o.guard = none) (t : TypeId) (m x y : Operand) (ho : o.op = .insert t m x y)
    {kt et : TypeId} {kv : κ → Value} (Kl : KeyLaw P kt κ kv) (hu : P.underlying t = some (.map kt et)) (r : Nat) (L : List (κ × Value × Nat)) (h : Mp w r kv L) (k : κ) (v : Value)
    (hm : a.eval m = .map (some r)) (hk : a.eval x = kv k) (hv : a.eval y = v) (hK : ∀ c w', Mp w' r kv (put L k v c) → Upd [r] w w' → K (a.put o.dst undef) w') :
    if Region.wanted o (yielded ops a.tmps) = true then Oper.wp P o a w K Q else E := by
  have hw : Region.wanted o (yielded ops a.tmps) = true := by simp [Region.wanted, hgd]
  rw [if_pos hw]
  obtain ⟨c, w', hr, h2, h3⟩ := run_update_mp (P := P) Kl t hu h k v
  unfold Oper.wp execOp
  simp only [ho, Sem.run_bind, Sem.run_pure, Result.andThen_ok, hm, hk, hv, hr]
  exact hK c w' h2 h3
theorem step_look {ops : Array Oper} {o : Oper} {a : Act} {w : World} {K : Act → World → Prop} {Q : Exit → Act → World → Prop} {E : Prop} (hgd : o.guard = none) (t : TypeId) (m x : Operand) (ho : o.op = .lookup t m x false)
    {kt et : TypeId} {kv : κ → Value} (Kl : KeyLaw P kt κ kv) (hu : P.underlying t = some (.map kt et)) (z : Value) (hz : ∀ w, (zeroValue et).run P w = .ok z w) (r : Nat) (L : List (κ × Value × Nat)) (h : Mp w r kv L) (k : κ) (v : Value)
    (hm : a.eval m = .map (some r)) (hk : a.eval x = kv k) (hg : (get L k).getD z = v) (hK : K (a.put o.dst v) w) :
    if Region.wanted o (yielded ops a.tmps) = true then Oper.wp P o a w K Q else E := by
  have hw : Region.wanted o (yielded ops a.tmps) = true := by simp [Region.wanted, hgd]
  rw [if_pos hw]
  have hr := run_lookup_mp (P := P) Kl t hu z hz h k false
  simp only [Bool.false_eq_true, if_false, hg] at hr
  unfold Oper.wp execOp
  simp only [ho, Sem.run_bind, Sem.run_pure, Result.andThen_ok, hm, hk, hr]
  exact hK
end
end Go.Proofs.YtndlbkiogagnaaaGreatDoor
