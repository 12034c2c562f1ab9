/- Tables: Parse. -/
import Derived.Test.YtaefooandfnloaaDoorV26
import Derived.Test.YtaefooandfnloaaDoorQm
namespace Go.Proofs.YtaefooandfnloaaDoor
set_option linter.unusedSimpArgs false
set_option linter.unusedVariables false
set_option linter.unnecessarySimpa false
open Go.RowKit BigFrame
def neB (x : Bs) : Bool := !x.isEmpty
/-- The words of a line. -/
def wordsL (l : Bs) : List Bs := (splitL 32 l).filter neB
/-- The routes of a line: none, or one; or it is none that may be. -/
def rowL (l : Bs) : Option (List Rt) := match wordsL l with
  | [] => some []
  | [m, p, h] => some [⟨m, p, h⟩]
  | _ => none
def rowsL : List Bs → Option (List Rt)
  | [] => some []
  | l :: r => (rowL l).bind fun a => (rowsL r).map (a ++ ·)
/-- What Parse tells: an error's number, the routes. -/
def prs (s : Bs) : Nat × List Rt := match rowsL (splitL 10 s) with
  | none => (1, [])
  | some L => if chk L = 0 then (0, L) else (chk L, [])
theorem rowsL_app : ∀ (a b : List Bs), rowsL (a ++ b) = (rowsL a).bind fun x => (rowsL b).map (x ++ ·)
  | [], b => by cases h : rowsL b <;> simp [rowsL, h]
  | l :: a, b => by
    simp only [List.cons_append, rowsL, rowsL_app a b]
    cases rowL l with
    | none => rfl
    | some x => cases rowsL a with
      | none => rfl
      | some y => cases rowsL b with
        | none => rfl
        | some z => simp
theorem rowsL_snoc {a : List Bs} {x : Bs} {L : List Rt} (h : rowsL a = some L) : rowsL (a ++ [x]) = (rowL x).map (L ++ ·) := by
  rw [rowsL_app, h]
  cases hx : rowL x <;> simp [rowsL, hx]
theorem rowsL_bad {a b : List Bs} (h : rowsL a = none) : rowsL (a ++ b) = none := by rw [rowsL_app, h]; rfl
theorem rowsL_len : ∀ (a : List Bs) (L : List Rt), rowsL a = some L → L.length ≤ a.length
  | [], L, h => by simp [rowsL] at h; subst h; simp
  | l :: a, L, h => by
    simp only [rowsL] at h
    obtain ⟨x, hx, h⟩ := Option.bind_eq_some_iff.1 h
    obtain ⟨y, hy, rfl⟩ := Option.map_eq_some_iff.1 h
    have := rowsL_len a y hy
    have : x.length ≤ 1 := by
      unfold rowL at hx
      split at hx
      · simp only [Option.some.injEq] at hx; subst hx; simp
      · simp only [Option.some.injEq] at hx; subst hx; simp
      · cases hx
    simp
    omega
theorem wordsL_le {l x : Bs} (h : x ∈ wordsL l) : x.length ≤ l.length := (splitL_le 32 l).2 x (List.mem_filter.1 h).1
theorem rowL_le {l : Bs} {L : List Rt} (h : rowL l = some L) : ∀ r ∈ L, r.m.length ≤ l.length ∧ r.p.length ≤ l.length ∧ r.h.length ≤ l.length := by
  unfold rowL at h
  split at h
  · simp only [Option.some.injEq] at h; subst h; simp
  · rename_i m p hh hw
    simp only [Option.some.injEq] at h; subst h
    intro r hr
    rw [List.mem_singleton] at hr
    subst hr
    exact ⟨wordsL_le (by rw [hw]; simp), wordsL_le (by rw [hw]; simp), wordsL_le (by rw [hw]; simp)⟩
  · cases h
theorem rowsL_le {n : Nat} : ∀ (a : List Bs) (L : List Rt), rowsL a = some L → (∀ x ∈ a, x.length ≤ n) → ∀ r ∈ L, r.m.length ≤ n ∧ r.p.length ≤ n ∧ r.h.length ≤ n
  | [], L, h, _ => by simp [rowsL] at h; subst h; simp
  | l :: a, L, h, hn => by
    simp only [rowsL] at h
    obtain ⟨x, hx, h⟩ := Option.bind_eq_some_iff.1 h
    obtain ⟨y, hy, rfl⟩ := Option.map_eq_some_iff.1 h
    intro r hr
    have h0 := hn l (by simp)
    rcases List.mem_append.1 hr with h1 | h1
    · have := rowL_le hx r h1; omega
    · exact rowsL_le a y hy (fun z hz => hn z (by simp [hz])) r h1
theorem prs_lines {s : Bs} {L : List Rt} (h : rowsL (splitL 10 s) = some L) : L.length ≤ s.length + 1 ∧ ∀ r ∈ L, r.m.length ≤ s.length ∧ r.p.length ≤ s.length ∧ r.h.length ≤ s.length := by
  have h1 := splitL_le 10 s
  exact ⟨Nat.le_trans (rowsL_len _ _ h) h1.1, rowsL_le _ _ h h1.2⟩
theorem prs_le (s : Bs) : ∀ r ∈ (prs s).2, r.m.length ≤ s.length ∧ r.p.length ≤ s.length ∧ r.h.length ≤ s.length := by
  unfold prs
  split
  · simp
  · rename_i L h
    split
    · exact (prs_lines h).2
    · simp
theorem prs_chk (s : Bs) : chk (prs s).2 = 0 := by
  unfold prs
  split
  · decide
  · split
    · assumption
    · show chk [] = 0
      decide
theorem chk_le3 (L : List Rt) : chk L ≤ 3 := by unfold chk; split <;> (try split) <;> (try split) <;> omega
theorem prs_ok {s : Bs} (h : (prs s).1 ≠ 0) : (prs s).2 = [] := by
  unfold prs at h ⊢
  split
  · rfl
  · rename_i L hL
    rw [hL] at h
    simp only at h ⊢
    split
    · rename_i h0; rw [if_pos h0] at h; exact absurd rfl h
    · rfl
theorem chk_rgt {L : List Rt} (h : chk L = 0) : L.length ≤ 24 ∧ ∀ r ∈ L, rgtB r = true := by
  unfold chk at h
  by_cases h1 : L.all rgtB = false
  · rw [if_pos h1] at h; cases h
  · rw [if_neg h1] at h
    by_cases h2 : 24 < L.length
    · rw [if_pos h2] at h; cases h
    · refine ⟨by omega, ?_⟩
      have : L.all rgtB = true := by simpa using h1
      exact List.all_eq_true.1 this
theorem rgtB_rgt {r : Rt} (h : rgtB r = true) (hz : r.p.length ≤ 800000) : Rgt r := by
  unfold rgtB at h
  simp only [Bool.and_eq_true] at h
  exact ⟨h.1.1, hz⟩
def ParseQ (w : World) (R : Nat × List Rt) (e : Ending) (w' : World) : Prop := ∃ v, e = .returned (.tuple #[v, .int .i64 R.1]) ∧ Bld w w' 43 3 v R.2.length (R.2.flatMap Rt.cells)
set_option maxRecDepth 100000 in
set_option maxHeartbeats 4000000 in
theorem parse_ok (s : Bs) (w : World) (hT : HTab w) (hz : s.length ≤ 100000) : Calls Tryd.prog 12 #[S s] w (ParseQ w (prs s)) := by
  obtain ⟨sb, hs, hsx, hsz⟩ := S_ex s
  have HT := Hd.mk hT
  have HZ := Hd.mk hz
  have HW1 := Hd.mk (fun W => words_ok sb 10 W (by omega))
  rw [hsx] at HW1
  rw [hs]
  clear hT hs hsx
  go_enter Tryd.func12, Tryd.ntmps12
  go_wp2_with fail
  go_step3
  go_wp2_with fail
  go_step3
  go_wp2_with fail
  refine (HW1.out _).mono ?_
  rintro e w1 ⟨lv, rfl, hb⟩
  obtain ⟨la, lc, rfl⟩ := hb.sl.form
  have HLN := Hd.mk hb.sl
  have HU := Hd.mk hb.upd
  have HSP := Hd.mk (splitL_le 10 s)
  have HPR := Hd.mk (show ∀ L, rowsL (splitL 10 s) = some L → prs s = if chk L = 0 then (0, L) else (chk L, []) by intro L h; unfold prs; rw [h])
  have HPE := Hd.mk (show rowsL (splitL 10 s) = none → prs s = (1, []) by intro h; unfold prs; rw [h])
  have HPL := Hd.mk (fun L => @prs_lines s L)
  have hll := HSP.out.1
  clear hb HW1
  generalize splitL 10 s = ls at *
  generalize prs s = R at *
  go_upto_region 3 with (fail)
  go_loopg [4, 6, 7, 9, 14] ls.length (fun g s4 s6 s7 s9 ii wr => ∃ (k : Nat) (L : List Rt), g + k = ls.length ∧ ii = .int .i64 k ∧ Hd (Bld w1 wr 43 3 s4 L.length (L.flatMap Rt.cells)) ∧ Hd (rowsL (ls.take k) = some L) ∧ L.length ≤ k)
  case atStart => exact ⟨0, [], by omega, rfl, Hd.mk (Bld.nil (Upd.refl _ _) _ _), Hd.mk rfl, by simp⟩
  case round =>
    obtain ⟨k, L, hg, rfl, HS, HR, hLk⟩ := hrel
    have HG := Hd.mk hg
    clear hg
    obtain ⟨va, vc, rfl⟩ := HS.out.sl.form
    by_cases hk : k < ls.length
    · obtain ⟨b, off, cap, hv, -, -, hc⟩ := (HLN.out.upd HS.out.upd (by simp)).some (by omega)
      simp only [Value.slice.injEq, true_and] at hv
      obtain ⟨rfl, rfl⟩ := hv
      have k0 := hc k (by omega)
      unfold Ss at k0
      rw [List.getElem?_map, List.getElem?_eq_getElem hk] at k0
      have HXZ := Hd.mk (HSP.out.2 _ (List.getElem_mem hk))
      have HTK := Hd.mk (show ls.take (k + 1) = ls.take k ++ [ls[k]] from List.take_succ_eq_append_getElem hk)
      have HCUT := Hd.mk (show ls = (ls.take k ++ [ls[k]]) ++ ls.drop (k + 1) by rw [← HTK.out, List.take_append_drop])
      generalize ls[k] = x at k0 HXZ HTK HCUT
      obtain ⟨xb, hx, hxx, hxz⟩ := S_ex x
      rw [Option.map_some, hx] at k0
      have HW2 := Hd.mk (fun W => words_ok xb 32 W (by have := HXZ.out; omega))
      rw [hxx] at HW2
      have HWL := Hd.mk (show wordsL x = (splitL 32 x).filter neB from rfl)
      have HWN := Hd.mk (splitL_le 32 x)
      have hwn : (splitL 32 x).length ≤ 100001 := by have := HWN.out.1; have := HXZ.out; omega
      clear hc hx hxx hxz
      go_upto_region 6 with (fail)
      go_wp2_with fail
      refine (HW2.out _).mono ?_
      rintro e w2 ⟨wv, rfl, hb2⟩
      obtain ⟨wa, wc, rfl⟩ := hb2.sl.form
      have HWS := Hd.mk hb2.sl
      have HS := Hd.mk (HS.out.over hb2.upd)
      clear hb2 k0 HW2
      generalize splitL 32 x = ws at *
      obtain ⟨gq, hgq⟩ : ∃ gq, gq = gk - 1 := ⟨_, rfl⟩
      have HG := Hd.mk (show gq + (k + 1) = ls.length ∧ gq < gk by have := HG.out; omega)
      clear hgq
      go_upto_region 7 with (fail)
      go_loopg [7, 9, 21] ws.length (fun g s7 s9 ii wq => ∃ (j : Nat) (W : List Bs), g + j = ws.length ∧ ii = .int .i64 j ∧ Hd (Bld w2 wq 9 1 s7 W.length (W.map S)) ∧ Hd (W = (ws.take j).filter neB) ∧ W.length ≤ j)
      case atStart => exact ⟨0, [], by omega, rfl, Hd.mk (Bld.nil (Upd.refl _ _) _ _), Hd.mk rfl, by simp⟩
      case round =>
        obtain ⟨j, W, hj0, rfl, HB, HF, hWj⟩ := hrel
        have HGJ := Hd.mk hj0
        clear hj0
        obtain ⟨xa, xc, rfl⟩ := HB.out.sl.form
        by_cases hj : j < ws.length
        · obtain ⟨b, off, cap, hv, -, -, hc⟩ := (HWS.out.upd HB.out.upd (by simp)).some (by omega)
          simp only [Value.slice.injEq, true_and] at hv
          obtain ⟨rfl, rfl⟩ := hv
          have k0 := hc j (by omega)
          unfold Ss at k0
          rw [List.getElem?_map, List.getElem?_eq_getElem hj] at k0
          have HTJ := Hd.mk (show ws.take (j + 1) = ws.take j ++ [ws[j]] from List.take_succ_eq_append_getElem hj)
          generalize ws[j] = y at k0 HTJ
          obtain ⟨yb, hy, hyx, hyz⟩ := S_ex y
          rw [Option.map_some, hy] at k0
          have HY := Hd.mk hyx
          clear hc hy hyx hyz
          by_cases he : yb = ⟨#[]⟩
          · have q := str_eq0 he
            have HFN := Hd.mk (show W = (ws.take (j + 1)).filter neB by rw [HTJ.out, List.filter_append, ← HF.out, ← HY.out, he]; simp [neB])
            clear he
            go_wp2_with fail
            go_roundg (gk - 1)
            case measure => have := HGJ.out; omega
            case rel => exact ⟨j + 1, W, by have := HGJ.out; omega, by go_num, HB, HFN, by omega⟩
          · have q := str_ne0 he
            have HFN := Hd.mk (show W ++ [y] = (ws.take (j + 1)).filter neB by
              rw [HTJ.out, List.filter_append, ← HF.out]
              have : neB y = true := by
                unfold neB
                cases hy : y with
                | nil => exact absurd (by rw [← mk_data yb, HY.out, hy]) he
                | cons a r => rfl
              simp [this])
            have hsl := HB.out.sl
            clear he
            go_wp2_with (at_builtin; refine wpList_append_row rfl (.tmp 27) (.tmp 29) 37 rfl rfl 9 (.string ⟨#[]⟩) 1 16 Tryd.underlying37 (by kernel_rfl) rfl _ _ _ rfl hsl [.string yb] rfl rfl rfl (by omega) (by omega) ?_)
            intro v5 w5 s5 u5 o5
            have HB := Hd.mk (HB.out.app s5 u5 o5)
            obtain ⟨a5, c5, rfl⟩ := s5.form
            clear s5 u5 o5 hsl
            go_wp2_with fail
            go_roundg (gk - 1)
            case measure => have := HGJ.out; omega
            case rel => exact ⟨j + 1, W ++ [y], by have := HGJ.out; omega, by go_num, Hd.mk (by
                have := HB.out
                rw [List.length_append, List.map_append, List.map_singleton, ← S_of HY.out]
                exact this), HFN, by simp; omega⟩
        · obtain rfl : j = ws.length := by have := HGJ.out; omega
          rw [List.take_length] at HF
          have hwl : wordsL x = W := by rw [HWL.out, HF.out]
          have HWL := Hd.mk hwl
          have HS := Hd.mk (HS.out.over HB.out.upd)
          clear hj hwl HF HGJ
          by_cases h0 : W.length = 0
          · have d0 : ((W.length : Int) == 0) = true := by rw [beq_iff_eq]; omega
            have HRN := Hd.mk (show rowsL (ls.take (k + 1)) = some L by
              rw [HTK.out, rowsL_snoc HR.out]
              have : W = [] := List.eq_nil_of_length_eq_zero h0
              rw [show rowL x = some [] by unfold rowL; rw [HWL.out, this]]
              simp)
            clear h0
            go_wp2_with fail
            go_roundg gq
            case measure => have := HG.out; omega
            case rel => exact ⟨k + 1, L, by have := HG.out; omega, by go_num, HS, HRN, by omega⟩
          have d0 : ((W.length : Int) == 0) = false := by rw [beq_eq_false_iff_ne]; omega
          by_cases h3 : W.length = 3
          · have d3 : ((W.length : Int) == 3) = true := by rw [beq_iff_eq]; omega
            obtain ⟨m, p, h, rfl⟩ : ∃ m p h, W = [m, p, h] := by
              match W, h3 with
              | [m, p, h], _ => exact ⟨m, p, h, rfl⟩
            have HRN := Hd.mk (show rowsL (ls.take (k + 1)) = some (L ++ [⟨m, p, h⟩]) by
              rw [HTK.out, rowsL_snoc HR.out]
              rw [show rowL x = some [⟨m, p, h⟩] by unfold rowL; rw [HWL.out]]
              simp)
            obtain ⟨b, off, cap, hv, -, -, hc⟩ := HB.out.sl.some (by simp)
            simp only [Value.slice.injEq, true_and] at hv
            obtain ⟨rfl, rfl⟩ := hv
            have k0 := hc 0 (by simp)
            have k1 := hc 1 (by simp)
            have k2 := hc 2 (by simp)
            simp only [List.map_cons, List.map_nil, List.getElem?_cons_zero, List.getElem?_cons_succ, Nat.add_zero] at k0 k1 k2
            obtain ⟨mb, hm, -, -⟩ := S_ex m
            obtain ⟨pb, hp, -, -⟩ := S_ex p
            obtain ⟨hb, hh, -, -⟩ := S_ex h
            have HCE := Hd.mk (show (⟨m, p, h⟩ : Rt).cells = [.string mb, .string pb, .string hb] by unfold Rt.cells; rw [hm, hp, hh])
            rw [hm] at k0
            rw [hp] at k1
            rw [hh] at k2
            simp only [List.length_cons, List.length_nil] at *
            clear hc hm hp hh h0 h3
            go_upto_region 16 with (fail)
            obtain ⟨w4, hw4⟩ : ∃ w4, wr.drew = w4 := ⟨_, rfl⟩
            have UD := (Upd.refl [] wr).drew
            rw [hw4] at UD
            have HS := Hd.mk (HS.out.over UD)
            have hsz : w4.heap.size = wr.heap.size := by rw [← hw4]; rfl
            refine wp_mk_tail (fun X => X = w4 ∨ X = w4.alloc (.cells #[.string mb, .string pb, .string hb] 43)) 11 12 _ (fun _ => by rw [hw4]) (by kernel_rfl) (by kernel_rfl) (by decide) rfl (by decide +kernel) (fun _ => ?_)
            have kk : ∀ (x : Cls (fun X => X = w4 ∨ X = w4.alloc (.cells #[.string mb, .string pb, .string hb] 43))) (a : Addr) (v : Value), wr.cell? a = some v → x.w.cell? a = some v := by
              rintro ⟨_, rfl | rfl⟩ a v h
              · exact (UD.cell (block_lt_of_cell h) (by simp)).trans h
              · exact ((UD.alloc _).cell (block_lt_of_cell h) (by simp)).trans h
            have x0 := fun x => kk x _ _ k0
            have x1 := fun x => kk x _ _ k1
            have x2 := fun x => kk x _ _ k2
            rw [hw4]
            clear hw4 UD kk k0 k1 k2
            simp only [List.take_succ_cons, List.take_zero, List.drop_succ_cons, List.drop_zero]
            repeat (go_big_quiet_step (fail))
            refine wpQuiet_nil ?_
            refine ⟨.slice (some ⟨w4.heap.size, 0, none⟩) 1 1, by go_simp, by go_simp, ?_⟩
            refine wpQuiet_nil ?_
            clear x0 x1 x2
            have hsl := HS.out.sl
            go_wp2_with (at_builtin; refine wpList_append_row rfl (.tmp 38) (.tmp 49) 30 rfl rfl 43 (.agg #[.string ⟨#[]⟩, .string ⟨#[]⟩, .string ⟨#[]⟩]) 3 48 Tryd.underlying30 (by kernel_rfl) rfl _ _ _ rfl hsl [.string mb, .string pb, .string hb] rfl rfl rfl (by omega) (by omega) ?_)
            intro v5 w5 s5 u5 o5
            rw [← hsz] at o5
            have HS := Hd.mk (HS.out.app s5 u5 o5)
            obtain ⟨a5, c5, rfl⟩ := s5.form
            clear s5 u5 o5 hsl
            go_wp2_with fail
            go_roundg gq
            case measure => have := HG.out; omega
            case rel => exact ⟨k + 1, L ++ [⟨m, p, h⟩], by have := HG.out; omega, by go_num, Hd.mk (by
                have := HS.out
                rw [List.length_append, List.flatMap_append, List.flatMap_singleton, HCE.out]
                exact this), HRN, by simp; omega⟩
          have d3 : ((W.length : Int) == 3) = false := by rw [beq_eq_false_iff_ne]; omega
          have HRN := Hd.mk (show R = (1, []) from HPE.out (by
            rw [HCUT.out]
            refine rowsL_bad ?_
            rw [rowsL_snoc HR.out]
            rw [show rowL x = none by
              unfold rowL
              rw [HWL.out]
              match W, h0, h3 with
              | [_], _, _ => rfl
              | [_, _], _, _ => rfl
              | _ :: _ :: _ :: _ :: _, _, _ => rfl]
            rfl))
          clear h0 h3
          go_wp2_with fail
          go_ret2
          rw [HRN.out]
          exact ⟨_, rfl, Sl.nil _ _ _, by simp [ownB], HU.out.trans HS.out.upd (by simp)⟩
    · obtain rfl : k = ls.length := by have := HG.out; omega
      rw [List.take_length] at HR
      have hps := HPL.out _ HR.out
      have HC := Hd.mk (fun W (h : Sl W 43 3 (.slice va L.length vc) L.length (L.flatMap Rt.cells)) (h2 : HTab W) => check_ok L (.slice va L.length vc) W h2 h (by have := HZ.out; omega) (fun r hr => by have := hps.2 r hr; have := HZ.out; omega))
      have HRR := Hd.mk (HPR.out _ HR.out)
      clear hk hps
      go_upto_region 18 with (fail)
      go_wp2_with fail
      refine (HC.out _ HS.out.sl ((HT.out.upd HU.out).upd HS.out.upd)).mono ?_
      rintro e w4 ⟨rfl, u4⟩
      have HS := Hd.mk (HS.out.over u4)
      have hs1 := HU.out.size
      have HU := Hd.mk (HU.out.trans HS.out.upd (by simp))
      clear u4
      by_cases h0 : chk L = 0
      · have HRR := Hd.mk (show R = (0, L) by rw [HRR.out, if_pos h0])
        rw [h0]
        clear h0
        go_wp2_with fail
        go_ret2
        rw [HRR.out]
        exact ⟨_, rfl, HS.out.sl, fun k hk => by have := HS.out.own k hk; omega, HU.out⟩
      · have HRR := Hd.mk (show R = (chk L, []) by rw [HRR.out, if_neg h0])
        have HNE := Hd.mk h0
        have d0 : (((chk L : Nat) : Int) != 0) = true := by simp; omega
        generalize chk L = ck at *
        clear h0
        go_wp2_with fail
        go_ret2
        rw [HRR.out]
        exact ⟨_, rfl, Sl.nil _ _ _, by simp [ownB], HU.out⟩
end Go.Proofs.YtaefooandfnloaaDoor
