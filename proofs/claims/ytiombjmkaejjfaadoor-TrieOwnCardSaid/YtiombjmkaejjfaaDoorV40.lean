/- Tries: the reference's cut, kind, has. -/
import Derived.Test.YtiombjmkaejjfaaDoorV38
namespace Go.Proofs.YtiombjmkaejjfaaDoor
set_option linter.unusedSimpArgs false
set_option linter.unusedVariables false
set_option linter.unnecessarySimpa false
open Go.RowKit BigFrame

theorem splitL_snoc (c : UInt8) : ∀ (a : Bs) (x : UInt8) (o : List Bs) (s : Bs), splitL c a = o ++ [s] → splitL c (a ++ [x]) = if x = c then o ++ [s] ++ [[]] else o ++ [s ++ [x]]
  | [], x, o, s, h => by
    have h : o ++ [s] = [] ++ [[]] := by rw [← h]; rfl
    obtain ⟨rfl, h2⟩ := List.append_inj' h rfl
    rw [List.cons.injEq] at h2
    obtain ⟨rfl, -⟩ := h2
    rw [List.nil_append, splitL_cons]
    by_cases e : x = c
    · rw [if_pos e, if_pos e]; rfl
    · rw [if_neg e, if_neg e]; rfl
  | y :: a, x, o, s, h => by
    obtain ⟨o', s', ho⟩ : ∃ o' s', splitL c a = o' ++ [s'] := ⟨(splitL c a).dropLast, (splitL c a).getLast (splitL_ne c a), (List.dropLast_concat_getLast _).symm⟩
    have ih := splitL_snoc c a x o' s' ho
    rw [List.cons_append, splitL_cons, ih]
    rw [splitL_cons, ho] at h
    by_cases e : y = c
    · rw [if_pos e] at h ⊢
      obtain ⟨rfl, h2⟩ := List.append_inj' (show o ++ [s] = ([] :: o') ++ [s'] from h.symm) rfl
      rw [List.cons.injEq] at h2
      obtain ⟨rfl, -⟩ := h2
      split <;> rfl
    · rw [if_neg e] at h ⊢
      cases o' with
      | nil =>
        obtain ⟨rfl, h2⟩ := List.append_inj' (show o ++ [s] = [] ++ [y :: s'] by rw [← h]; rfl) rfl
        rw [List.cons.injEq] at h2
        obtain ⟨rfl, -⟩ := h2
        split <;> rfl
      | cons hd t =>
        obtain ⟨rfl, h2⟩ := List.append_inj' (show o ++ [s] = ((y :: hd) :: t) ++ [s'] by rw [← h]; rfl) rfl
        rw [List.cons.injEq] at h2
        obtain ⟨rfl, -⟩ := h2
        split <;> rfl
theorem kd_abs (x : Bs) : kdS (absS x) = kindL x := by
  unfold absS
  have := kindL_le x
  split
  · rename_i h; rw [h]; rfl
  · split
    · rename_i h; rw [h]; rfl
    · rename_i h1 h2
      show 2 = _
      omega
theorem byte_at2 (s : ByteArray) (i : Nat) (h : i < s.size) (h' : i < s.data.toList.length) : s[i] = s.data.toList[i] := rfl
theorem kind_l2 (l : Bs) (h : 0 < l.length) : kindL l = if l[0] = 58 then 1 else if l[0] = 42 then 2 else 0 := by
  cases l with
  | nil => cases h
  | cons c r => rfl
theorem kind_c2 {s : ByteArray} (hz : 0 < s.size) : kindL s.data.toList = if s[0] = 58 then 1 else if s[0] = 42 then 2 else 0 := kind_l2 _ (by rw [Array.length_toList]; exact hz)
theorem rkind_ok (s : ByteArray) (w : World) (hz : 0 < s.size) : Calls Tryd.prog 32 #[.string s] w fun e w' => e = .returned (.int .i64 (kindL s.data.toList)) ∧ w' = w := by
  have HK := Hd.mk (kind_c2 hz)
  obtain ⟨c, hc⟩ : ∃ c, s[0] = c := ⟨_, rfl⟩
  rw [hc] at HK
  rw [HK.out]
  by_cases c1 : c = 58
  · have q1 : ((c.toNat : Int) == 58) = true := by rw [c1]; rfl
    have q3 : (c.toNat : Int) = 58 := by rw [c1]; rfl
    rw [if_pos c1]
    go_enter Tryd.func32, Tryd.ntmps32
    go_wp2_with fail
    go_ret
    exact ⟨rfl, rfl⟩
  have q1 : ((c.toNat : Int) == 58) = false := by rw [beq_eq_false_iff_ne]; exact fun e => c1 (UInt8.toNat_inj.1 (show c.toNat = 58 by omega))
  have q3 : ¬ (c.toNat : Int) = 58 := by simpa using q1
  rw [if_neg c1]
  by_cases c2 : c = 42
  · have q2 : ((c.toNat : Int) == 42) = true := by rw [c2]; rfl
    have q4 : (c.toNat : Int) = 42 := by rw [c2]; rfl
    rw [if_pos c2]
    clear c1
    go_enter Tryd.func32, Tryd.ntmps32
    go_wp2_with fail
    go_ret
    exact ⟨rfl, rfl⟩
  have q2 : ((c.toNat : Int) == 42) = false := by rw [beq_eq_false_iff_ne]; exact fun e => c2 (UInt8.toNat_inj.1 (show c.toNat = 42 by omega))
  have q4 : ¬ (c.toNat : Int) = 42 := by simpa using q2
  rw [if_neg c2]
  clear c1 c2
  go_enter Tryd.func32, Tryd.ntmps32
  go_wp2_with fail
  go_ret
  exact ⟨rfl, rfl⟩
set_option maxRecDepth 100000 in
set_option maxHeartbeats 2000000 in
theorem cut_ok (p : ByteArray) (r : Bs) (w : World) (hp : p.data.toList = 47 :: r) (hz : p.size ≤ 1000) :
    Calls Tryd.prog 29 #[.string p] w fun e w' => ∃ v, e = .returned v ∧ Bld w w' 9 1 v (segsL (47 :: r)).length ((segsL (47 :: r)).map S) := by
  have hpz : p.size = r.length + 1 := by
    have := congrArg List.length hp
    simpa using this
  by_cases hr : r = []
  · subst hr
    have y := lit_yes hp
    go_enter Tryd.func29, Tryd.ntmps29
    go_wp2_with fail
    go_ret
    exact ⟨_, rfl, Bld.nil (Upd.refl _ _) _ _⟩
  have y := lit_no (l := [47]) (fun e => hr (by rw [hp] at e; simpa using e))
  have HSG := Hd.mk (show segsL (47 :: r) = splitL 47 r by unfold segsL; rw [if_neg (by simpa using hr)]; rfl)
  have HP := Hd.mk hp
  have HPZ := Hd.mk hpz
  clear hp hr hpz
  go_enter Tryd.func29, Tryd.ntmps29
  go_upto_region 6 with (fail)
  go_loopg [3, 4, 5] (p.size + 1) (fun g s3 s4 s5 wr => ∃ (i from_ : Nat) (o : List Bs), g + i = p.size + 2 ∧ s5 = .int .i64 i ∧ s4 = .int .i64 from_ ∧ 1 ≤ i ∧ Hd (Bld w wr 9 1 s3 o.length (o.map S)) ∧ o.length ≤ i ∧
    Hd (if i ≤ p.size then 1 ≤ from_ ∧ from_ ≤ i ∧ splitL 47 (r.take (i - 1)) = o ++ [(p.data.toList.drop from_).take (i - from_)] else o = splitL 47 r))
  case atStart => exact ⟨1, 1, [], by omega, rfl, rfl, by omega, Hd.mk (Bld.nil (Upd.refl _ _) _ _), by simp, Hd.mk (by rw [if_pos (by have := HPZ.out; omega)]; exact ⟨by omega, by omega, by simp [splitL]⟩)⟩
  case round =>
    obtain ⟨i, fr, o, hg, rfl, rfl, hi1, HS, ho, HI⟩ := hrel
    have HG := Hd.mk hg
    clear hg
    obtain ⟨va, vc, rfl⟩ := HS.out.sl.form
    by_cases hi : i ≤ p.size
    · have hI := HI.out
      rw [if_pos hi] at hI
      obtain ⟨hf1, hf2, h3⟩ := hI
      have HI2 := Hd.mk h3
      have HEX := Hd.mk (ext_list p fr i)
      clear h3 HI
      have hsl := HS.out.sl
      by_cases hl : i = p.size
      · have d0 : ((i : Int) == p.size) = true := by rw [beq_iff_eq]; omega
        have HLQ := Hd.mk hl
        clear hl
        go_wp2_with (at_builtin; refine wpList_append_row rfl (.tmp 25) (.tmp 30) 23 rfl rfl 9 (.string ⟨#[]⟩) 1 16 Tryd.underlying23 (by kernel_rfl) rfl _ _ _ rfl hsl [.string (p.extract fr i)] rfl rfl rfl (by omega) (by omega) ?_)
        intro v5 w5 s5 u5 o5
        have HS := Hd.mk (HS.out.app s5 u5 o5)
        obtain ⟨a5, c5, rfl⟩ := s5.form
        clear s5 u5 o5 hsl
        go_wp2_with fail
        go_roundg (gk - 1)
        case measure => have := HG.out; omega
        case rel => exact ⟨i + 1, i + 1, o ++ [(p.extract fr i).data.toList], by have := HG.out; omega, by go_num, by go_num, by omega, Hd.mk (by
            have := HS.out
            rw [List.length_append, List.map_append, List.map_singleton, ← S_of rfl]
            exact this), by simp; omega, Hd.mk (by
            rw [if_neg (by have := HLQ.out; omega), HEX.out, ← HI2.out, List.take_of_length_le (by have := HPZ.out; have := HLQ.out; omega)])⟩
      · have d0 : ((i : Int) == p.size) = false := by rw [beq_eq_false_iff_ne]; omega
        have hi2 : i < p.size := by omega
        have h' : i < p.data.toList.length := by rw [Array.length_toList]; exact hi2
        obtain ⟨c, hc⟩ : ∃ c, p[i] = c := ⟨_, rfl⟩
        have hri : i - 1 < r.length := by have := HPZ.out; omega
        have HC := Hd.mk (show r[i - 1]? = some c by
          have h1 : p.data.toList[i]? = some c := by rw [List.getElem?_eq_getElem h', ← byte_at2 p i hi2 h', hc]
          rw [HP.out] at h1
          rw [show i = (i - 1) + 1 by omega, List.getElem?_cons_succ] at h1
          exact h1)
        have HTK := Hd.mk (show r.take (i + 1 - 1) = r.take (i - 1) ++ [c] by
          rw [show i + 1 - 1 = (i - 1) + 1 by omega, List.take_add_one, HC.out]
          rfl)
        have HSN := Hd.mk (splitL_snoc 47 (r.take (i - 1)) c _ _ HI2.out)
        by_cases c1 : c = 47
        · have q1 : ((c.toNat : Int) == 47) = true := by rw [c1]; rfl
          have q3 : (c.toNat : Int) = 47 := by rw [c1]; rfl
          rw [if_pos c1] at HSN
          clear c1
          go_wp2_with (at_builtin; refine wpList_append_row rfl (.tmp 25) (.tmp 30) 23 rfl rfl 9 (.string ⟨#[]⟩) 1 16 Tryd.underlying23 (by kernel_rfl) rfl _ _ _ rfl hsl [.string (p.extract fr i)] rfl rfl rfl (by omega) (by omega) ?_)
          intro v5 w5 s5 u5 o5
          have HS := Hd.mk (HS.out.app s5 u5 o5)
          obtain ⟨a5, c5, rfl⟩ := s5.form
          clear s5 u5 o5 hsl
          go_wp2_with fail
          go_roundg (gk - 1)
          case measure => have := HG.out; omega
          case rel => exact ⟨i + 1, i + 1, o ++ [(p.extract fr i).data.toList], by have := HG.out; omega, by go_num, by go_num, by omega, Hd.mk (by
              have := HS.out
              rw [List.length_append, List.map_append, List.map_singleton, ← S_of rfl]
              exact this), by simp; omega, Hd.mk (by
              rw [if_pos (by omega), HTK.out, HSN.out, HEX.out]
              refine ⟨by omega, by omega, ?_⟩
              simp)⟩
        · have q1 : ((c.toNat : Int) == 47) = false := by rw [beq_eq_false_iff_ne]; exact fun e => c1 (UInt8.toNat_inj.1 (show c.toNat = 47 by omega))
          have q3 : ¬ (c.toNat : Int) = 47 := by simpa using q1
          rw [if_neg c1] at HSN
          clear c1 hsl
          go_wp2_with fail
          go_roundg (gk - 1)
          case measure => have := HG.out; omega
          case rel => exact ⟨i + 1, fr, o, by have := HG.out; omega, by go_num, rfl, by omega, HS, by omega, Hd.mk (by
              rw [if_pos (by omega), HTK.out, HSN.out]
              refine ⟨hf1, by omega, ?_⟩
              rw [show i + 1 - fr = (i - fr) + 1 by omega, List.take_add_one]
              have h5 : (p.data.toList.drop fr)[i - fr]? = some c := by
                rw [List.getElem?_drop, show fr + (i - fr) = i by omega, List.getElem?_eq_getElem h', ← byte_at2 p i hi2 h', hc]
              rw [h5]
              rfl)⟩
    · have hI := HI.out
      rw [if_neg hi] at hI
      have HI2 := Hd.mk hI
      clear hI HI
      go_wp2_with fail
      go_ret
      exact ⟨_, rfl, by rw [HSG.out, ← HI2.out]; exact HS.out⟩
end Go.Proofs.YtiombjmkaejjfaaDoor
namespace Go.Proofs.YtiombjmkaejjfaaDoor
set_option linter.unusedSimpArgs false
set_option linter.unusedVariables false
set_option linter.unnecessarySimpa false
open Go.RowKit BigFrame

theorem has_step {P l : List Bs} {i : Nat} {x y : Bs} (hP : P[i]? = some x) (hl : l[i]? = some y) : P.drop i = x :: P.drop (i + 1) ∧ l.drop i = y :: l.drop (i + 1) := by
  obtain ⟨h1, h2⟩ := List.getElem?_eq_some_iff.1 hP
  obtain ⟨h3, h4⟩ := List.getElem?_eq_some_iff.1 hl
  exact ⟨by rw [List.drop_eq_getElem_cons h1, h2], by rw [List.drop_eq_getElem_cons h3, h4]⟩
theorem nm_drop : ∀ (P : List Sg) (i : Nat), Nm P → Nm (P.drop i)
  | [], i, h => by simp [Nm]
  | x :: P, 0, h => h
  | x :: P, i + 1, h => by
    rw [List.drop_succ_cons]
    cases x with
    | word s => exact nm_drop P i h
    | any => exact nm_drop P i h
    | all =>
      have : P = [] := h
      subst this
      simp [Nm]
theorem rds_at {w : World} {a : Option Addr} {c : Nat} {L : List Bs} (h : RdS w 1 (.slice a L.length c) L.length (L.map S)) (i : Nat) (hi : i < L.length) : ∃ b o, a = some ⟨b, o, none⟩ ∧ ∃ s : ByteArray, w.cell? ⟨b, o + i, none⟩ = some (.string s) ∧ s.data.toList = L[i] := by
  obtain ⟨b, o, c', hv, -, -, hc⟩ := h.some (by omega)
  simp only [Value.slice.injEq, true_and] at hv
  have k0 := hc i (by omega)
  rw [List.getElem?_map, List.getElem?_eq_getElem hi] at k0
  obtain ⟨s, hs, hsx, -⟩ := S_ex L[i]
  exact ⟨b, o, hv.1, s, by rw [k0, Option.map_some, hs], hsx⟩
set_option maxRecDepth 100000 in
set_option maxHeartbeats 2000000 in
theorem has_ok (P l : List Bs) (pv lv : Value) (w : World) (hp : RdS w 1 pv P.length (P.map S)) (hl : RdS w 1 lv l.length (l.map S)) (hne : ∀ x ∈ P, x ≠ []) (hnm : Nm (P.map absS)) (hz : P.length ≤ 1000 ∧ l.length ≤ 1000) :
    Calls Tryd.prog 30 #[pv, lv] w fun e w' => e = .returned (.bool (hasS (P.map absS) l)) ∧ Upd [] w w' := by
  obtain ⟨pa, pc, rfl⟩ := hp.form
  obtain ⟨la, lc, rfl⟩ := hl.form
  have HP := Hd.mk hp
  have HL := Hd.mk hl
  have HNE := Hd.mk hne
  have HNM := Hd.mk hnm
  obtain ⟨hz1, hz2⟩ := hz
  obtain ⟨res, hres⟩ : ∃ b, hasS (P.map absS) l = b := ⟨_, rfl⟩
  rw [hres]
  clear hp hl hne hnm
  go_enter Tryd.func30, Tryd.ntmps30
  go_upto_region 2 with (fail)
  go_loopg [5, 6] P.length (fun g s5 s6 wr => ∃ i : Nat, g + i = P.length ∧ s5 = .int .i64 i ∧ i ≤ l.length ∧ Hd (hasS ((P.drop i).map absS) (l.drop i) = res) ∧ Hd (Upd [] w wr))
  case atStart => exact ⟨0, by omega, rfl, by omega, Hd.mk (by simpa using hres), Hd.mk (Upd.refl _ _)⟩
  case round =>
    obtain ⟨i, hg, rfl, hil, HI, HU⟩ := hrel
    have HG := Hd.mk hg
    clear hg hres
    by_cases hi : i < P.length
    · by_cases hil2 : i < l.length
      rotate_left
      · have d0 : decide ((l.length : Int) ≤ i) = true := decide_eq_true (by omega)
        have HR := Hd.mk (show res = false by
          rw [← HI.out, List.drop_eq_getElem_cons hi, (show l.drop i = [] from List.drop_eq_nil_of_le (by omega))]
          rw [List.map_cons]
          cases absS P[i] <;> rfl)
        go_wp2_with fail
        go_ret
        exact ⟨rb HR.out.symm, HU.out⟩
      have d0 : decide ((l.length : Int) ≤ i) = false := decide_eq_false (by omega)
      obtain ⟨pb, po, rfl, s, k0, hs⟩ := rds_at (HP.out.upd HU.out (by simp)) i hi
      obtain ⟨lb, lo, rfl, t, k1, ht⟩ := rds_at (HL.out.upd HU.out (by simp)) i hil2
      obtain ⟨e1, e2⟩ := has_step (List.getElem?_eq_getElem hi) (List.getElem?_eq_getElem hil2)
      have HE := HI.out
      rw [e1, e2, List.map_cons] at HE
      have HN2 := nm_drop _ i HNM.out
      rw [← List.map_drop, e1, List.map_cons] at HN2
      have hsz : 0 < s.size := by
        have h1 := HNE.out _ (List.getElem_mem hi)
        rw [← hs] at h1
        have := List.length_pos_iff.2 h1
        rwa [Array.length_toList] at this
      rw [← hs, ← ht] at HE
      rw [← hs] at HN2
      have HE := Hd.mk HE
      have HN2 := Hd.mk HN2
      have hk2 := kindL_le s.data.toList
      clear e1 e2 hs ht
      go_wp2_with fail
      refine (rkind_ok s wr hsz).mono ?_
      rintro e w3 ⟨rfl, hw⟩
      subst hw
      obtain ⟨kk, hkk⟩ : ∃ k, kindL s.data.toList = k := ⟨_, rfl⟩
      rw [hkk] at hk2 ⊢
      have HKK := Hd.mk hkk
      clear hkk
      by_cases k2 : kk = 2
      · subst k2
        have HR := Hd.mk (show res = true by
          rw [← HE.out]
          have h1 := HN2.out
          rw [abs2 (by rw [HKK.out]; decide) (by rw [HKK.out]; decide)] at h1 ⊢
          have h2 : (P.drop (i + 1)).map absS = [] := h1
          rw [h2]
          rfl)
        go_wp2_with fail
        go_ret
        exact ⟨rb HR.out.symm, HU.out⟩
      have d2 : ((kk : Int) == 2) = false := by rw [beq_eq_false_iff_ne]; omega
      by_cases k0' : kk = 0
      · subst k0'
        have HW := Hd.mk (show (decide (t.data.toList ≠ [] ∧ s.data.toList = t.data.toList) && hasS ((P.drop (i + 1)).map absS) (l.drop (i + 1))) = res by
          have h1 := HE.out
          rw [abs0 HKK.out] at h1
          exact h1)
        have HSN := Hd.mk (show s.data.toList ≠ [] from fun e => by
          have := congrArg List.length e
          rw [Array.length_toList] at this
          have h2 : s.data.size = 0 := by simpa using this
          have h3 : 0 < s.data.size := hsz
          omega)
        by_cases hst : s = t
        · have y := str_yes hst
          have HR := Hd.mk (show hasS ((P.drop (i + 1)).map absS) (l.drop (i + 1)) = res by
            rw [← HW.out, ← hst]
            simp [HSN.out])
          clear hst d0 HW HE
          go_upto_region 9 with (fail)
          go_region
          all_goals
            go_wp2_with fail
            go_roundg (gk - 1)
            case measure => have := HG.out; omega
            case rel => exact ⟨i + 1, by have := HG.out; omega, by go_num, by omega, HR, Hd.mk (HU.out.trans ((Upd.refl [] _).drew) (by simp))⟩
        · have y := str_no hst
          have HR := Hd.mk (show res = false by
            rw [← HW.out]
            have : ¬ s.data.toList = t.data.toList := fun e => hst (toList_inj e)
            simp [this])
          clear hst d0 HW HE
          go_upto_region 9 with (fail)
          go_region
          all_goals
            go_wp2_with fail
            go_ret
            exact ⟨rb HR.out.symm, HU.out.trans ((Upd.refl [] _).drew) (by simp)⟩
      · obtain rfl : kk = 1 := by omega
        have HW := Hd.mk (show (decide (t.data.toList ≠ []) && hasS ((P.drop (i + 1)).map absS) (l.drop (i + 1))) = res by
          have h1 := HE.out
          rw [abs1 (by rw [HKK.out]; decide) HKK.out] at h1
          exact h1)
        by_cases ht0 : t = ⟨#[]⟩
        · have y := str_eq0 ht0
          have HR := Hd.mk (show res = false by rw [← HW.out, ht0]; simp)
          clear ht0 d0 HW HE
          go_upto_region 9 with (fail)
          go_region
          all_goals
            go_wp2_with fail
            go_ret
            exact ⟨rb HR.out.symm, HU.out.trans ((Upd.refl [] _).drew) (by simp)⟩
        · have y := str_ne0 ht0
          have HR := Hd.mk (show hasS ((P.drop (i + 1)).map absS) (l.drop (i + 1)) = res by
            rw [← HW.out]
            have : ¬ t.data.toList = [] := fun e => ht0 (by rw [← mk_data t, e])
            simp [this])
          clear ht0 d0 HW HE
          go_upto_region 9 with (fail)
          go_region
          all_goals
            go_wp2_with fail
            go_roundg (gk - 1)
            case measure => have := HG.out; omega
            case rel => exact ⟨i + 1, by have := HG.out; omega, by go_num, by omega, HR, Hd.mk (HU.out.trans ((Upd.refl [] _).drew) (by simp))⟩
    · obtain rfl : i = P.length := by have := HG.out; omega
      have HR := Hd.mk (show res = ((P.length : Int) == l.length) by
        rw [← HI.out, List.drop_length, List.map_nil, Bool.eq_iff_iff, beq_iff_eq]
        by_cases h : P.length = l.length
        · rw [List.drop_eq_nil_of_le (by omega)]
          simp [hasS, h]
        · obtain ⟨y, hy⟩ : ∃ y, l[P.length]? = some y := ⟨_, List.getElem?_eq_getElem (by omega)⟩
          obtain ⟨h3, h4⟩ := List.getElem?_eq_some_iff.1 hy
          rw [List.drop_eq_getElem_cons h3]
          simp [hasS]
          omega)
      clear hi
      go_wp2_with fail
      go_ret
      exact ⟨rb HR.out.symm, HU.out⟩
end Go.Proofs.YtiombjmkaejjfaaDoor
