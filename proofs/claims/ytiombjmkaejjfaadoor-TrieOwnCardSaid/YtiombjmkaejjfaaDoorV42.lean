/- Tries: the reference's stronger. -/
import Derived.Test.YtiombjmkaejjfaaDoorV40
namespace Go.Proofs.YtiombjmkaejjfaaDoor
set_option linter.unusedSimpArgs false
set_option linter.unusedVariables false
set_option linter.unnecessarySimpa false
open Go.RowKit BigFrame

set_option maxRecDepth 100000 in
set_option maxHeartbeats 8000000 in
theorem stronger_ok (P Q : List Bs) (pv qv : Value) (w : World) (hp : RdS w 1 pv P.length (P.map S)) (hq : RdS w 1 qv Q.length (Q.map S)) (hne : ∀ x ∈ P, x ≠ []) (hne2 : ∀ x ∈ Q, x ≠ []) (hz : P.length ≤ 1000 ∧ Q.length ≤ 1000) :
    Calls Tryd.prog 31 #[pv, qv] w fun e w' => e = .returned (.bool (strS (P.map absS) (Q.map absS))) ∧ Upd [] w w' := by
  obtain ⟨pa, pc, rfl⟩ := hp.form
  obtain ⟨qa, qc, rfl⟩ := hq.form
  have HP := Hd.mk hp
  have HQ := Hd.mk hq
  have HNE := Hd.mk (And.intro hne hne2)
  obtain ⟨hz1, hz2⟩ := hz
  obtain ⟨res, hres⟩ : ∃ b, strS (P.map absS) (Q.map absS) = b := ⟨_, rfl⟩
  rw [hres]
  clear hp hq hne hne2
  go_enter Tryd.func31, Tryd.ntmps31
  go_upto_region 2 with (fail)
  go_loopg [5] P.length (fun g s5 wr => ∃ i : Nat, g + i = P.length ∧ s5 = .int .i64 i ∧ i ≤ Q.length ∧ Hd (strS ((P.drop i).map absS) ((Q.drop i).map absS) = res) ∧ Hd (Upd [] w wr))
  case atStart => exact ⟨0, by omega, rfl, by omega, Hd.mk (by simpa using hres), Hd.mk (Upd.refl _ _)⟩
  case round =>
    obtain ⟨i, hg, rfl, hil, HI, HU⟩ := hrel
    have HG := Hd.mk hg
    clear hg hres
    by_cases hi : i < P.length
    · by_cases hil2 : i < Q.length
      rotate_left
      · have d1 : decide ((i : Int) < P.length) = true := decide_eq_true (by omega)
        have d0 : decide ((i : Int) < Q.length) = false := decide_eq_false (by omega)
        have HR := Hd.mk (show res = false by
          rw [← HI.out, List.drop_eq_getElem_cons hi, (show Q.drop i = [] from List.drop_eq_nil_of_le (by omega))]
          rfl)
        go_wp2_with fail
        go_ret
        exact ⟨rb HR.out.symm, HU.out⟩
      have d1 : decide ((i : Int) < P.length) = true := decide_eq_true (by omega)
      have d0 : decide ((i : Int) < Q.length) = true := decide_eq_true (by omega)
      obtain ⟨pb, po, rfl, s, k0, hs⟩ := rds_at (HP.out.upd HU.out (by simp)) i hi
      obtain ⟨qb, qo, rfl, t, k1, ht⟩ := rds_at (HQ.out.upd HU.out (by simp)) i hil2
      obtain ⟨e1, e2⟩ := has_step (List.getElem?_eq_getElem hi) (List.getElem?_eq_getElem hil2)
      have HE := HI.out
      rw [e1, e2, List.map_cons, List.map_cons, ← hs, ← ht] at HE
      have hsz : 0 < s.size := by
        have h1 := HNE.out.1 _ (List.getElem_mem hi)
        rw [← hs] at h1
        have := List.length_pos_iff.2 h1
        rwa [Array.length_toList] at this
      have htz : 0 < t.size := by
        have h1 := HNE.out.2 _ (List.getElem_mem hil2)
        rw [← ht] at h1
        have := List.length_pos_iff.2 h1
        rwa [Array.length_toList] at this
      have HE := Hd.mk (show (if kindL s.data.toList ≠ kindL t.data.toList then decide (kindL s.data.toList < kindL t.data.toList) else strS ((P.drop (i + 1)).map absS) ((Q.drop (i + 1)).map absS)) = res by
        rw [← kd_abs, ← kd_abs]
        exact HE)
      have HK1 := Hd.mk (fun W => rkind_ok s W hsz)
      have HK2 := Hd.mk (fun W => rkind_ok t W htz)
      have ha := kindL_le s.data.toList
      have hb := kindL_le t.data.toList
      clear e1 e2 hs ht
      generalize kindL s.data.toList = ka at HE HK1 ha
      generalize kindL t.data.toList = kb at HE HK2 hb
      go_upto_region 4 with (fail)
      by_cases hk : ka = kb
      · have d2 : ((ka : Int) == kb) = true := by rw [beq_iff_eq]; omega
        have HR := Hd.mk (show strS ((P.drop (i + 1)).map absS) ((Q.drop (i + 1)).map absS) = res by
          rw [← HE.out, if_neg (by simp [hk])])
        refine wp_region_quiet_lit (by kernel_rfl) (by kernel_rfl) ?_
        repeat (go_big_quiet_step ((go_at_call 32; first | exact Calls.quiet_of_same (HK1.out _) | exact Calls.quiet_of_same (HK2.out _))))
        refine wpQuiet_nil ?_
        (intro _ hw'; obtain ⟨nq, hw''⟩ := hw'; subst hw'')
        go_wp2_with fail
        go_roundg (gk - 1)
        case measure => have := HG.out; omega
        case rel => exact ⟨i + 1, by have := HG.out; omega, by go_num, by omega, HR, Hd.mk (HU.out.trans ((Upd.refl [] _).drewN _) (by simp))⟩
      · have d2 : ((ka : Int) == kb) = false := by rw [beq_eq_false_iff_ne]; omega
        have HR := Hd.mk (show res = decide (ka < kb) by rw [← HE.out, if_pos hk])
        refine wp_region_quiet_lit (by kernel_rfl) (by kernel_rfl) ?_
        repeat (go_big_quiet_step ((go_at_call 32; first | exact Calls.quiet_of_same (HK1.out _) | exact Calls.quiet_of_same (HK2.out _))))
        refine wpQuiet_nil ?_
        (intro _ hw'; obtain ⟨nq, hw''⟩ := hw'; subst hw'')
        go_upto_region 5 with (fail)
        generalize hw5 : wr.drewN nq = w5
        have u5 : Upd [] wr w5 := by rw [← hw5]; exact (Upd.refl [] _).drewN _
        have k0' := (u5.cell (p := ⟨pb, po + i, none⟩) (by have := (HP.out.upd HU.out (by simp)).lt (by omega) pb (by simp [ownB]); exact this) (by simp)).trans k0
        have k1' := (u5.cell (p := ⟨qb, qo + i, none⟩) (by have := (HQ.out.upd HU.out (by simp)).lt (by omega) qb (by simp [ownB]); exact this) (by simp)).trans k1
        have HU5 := Hd.mk (HU.out.trans u5 (by simp))
        clear k0 k1 hw5 u5 HE HI HP HQ HNE hsz htz
        refine wp_region_quiet_lit (by kernel_rfl) (by kernel_rfl) ?_
        repeat (go_big_quiet_step ((go_at_call 32; first | exact Calls.quiet_of_same (HK1.out _) | exact Calls.quiet_of_same (HK2.out _))))
        refine wpQuiet_nil ?_
        (intro _ hw'; obtain ⟨n2, hw''⟩ := hw'; subst hw'')
        go_wp2_with fail
        go_ret
        exact ⟨rb HR.out.symm, HU5.out.trans ((Upd.refl [] _).drewN _) (by simp)⟩
    · obtain rfl : i = P.length := by have := HG.out; omega
      have HR := Hd.mk (show res = false by
        rw [← HI.out, List.drop_length]
        rfl)
      clear hi
      go_wp2_with fail
      go_ret
      exact ⟨rb HR.out.symm, HU.out⟩
end Go.Proofs.YtiombjmkaejjfaaDoor
