/- Tries: going over what ends at a path. -/
import Derived.Test.YtndlbkiogagnaaaGreatDoorV11
import Derived.Test.YtndlbkiogagnaaaGreatDoorRdS
namespace Go.Proofs.YtndlbkiogagnaaaGreatDoor
set_option linter.unusedSimpArgs false
set_option linter.unusedVariables false
set_option linter.unnecessarySimpa false
open Go.RowKit BigFrame

def byM (mth : Bs) (r : Rt) : Bool := decide (r.m = mth)
/-- What going over some routes leaves: none is of the method; or the first one that is. -/
def FQ (mth : Bs) (St : List Rt → World → Prop) (Fn : Rt → World → Prop) (D F : List Rt) (e : Ending) (w' : World) : Prop :=
  (F.find? (byM mth) = none ∧ e = .returned (.bool true) ∧ St (D ++ F) w') ∨ ∃ r, F.find? (byM mth) = some r ∧ e = .returned (.bool false) ∧ Fn r w'
/-- A function value that goes over routes. -/
structure YC (w0 : World) (g : Nat) (caps : Array Value) (G : Rt → Prop) (mth : Bs) (St : List Rt → World → Prop) (Fn : Rt → World → Prop) : Prop where
  ent : ∀ (args : Array Value) (W : World), (callFunc g args).run Tryz.prog W = .ok (.enter g args) W
  upd : ∀ D W, St D W → Upd [] w0 W
  up : ∀ D W W', St D W → Upd [] W W' → St D W'
  upF : ∀ r W W', Fn r W → Upd [] W W' → Fn r W'
  run : ∀ D W en sv, St D W → Sl w0 90 3 sv en.length (en.flatMap Rt.cells) → (∀ r ∈ en, G r) → D.length + en.length ≤ 900000 → Calls Tryz.prog g (#[sv] ++ caps) W (FQ mth St Fn D en)
theorem FQ.app {mth : Bs} {St : List Rt → World → Prop} {Fn : Rt → World → Prop} {D F G : List Rt} {e : Ending} {w' : World} (hF : F.find? (byM mth) = none) (h : FQ mth St Fn (D ++ F) G e w') : FQ mth St Fn D (F ++ G) e w' := by
  rcases h with ⟨h1, h2, h3⟩ | ⟨r, h1, h2, h3⟩
  · exact .inl ⟨by rw [List.find?_append, hF, h1]; rfl, h2, by rw [← List.append_assoc]; exact h3⟩
  · exact .inr ⟨r, by rw [List.find?_append, hF, h1]; rfl, h2, h3⟩
theorem FQ.stop {mth : Bs} {St : List Rt → World → Prop} {Fn : Rt → World → Prop} {D F : List Rt} (G : List Rt) {r : Rt} {w' : World} (hF : F.find? (byM mth) = some r) (h : Fn r w') : FQ mth St Fn D (F ++ G) (.returned (.bool false)) w' :=
  .inr ⟨r, by rw [List.find?_append, hF]; rfl, rfl, h⟩
def restV : T → List (List Rt)
  | .nil => []
  | .node _ _ _ _ en => [en]
theorem visit_cons (n : T) (s : Bs) (l : List Bs) : visit n (s :: l) = (if s = [] then [] else visit (step n s) l ++ visit n.pa l) ++ restV n.re := by
  rw [visit]
  cases n.re <;> rfl
theorem FQ.none {mth : Bs} {St : List Rt → World → Prop} {Fn : Rt → World → Prop} {D F : List Rt} {w' : World} (hF : F.find? (byM mth) = none) (h : St (D ++ F) w') : FQ mth St Fn D F (.returned (.bool true)) w' := .inl ⟨hF, rfl, h⟩
set_option maxRecDepth 100000 in
set_option maxHeartbeats 4000000 in
theorem find_ok (w0 : World) (g : Nat) (caps : Array Value) (G : Rt → Prop) (mth : Bs) (St : List Rt → World → Prop) (Fn : Rt → World → Prop) (hy : YC w0 g caps G mth St Fn) : ∀ (l : List Bs) (n : T) (v lv : Value) (D : List Rt) (w : World), l.length ≤ 4503599627370496 → (∀ x ∈ l, x.length ≤ 4503599627370496) → NdV w0 (fun _ => False) n v → Ok n → RdS w0 1 lv l.length (l.map S) → (∀ en ∈ visit n l, ∀ r ∈ en, G r) → D.length + (visit n l).flatten.length ≤ 900000 → St D w →
    Calls Tryz.prog 54 #[v, lv, .func (.func g) #[] caps] w (FQ mth St Fn D (visit n l).flatten) := by
  have HY := Hd.mk hy
  clear hy
  intro l
  induction l with
  | nil =>
    intro n v lv D w hl hx hn ho hs hr hb9 hst
    have HB9 := Hd.mk hb9
    clear hb9
    obtain ⟨la, lc, rfl⟩ := hs.form
    have hent := HY.out.ent
    cases n with
    | nil =>
      simp only [NdV] at hn
      subst hn
      have HST := Hd.mk hst
      clear hst hs hr ho hx
      go_enter Tryz.func54, Tryz.ntmps54
      go_wp2_with fail
      go_ret
      exact .inl ⟨rfl, rfl, by rw [visit_nil]; simpa using HST.out⟩
    | node es nx pa re en =>
      simp only [NdV] at hn
      obtain ⟨b, ev, nv, pv, rv, sv, k, cs, rfl, hb, -, -, -, -, -, -, -, hsv, -⟩ := hn
      obtain ⟨sa, sc, rfl⟩ := hsv.form
      have c4 := ((HY.out.upd _ _ hst).blk hb (by simp)).cell 4
      simp only [List.getElem?_cons_zero, List.getElem?_cons_succ] at c4
      have HST := Hd.mk hst
      have HSV := Hd.mk hsv
      have HR := Hd.mk hr
      clear hst hs hr ho hx hb hsv
      simp only [List.length_nil]
      by_cases he : en = []
      · subst he
        simp only [List.length_nil] at c4
        go_enter Tryz.func54, Tryz.ntmps54
        go_wp2_with fail
        go_ret
        exact .inl ⟨rfl, rfl, by simpa [visit, T.en] using HST.out⟩
      · have d0 : ((en.length : Int) == 0) = false := by rw [beq_eq_false_iff_ne]; intro e; exact he (List.eq_nil_of_length_eq_zero (by omega))
        have HE := Hd.mk (show (visit (.node es nx pa re en) []).flatten = en by simp [visit, T.en, he])
        have HR := Hd.mk (show ∀ r ∈ en, G r from fun r hr => HR.out en (by simp [visit, T.en, he]) r hr)
        clear he
        go_enter Tryz.func54, Tryz.ntmps54
        go_wp2_with fail
        refine (HY.out.run D w en _ HST.out HSV.out HR.out (by have := HB9.out; rw [HE.out] at this; exact this)).mono ?_
        rintro e w2 h
        have HQ := Hd.mk h
        clear h
        rcases HQ.out with ⟨-, rfl, -⟩ | ⟨r, -, rfl, -⟩
        · go_wp2_with fail
          go_ret
          rw [HE.out]
          exact HQ.out
        · go_wp2_with fail
          go_ret
          rw [HE.out]
          exact HQ.out
  | cons x l ih =>
    intro n v lv D w hl hx hn ho hs hr hb9 hst
    have HB9 := Hd.mk hb9
    clear hb9
    have hent := HY.out.ent
    cases n with
    | nil =>
      obtain ⟨la, lc, rfl⟩ := hs.form
      simp only [NdV] at hn
      subst hn
      have HST := Hd.mk hst
      clear hst hs hr ho hx ih
      go_enter Tryz.func54, Tryz.ntmps54
      go_wp2_with fail
      go_ret
      rw [visit_nil]
      exact .inl ⟨rfl, rfl, by simpa using HST.out⟩
    | node es nx pa re en =>
      have HN := Hd.mk hn
      have HO := Hd.mk ho
      simp only [NdV] at hn
      simp only [Ok] at ho
      obtain ⟨b, ev, nv, pv, rv, sv, k, cs, rfl, hb, -, -, -, -, -, hpa, hre, -, -⟩ := hn
      obtain ⟨pv, rfl⟩ := hpa.form
      obtain ⟨rv, rfl⟩ := hre.form
      have HND := Hd.mk (And.intro hb (And.intro hpa (And.intro hre (And.intro ho.2.2.1 trivial))))
      simp only [List.length_cons] at hs hl ⊢
      obtain ⟨lv', hrun, hsl⟩ := run_from_rs (P := Tryz.prog) 22 9 1 Tryz.underlying22 (by kernel_rfl) w0 lv (l.length + 1) _ hs 1 (by omega) (by omega) (by omega)
      simp only [Nat.add_sub_cancel, Nat.mul_one, List.map_cons, List.drop_succ_cons, List.drop_zero] at hsl
      rw [show ((1 : Nat) : Int) = 1 from rfl] at hrun
      obtain ⟨xb, xo, lc, rfl, -, -, hxc⟩ := hs.some (by omega)
      obtain ⟨la', lc', rfl⟩ := hsl.form
      have x0 := hxc 0 (by omega)
      simp only [List.map_cons, List.getElem?_cons_zero, Nat.add_zero] at x0
      have hlt := hs.lt (by omega) xb (by simp [ownB])
      have HX0 := Hd.mk (show ∀ W, Upd [] w0 W → W.cell? ⟨xb, xo, none⟩ = some (S x) from fun W hW => (hW.cell (p := ⟨xb, xo, none⟩) hlt (by simp)).trans x0)
      have HSL := Hd.mk hsl
      have HST := Hd.mk hst
      have HSTU := Hd.mk (HY.out.upd _ _ hst)
      have HR := Hd.mk hr
      have HI := Hd.mk ih
      have HXZ := Hd.mk hx
      have hln : ((l.length : Int) + 1 == 0) = false := by rw [beq_eq_false_iff_ne]; omega
      have hb' := HSTU.out.blk hb (by simp)
      have c2 := hb'.cell 2
      have c3 := hb'.cell 3
      simp only [List.getElem?_cons_zero, List.getElem?_cons_succ] at c2 c3
      have x0 := HX0.out w HSTU.out
      clear hb hpa hre ho hs hsl hxc hlt hst hr ih hx hb'
      by_cases hxe : x = []
      · subst hxe
        have HV := Hd.mk (show (visit (.node es nx pa re en) ([] :: l)).flatten = [] ++ (restV (T.node es nx pa re en).re).flatten by rw [visit_cons, if_pos rfl, List.nil_append, List.nil_append])
        have HF1 := Hd.mk (show ([] : List Rt).find? (byM mth) = none from rfl)
        rw [S_nil] at x0
        go_enter Tryz.func54, Tryz.ntmps54
        go_upto_region 5 with (fail)
        refine wp_region_quiet_lit (by kernel_rfl) (by kernel_rfl) ?_
        repeat (go_big_quiet_step (fail))
        refine wpQuiet_nil ?_
        (intro _ hw'; obtain ⟨na, hw''⟩ := hw'; subst hw'')
        go_upto_region 7 with (fail)
        refine wp_region_quiet_lit (by kernel_rfl) (by kernel_rfl) ?_
        repeat (go_big_quiet_step (fail))
        refine wpQuiet_nil ?_
        (intro _ hw'; obtain ⟨nb, hw''⟩ := hw'; subst hw'')
        go_upto_region 9 with (fail)
        have HST2 := Hd.mk (show St (D ++ []) (w.drewN (na + nb)) by rw [List.append_nil]; exact HY.out.up _ _ _ HST.out ((Upd.refl _ _).drewN (na + nb)))
        have HSTU2 := Hd.mk (HY.out.upd _ _ HST2.out)
        cases re with
        | nil =>
          have hrv0 : rv = none := by have := HND.out.2.2.1; simp only [NdV, Value.pointer.injEq] at this; exact this
          subst hrv0
          go_wp2_with fail
          go_ret
          rw [HV.out]
          refine FQ.none (by simpa [restV, T.re] using HF1.out) (by simpa [restV, T.re] using HST2.out)
        | node es2 nx2 pa2 re2 en2 =>
          have hre := HND.out.2.2.1
          simp only [NdV] at hre
          obtain ⟨rb, _, _, _, _, rsv, _, _, hrv, hrb, -, -, -, -, -, -, -, hrs, -⟩ := hre
          simp only [Value.pointer.injEq] at hrv
          subst hrv
          obtain ⟨ra, rc, rfl⟩ := hrs.form
          have r4 := (HSTU.out.blk hrb (by simp)).cell 4
          simp only [List.getElem?_cons_zero, List.getElem?_cons_succ] at r4
          have HRS := Hd.mk hrs
          have HRG := Hd.mk (show ∀ r ∈ en2, G r from fun r hr => HR.out en2 (by rw [visit_cons]; simp [restV, T.re]) r hr)
          clear hrb hrs
          go_wp2_with fail
          refine (HY.out.run _ _ en2 _ HST2.out HRS.out HRG.out (by have := HB9.out; rw [HV.out] at this; simp only [List.length_append, restV, T.re, List.flatten_cons, List.flatten_nil, List.append_nil, List.length_nil, Nat.zero_add] at this ⊢; omega)).mono ?_
          rintro e w9 h
          have HQ := Hd.mk h
          clear h
          rcases HQ.out with ⟨-, rfl, -⟩ | ⟨r, -, rfl, -⟩
          · go_wp2_with fail
            go_ret
            rw [HV.out]
            have h5 := FQ.app HF1.out HQ.out
            simpa [restV, T.re] using h5
          · go_wp2_with fail
            go_ret
            rw [HV.out]
            have h5 := FQ.app HF1.out HQ.out
            simpa [restV, T.re] using h5
      · have HXE := Hd.mk hxe
        have HV := Hd.mk (show (visit (.node es nx pa re en) (x :: l)).flatten = ((visit (step (.node es nx pa re en) x) l).flatten ++ (visit pa l).flatten) ++ (restV (T.node es nx pa re en).re).flatten by rw [visit_cons, if_neg hxe, List.flatten_append, List.flatten_append]; rfl)
        have HRA := Hd.mk (show (∀ en ∈ visit (step (.node es nx pa re en) x) l, ∀ r ∈ en, G r) ∧ (∀ en ∈ visit pa l, ∀ r ∈ en, G r) from ⟨fun e he r hr => HR.out e (by rw [visit_cons, if_neg hxe]; simp only [List.mem_append]; exact .inl (.inl he)) r hr, fun e he r hr => HR.out e (by rw [visit_cons, if_neg hxe]; simp only [List.mem_append]; exact .inl (.inr he)) r hr⟩)
        obtain ⟨sv', hsn, hsc⟩ := step_ok 4503599627370496 x (.node es nx pa re en) (fun _ => False) (.pointer (some ⟨b, 0, none⟩)) w0 (HXZ.out x (by simp)) (Nat.le_refl _) (by simp) HO.out HN.out
        have HSN := Hd.mk hsn
        have HSO := Hd.mk (HO.out.step x)
        obtain ⟨xs, hxs⟩ : ∃ xs : ByteArray, (⟨x.toArray⟩ : ByteArray) = xs := ⟨_, rfl⟩
        have hemp : xs.toList.isEmpty = false := str_ne0 (fun e => hxe (by rw [← hxs] at e; have := congrArg (fun t : ByteArray => t.data.toList) e; simpa using this))
        have HX1 := Hd.mk (show ∀ W, Upd [] w0 W → W.cell? ⟨xb, xo, none⟩ = some (.string xs) from fun W hW => (HX0.out W hW).trans (by unfold S; rw [hxs]))
        have HSC := Hd.mk (show ∀ W, Upd [] w0 W → Calls Tryz.prog 87 #[.pointer (some ⟨b, 0, none⟩), .string xs] W fun e w' => e = .returned sv' ∧ Upd [] W w' from fun W hW => by have := hsc W hW; unfold S at this; rw [hxs] at this; exact this)
        obtain ⟨sp, rfl⟩ := hsn.form
        obtain ⟨R, hR⟩ : ∃ R : World → Prop, R = fun W => St D W := ⟨_, rfl⟩
        have hRW : ∀ W, R W → St D W := fun W h => by rw [hR] at h; exact h
        have hR0 : R w.drew := by rw [hR]; exact HY.out.up _ _ _ HST.out (Upd.refl [] w).drew
        have z0 : ∀ z : Cls R, z.w.cell? ⟨xb, xo, none⟩ = some (.string xs) := fun z => HX1.out _ (HY.out.upd _ _ (hRW _ z.ok))
        have HCL := Hd.mk (show ∀ z : Cls R, Calls Tryz.prog 87 #[.pointer (some ⟨b, 0, none⟩), .string xs] z.w fun e w'' => e = .returned (.pointer sp) ∧ ∃ y : Cls R, w'' = y.w from fun z => Calls.cls (HSC.out z.w (HY.out.upd _ _ (hRW _ z.ok))) (fun e w' h => ⟨h.1, by rw [hR]; exact HY.out.up _ _ _ (hRW _ z.ok) h.2⟩))
        have HRW := Hd.mk hRW
        clear hxe hsn hsc hxs hRW hR x0 c2 c3
        go_enter Tryz.func54, Tryz.ntmps54
        go_upto_region 5 with (fail)
        refine wp_cls_tail R 13 hR0 (by kernel_rfl) (by kernel_rfl) (fun _ => ?_)
        simp only [List.take_succ_cons, List.take_zero, List.drop_succ_cons, List.drop_zero]
        repeat (go_big_quiet_step ((go_at_call 87; rename_i z; with_reducible exact HCL.out z)))
        refine wpQuiet_nil ?_
        intro _ hw'
        obtain ⟨nq, hw''⟩ := hw'
        subst hw''
        have HST1 := Hd.mk (HRW.out _ nq.ok)
        generalize nq.w = w1 at HST1 ⊢
        clear HCL HRW hR0 z0
        go_wp2_with fail
        refine (HI.out (step (.node es nx pa re en) x) (.pointer sp) _ D w1 (by omega) (fun y hy => HXZ.out y (by simp [hy])) HSN.out HSO.out HSL.out HRA.out.1 (by have := HB9.out; rw [HV.out] at this; simp only [List.length_append] at this; omega) HST1.out).mono ?_
        rintro e w2 h
        have HQ1 := Hd.mk h
        clear h
        rcases HQ1.out with ⟨h1, rfl, h2⟩ | ⟨r, h1, rfl, h2⟩
        · have HF0 := Hd.mk h1
          have HST1 := Hd.mk h2
          have HSU1 := Hd.mk (HY.out.upd _ _ h2)
          have hb1 := HSU1.out.blk HND.out.1 (by simp)
          have c2 := hb1.cell 2
          have x0 := HX1.out w2 HSU1.out
          simp only [List.getElem?_cons_zero, List.getElem?_cons_succ] at c2
          clear h1 h2 hb1
          go_upto_region 7 with (fail)
          refine wp_quiet_tail 12 (by kernel_rfl) (by kernel_rfl) ?_
          simp only [List.take_succ_cons, List.take_zero, List.drop_succ_cons, List.drop_zero]
          repeat (go_big_quiet_step (fail))
          refine wpQuiet_nil ?_
          (intro _ hw'; obtain ⟨nb, hw''⟩ := hw'; subst hw'')
          go_wp2_with fail
          refine (HI.out pa (.pointer pv) _ _ (w2.drewN nb) (by omega) (fun y hy => HXZ.out y (by simp [hy])) HND.out.2.1 HND.out.2.2.2.1 HSL.out HRA.out.2 (by have := HB9.out; rw [HV.out] at this; simp only [List.length_append] at this ⊢; omega) (HY.out.up _ _ _ HST1.out ((Upd.refl _ _).drewN nb))).mono ?_
          rintro e w3 h
          have HQ2 := Hd.mk (FQ.app HF0.out h)
          clear c2 x0
          rcases h with ⟨h1, rfl, h2⟩ | ⟨r, h1, rfl, h2⟩
          · have HF1 := Hd.mk (show ((visit (step (.node es nx pa re en) x) l).flatten ++ (visit pa l).flatten).find? (byM mth) = none by rw [List.find?_append, HF0.out, h1]; rfl)
            have HST2 := Hd.mk (show St (D ++ ((visit (step (.node es nx pa re en) x) l).flatten ++ (visit pa l).flatten)) w3 by rw [← List.append_assoc]; exact h2)
            have HSTU2 := Hd.mk (HY.out.upd _ _ h2)
            have c3 := (HSTU2.out.blk HND.out.1 (by simp)).cell 3
            simp only [List.getElem?_cons_zero, List.getElem?_cons_succ] at c3
            clear h1 h2
            go_upto_region 9 with (fail)
            cases re with
            | nil =>
              have hrv0 : rv = none := by have := HND.out.2.2.1; simp only [NdV, Value.pointer.injEq] at this; exact this
              subst hrv0
              go_wp2_with fail
              go_ret
              rw [HV.out]
              refine FQ.none (by simpa [restV, T.re] using HF1.out) (by simpa [restV, T.re] using HST2.out)
            | node es2 nx2 pa2 re2 en2 =>
              have hre := HND.out.2.2.1
              simp only [NdV] at hre
              obtain ⟨rb, _, _, _, _, rsv, _, _, hrv, hrb, -, -, -, -, -, -, -, hrs, -⟩ := hre
              simp only [Value.pointer.injEq] at hrv
              subst hrv
              obtain ⟨ra, rc, rfl⟩ := hrs.form
              have r4 := (HSTU2.out.blk hrb (by simp)).cell 4
              simp only [List.getElem?_cons_zero, List.getElem?_cons_succ] at r4
              have HRS := Hd.mk hrs
              have HRG := Hd.mk (show ∀ r ∈ en2, G r from fun r hr => HR.out en2 (by rw [visit_cons]; simp [restV, T.re]) r hr)
              clear hrb hrs
              go_wp2_with fail
              refine (HY.out.run _ _ en2 _ HST2.out HRS.out HRG.out (by have := HB9.out; rw [HV.out] at this; simp only [List.length_append, restV, T.re, List.flatten_cons, List.flatten_nil, List.append_nil, List.length_nil, Nat.zero_add] at this ⊢; omega)).mono ?_
              rintro e w9 h
              have HQ := Hd.mk h
              clear h
              rcases HQ.out with ⟨-, rfl, -⟩ | ⟨r, -, rfl, -⟩
              · go_wp2_with fail
                go_ret
                rw [HV.out]
                have h5 := FQ.app HF1.out HQ.out
                simpa [restV, T.re] using h5
              · go_wp2_with fail
                go_ret
                rw [HV.out]
                have h5 := FQ.app HF1.out HQ.out
                simpa [restV, T.re] using h5
          · have HF2 := Hd.mk (FQ.stop (Fn := Fn) (St := St) (D := D) (w' := w3) (restV (T.node es nx pa re en).re).flatten (show ((visit (step (.node es nx pa re en) x) l).flatten ++ (visit pa l).flatten).find? (byM mth) = some r by rw [List.find?_append, HF0.out, h1]; rfl) h2)
            clear h1 h2
            go_wp2_with fail
            go_ret
            rw [HV.out]
            exact HF2.out
        · have HF2 := Hd.mk (FQ.stop (Fn := Fn) (St := St) (D := D) (w' := w2) ((visit pa l).flatten ++ (restV (T.node es nx pa re en).re).flatten) h1 h2)
          clear h1 h2
          go_wp2_with fail
          go_ret
          rw [HV.out, List.append_assoc]
          exact HF2.out
end Go.Proofs.YtndlbkiogagnaaaGreatDoor
