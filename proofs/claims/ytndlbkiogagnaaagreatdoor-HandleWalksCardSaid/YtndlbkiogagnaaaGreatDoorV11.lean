/- Tries: a step by a word. -/
import Derived.Test.YtndlbkiogagnaaaGreatDoorV10
namespace Go.Proofs.YtndlbkiogagnaaaGreatDoor
set_option linter.unusedSimpArgs false
set_option linter.unusedVariables false
set_option linter.unnecessarySimpa false
open Go.RowKit BigFrame

/-- Behind i edges that do not lead on by s, tl is left. -/
def Sn (s : Bs) : Nat → E → E → Prop
  | 0, es, tl => es = tl
  | i + 1, .cons t _ r, tl => cp t s ≠ t.length ∧ Sn s i r tl
  | _ + 1, .nil, _ => False
theorem Sn.succ {s : Bs} : ∀ {i : Nat} {es : E} {t : Bs} {d : T} {tl : E}, Sn s i es (.cons t d tl) → cp t s ≠ t.length → Sn s (i + 1) es tl
  | 0, es, t, d, tl, h, h0 => by simp only [Sn] at h; subst h; exact ⟨h0, rfl⟩
  | i + 1, .nil, _, _, _, h, _ => h.elim
  | i + 1, .cons t' d' r, t, d, tl, h, h0 => ⟨h.1, Sn.succ h.2 h0⟩
theorem Sn.len {s : Bs} : ∀ {i : Nat} {es tl : E}, Sn s i es tl → es.len = i + tl.len
  | 0, es, tl, h => by simp only [Sn] at h; subst h; omega
  | i + 1, .nil, _, h => h.elim
  | i + 1, .cons t' d' r, tl, h => by simp only [E.len]; rw [Sn.len h.2]; omega
theorem Sn.ok {s : Bs} : ∀ {i : Nat} {es tl : E}, Sn s i es tl → OkE es → OkE tl
  | 0, es, tl, h, ho => by simp only [Sn] at h; subst h; exact ho
  | i + 1, .nil, _, h, _ => h.elim
  | i + 1, .cons t' d' r, tl, h, ho => by simp only [OkE] at ho; exact Sn.ok h.2 ho.2.2.2
theorem Sn.at {s : Bs} {w : World} {X : Nat → Prop} : ∀ {i : Nat} {es : E} {t : Bs} {d : T} {tl : E} {cs : List Value}, Sn s i es (.cons t d tl) → EdV w X es cs → cs[i * 2]? = some (S t) ∧ ∃ p, cs[i * 2 + 1]? = some p ∧ NdV w X d p
  | 0, es, t, d, tl, cs, h, he => by
    simp only [Sn] at h
    subst h
    simp only [EdV] at he
    obtain ⟨p, r, rfl, hp, _⟩ := he
    exact ⟨rfl, p, rfl, hp⟩
  | i + 1, .nil, _, _, _, _, h, _ => h.elim
  | i + 1, .cons t' d' r, t, d, tl, cs, h, he => by
    simp only [EdV] at he
    obtain ⟨p, q, rfl, _, hr⟩ := he
    have := Sn.at h.2 hr
    rw [show (i + 1) * 2 = i * 2 + 1 + 1 by omega]
    simpa using this
theorem Sn.step {s : Bs} : ∀ {i : Nat} {es tl : E}, Sn s i es tl → stepE es s = stepE tl s
  | 0, es, tl, h => by simp only [Sn] at h; subst h; rfl
  | i + 1, .nil, _, h => h.elim
  | i + 1, .cons t' d' r, tl, h => by rw [stepE, if_neg h.1, Sn.step h.2]
theorem Sn.uniq {s : Bs} : ∀ {i j : Nat} {es : E} {t t' : Bs} {d d' : T} {tl tl' : E}, Sn s i es (.cons t d tl) → cp t s = t.length → Sn s j es (.cons t' d' tl') → cp t' s = t'.length → i = j
  | 0, 0, _, _, _, _, _, _, _, _, _, _, _ => rfl
  | 0, j + 1, es, t, t', d, d', tl, tl', h, h0, h', _ => by
    simp only [Sn] at h
    subst h
    exact absurd h0 h'.1
  | i + 1, 0, es, t, t', d, d', tl, tl', h, _, h', h0 => by
    simp only [Sn] at h'
    subst h'
    exact absurd h0 h.1
  | i + 1, j + 1, .nil, _, _, _, _, _, _, h, _, _, _ => h.elim
  | i + 1, j + 1, .cons _ _ r, _, _, _, _, _, _, h, h0, h', h1 => by rw [Sn.uniq h.2 h0 h'.2 h1]
theorem edge_first (s : Bs) : ∀ (es : E), (∃ i t d tl, Sn s i es (.cons t d tl) ∧ cp t s = t.length) ∨ Sn s es.len es .nil
  | .nil => .inr rfl
  | .cons t d tl => by
    by_cases h : cp t s = t.length
    · exact .inl ⟨0, t, d, tl, rfl, h⟩
    · rcases edge_first s tl with ⟨i, t', d', tl', h1, h2⟩ | h1
      · exact .inl ⟨i + 1, t', d', tl', ⟨h, h1⟩, h2⟩
      · exact .inr ⟨h, h1⟩
theorem Sn.none {s : Bs} : ∀ {i : Nat} {es : E} {t : Bs} {d : T} {tl : E}, Sn s i es (.cons t d tl) → Sn s es.len es .nil → cp t s ≠ t.length
  | 0, es, t, d, tl, h, h' => by
    simp only [Sn] at h
    subst h
    exact h'.1
  | i + 1, .nil, _, _, _, h, _ => h.elim
  | i + 1, .cons _ _ r, _, _, _, h, h' => Sn.none h.2 h'.2
/-- What step does. -/
def StepC (w : World) (v : Value) (s : Bs) (v' : Value) : Prop := ∀ W, Upd [] w W → Calls Tryz.prog 87 #[v, S s] W fun e w' => e = .returned v' ∧ Upd [] W w'
theorem step_none (n : T) (X : Nat → Prop) (v : Value) (w : World) (hne : n ≠ .nil) (hn : NdV w X n v) : ∃ v', NdV w X (step n []) v' ∧ StepC w v [] v' := by
  cases n with
  | nil => exact absurd rfl hne
  | node es nx pa re en =>
    simp only [NdV] at hn
    obtain ⟨b, ev, nv, pv, rv, sv, k, cs, rfl, hb, -, hes, -, hed, hnx, -, -, -, -⟩ := hn
    rw [step_empty]
    refine ⟨nv, hnx, fun W hW => ?_⟩
    have c1 := (hW.blk hb (by simp)).cell 1
    simp only [List.getElem?_cons_zero, List.getElem?_cons_succ] at c1
    clear hb hes hed hnx hW
    unfold S
    go_enter Tryz.func87, Tryz.ntmps87
    go_wp2_with fail
    go_ret
    exact ⟨rfl, Upd.refl _ _⟩
set_option maxRecDepth 100000 in
set_option maxHeartbeats 2000000 in
theorem step_ok : ∀ (q : Nat) (s : Bs) (n : T) (X : Nat → Prop) (v : Value) (w : World), s.length ≤ q → q ≤ 4503599627370496 → n ≠ .nil → Ok n → NdV w X n v → ∃ v', NdV w X (step n s) v' ∧ StepC w v s v' := by
  intro q
  induction q with
  | zero =>
    intro s n X v w hs hq hne ho hn
    obtain rfl : s = [] := List.eq_nil_of_length_eq_zero (by omega)
    exact step_none n X v w hne hn
  | succ q ih =>
    intro s n X v w hs hq hne ho hn
    by_cases h0 : s = []
    · subst h0; exact step_none n X v w hne hn
    cases n with
    | nil => exact absurd rfl hne
    | node es nx pa re en =>
      simp only [NdV] at hn
      obtain ⟨b, ev, nv, pv, rv, sv, k, cs, rfl, hb, -, hes, -, hed, hnx, -, -, -, -⟩ := hn
      simp only [Ok] at ho
      have hk : k = es.len := by have h1 := hes.1; have h2 := hed.length; omega
      have hk2 : k ≤ 257 := by have := ho.1.len; omega
      rw [step_es (n := .node es nx pa re en) (s := s) h0]
      obtain ⟨v', hv', hfound⟩ : ∃ v', NdV w X (stepE es s) v' ∧ (∀ i t d tl p, Sn s i es (.cons t d tl) → cp t s = t.length → cs[i * 2 + 1]? = some p → StepC w p (s.drop t.length) v') ∧ (Sn s es.len es .nil → v' = .pointer none) := by
        rcases edge_first s es with ⟨i, t, d, tl, h1, h2⟩ | h1
        · obtain ⟨hct, p, hcp, hd⟩ := h1.at hed
          have hok := h1.ok ho.1
          simp only [OkE] at hok
          have htl : t.length ≠ 0 := fun e => hok.1 (List.eq_nil_of_length_eq_zero e)
          have hle := cp_le t s
          obtain ⟨v', hv', hc⟩ := ih (s.drop t.length) d X p w (by rw [List.length_drop]; omega) (by omega) hok.2.2.1.2 hok.2.2.1.1 hd
          refine ⟨v', by rw [h1.step, stepE, if_pos h2]; exact hv', fun j t' d' tl' p' h3 h4 h5 => ?_, fun h => absurd h2 (h1.none h)⟩
          obtain rfl := Sn.uniq h1 h2 h3 h4
          obtain ⟨hct', p2, hcp', _⟩ := h3.at hed
          rw [hct] at hct'
          rw [hcp] at h5
          have et : t = t' := by
            have := Option.some.inj hct'
            unfold S at this
            simpa using this
          rw [← et, ← Option.some.inj h5]
          exact hc
        · exact ⟨.pointer none, by rw [h1.step, stepE]; simp [NdV], fun i t d tl p h2 h3 => absurd h3 (h2.none h1), fun _ => rfl⟩
      refine ⟨v', hv', fun W hW => ?_⟩
      have HF := Hd.mk hfound
      have HS := Hd.mk h0
      have HED := Hd.mk hed
      have HK := Hd.mk hk
      have hes := hes.upd hW (by simp)
      have hb := hW.blk hb (by simp)
      obtain ⟨ea, ec, rfl⟩ := hes.form
      have HES := Hd.mk hes
      have HW0 := Hd.mk hW
      have c0 := hb.cell 0
      simp only [List.getElem?_cons_zero] at c0
      have hemp := str_ne0 (a := ⟨s.toArray⟩) (fun e => h0 (by have := congrArg (fun t : ByteArray => t.data.toList) e; simpa using this))
      unfold S
      obtain ⟨sb, hsb⟩ : ∃ sb : ByteArray, (⟨s.toArray⟩ : ByteArray) = sb := ⟨_, rfl⟩
      have hsz : sb.size = s.length := by rw [← hsb]; show s.toArray.size = _; simp
      have HSB := Hd.mk (show sb.data.toList = s by rw [← hsb])
      rw [hsb] at hemp ⊢
      have HSZ := Hd.mk hsz
      have hsz2 : sb.size ≤ q + 1 := by omega
      clear hsb h0 hsz hs hfound hed hk hes hb hW hnx hv' ih ho hne
      go_enter Tryz.func87, Tryz.ntmps87
      go_upto_region 4 with (fail)
      clear c0
      go_loopg [6, 18] k (fun g s6 ii wr => ∃ (i : Nat) (tl : E), g + i = k ∧ ii = .int .i64 i ∧ Hd (Sn s i es tl ∧ Upd [] W wr))
      case atStart => exact ⟨0, es, by omega, rfl, Hd.mk ⟨rfl, Upd.refl _ _⟩⟩
      case round =>
        obtain ⟨i, tl, hg, rfl, HL⟩ := hrel
        have HG := Hd.mk hg
        clear hg
        cases tl with
        | nil =>
          have hie : i = es.len := by have := HL.out.1.len; simp only [E.len] at this; omega
          have hvn := HF.out.2 (by have := HL.out.1; rwa [hie] at this)
          obtain rfl : i = k := by have := HK.out; omega
          subst hvn
          clear hie HF
          go_wp2_with fail
          go_ret
          exact ⟨rfl, HL.out.2⟩
        | cons t d tl =>
          have hik : i < k := by have := HL.out.1.len; have := HK.out; simp only [E.len] at *; omega
          obtain ⟨hct, p, hcp, hd⟩ := HL.out.1.at HED.out
          obtain ⟨p, rfl⟩ := hd.form
          obtain ⟨eb, eo, ec', hev, _, _, hcell⟩ := (HES.out.upd HL.out.2 (by simp)).some (by omega)
          simp only [Value.slice.injEq] at hev
          obtain ⟨rfl, _, rfl⟩ := hev
          have e0 := (hcell (i * 2) (by omega)).trans hct
          have e1 := (hcell (i * 2 + 1) (by omega)).trans hcp
          rw [← Nat.add_assoc] at e1
          obtain ⟨tb, htb⟩ : ∃ tb : ByteArray, (⟨t.toArray⟩ : ByteArray) = tb := ⟨_, rfl⟩
          unfold S at e0
          rw [htb] at e0
          have HTB := Hd.mk (show tb.data.toList = t by rw [← htb])
          have HCP := Hd.mk hcp
          clear htb hct hcp hd hcell
          go_upto_region 6 with (fail)
          refine wp_abs (fun W' => Blk W' wr.heap.size [.string tb, .pointer p] 201 ∧ Upd [] W W') ⟨Blk.new wr [.string tb, .pointer p] _ _ rfl, HL.out.2.alloc _⟩ ?_
          clear e0 e1
          generalize wr.heap.size = y
          rintro w2 ⟨b2, u2⟩
          have HB := Hd.mk (And.intro b2 u2)
          clear b2 u2
          obtain ⟨R, hR⟩ : ∃ R : World → Prop, R = fun W' => Blk W' y [.string tb, .pointer p] 201 ∧ Upd [] W W' := ⟨_, rfl⟩
          have hRW : ∀ W', R W' → Blk W' y [.string tb, .pointer p] 201 ∧ Upd [] W W' := fun W' h => by rw [hR] at h; exact h
          have hR0 : R w2.drew := by rw [hR]; exact ⟨HB.out.1, HB.out.2.drew⟩
          have d0 : ∀ z : Cls R, z.w.cell? ⟨y, 0, none⟩ = some (.string tb) := fun z => (hRW _ z.ok).1.cell 0
          obtain ⟨c, hc⟩ : ∃ c, cp t s = c := ⟨_, rfl⟩
          have HC := Hd.mk hc
          have HCM := Hd.mk (show ∀ z : Cls R, Calls Tryz.prog 123 #[.string tb, .string sb] z.w fun e w'' => e = .returned (.int .i64 c) ∧ ∃ y : Cls R, w'' = y.w from fun z => Calls.cls (common_ok tb sb z.w (by omega)) (fun e w' h => ⟨h.1.trans (by rw [HTB.out, HSB.out, hc]), by rw [hR]; exact ⟨h.2.blk (hRW _ z.ok).1 (by simp), (hRW _ z.ok).2.trans h.2 (by simp)⟩⟩))
          have HRW := Hd.mk hRW
          have htl : tb.size = t.length := by rw [← HTB.out]; simp
          have HTL := Hd.mk htl
          clear hc hRW hR HB htl
          by_cases h1 : c = tb.size
          · have d1 : ((c : Int) == (tb.size : Int)) = true := by rw [beq_iff_eq]; omega
            have hcs : tb.size ≤ sb.size := by have := (cp_le t s).2; have := HC.out; have := HSZ.out; omega
            have HH1 := Hd.mk h1
            clear h1
            refine wp_region_cls R hR0 (by kernel_rfl) (by kernel_rfl) (fun _ => ?_)
            repeat (go_big_quiet_step ((go_at_call 123; rename_i z; with_reducible exact HCM.out z)))
            refine wpQuiet_nil ?_
            intro _ hw'
            obtain ⟨nq, hw''⟩ := hw'
            subst hw''
            have HB := Hd.mk (HRW.out _ nq.ok)
            generalize nq.w = w3 at HB ⊢
            have b3 := HB.out.1
            clear d0 HCM HRW hR0
            have e0 := b3.cell 0
            have e1 := b3.cell 1
            simp only [List.getElem?_cons_zero, List.getElem?_cons_succ] at e0 e1
            clear b3
            have HEX := Hd.mk (show Value.string (sb.extract tb.size sb.size) = S (s.drop t.length) from S_of (by rw [ext_list, HSB.out, HTL.out, List.take_of_length_le (by rw [List.length_drop]; have := HSZ.out; omega)]))
            go_upto_region 7 with (fail)
            refine wp_quiet_tail 7 (by kernel_rfl) (by kernel_rfl) ?_
            simp only [List.take_succ_cons, List.take_zero, List.drop_succ_cons, List.drop_zero]
            repeat (go_big_quiet_step (fail))
            refine wpQuiet_nil ?_
            (intro _ hw'; obtain ⟨nq, hw''⟩ := hw'; subst hw'')
            go_wp2_with fail
            rw [HEX.out]
            refine (HF.out.1 i t d tl (.pointer p) HL.out.1 (by rw [HC.out, HH1.out, HTL.out]) HCP.out (w3.drewN nq) (HW0.out.trans (HB.out.2.drewN nq) (by simp))).mono ?_
            rintro e w4 ⟨rfl, u4⟩
            have HU := Hd.mk ((HB.out.2.drewN nq).trans u4 (by simp))
            clear u4
            go_wp2_with fail
            go_ret
            exact ⟨rfl, HU.out⟩
          · have d1 : ((c : Int) == (tb.size : Int)) = false := by rw [beq_eq_false_iff_ne]; omega
            have HSN := Hd.mk (HL.out.1.succ (by rw [HC.out, ← HTL.out]; exact h1))
            clear h1
            refine wp_region_cls R hR0 (by kernel_rfl) (by kernel_rfl) (fun _ => ?_)
            repeat (go_big_quiet_step ((go_at_call 123; rename_i z; with_reducible exact HCM.out z)))
            refine wpQuiet_nil ?_
            intro _ hw'
            obtain ⟨nq, hw''⟩ := hw'
            subst hw''
            have HB := Hd.mk (HRW.out _ nq.ok)
            generalize nq.w = w3 at HB ⊢
            clear d0 HCM HRW hR0
            go_wp2_with fail
            go_roundg (gk - 1)
            case measure => have := HG.out; omega
            case rel => exact ⟨i + 1, tl, by have := HG.out; omega, by go_num, Hd.mk ⟨HSN.out, HB.out.2⟩⟩
end Go.Proofs.YtndlbkiogagnaaaGreatDoor
