/- Tries: a word leads on. -/
import Derived.Test.YtndlbkiogagnaaaGreatDoorV5
import Derived.Deep.RegionLaw
namespace Go.Proofs.YtndlbkiogagnaaaGreatDoor
set_option linter.unusedSimpArgs false
set_option linter.unusedVariables false
set_option linter.unnecessarySimpa false
open Go.RowKit BigFrame

set_option maxRecDepth 100000 in
set_option maxHeartbeats 4000000 in
theorem word_none (g : Nat) (caps : Array Value) (N : Nat) (f : T → T) (X : Nat → Prop) (n : T) (v : Value) (w : World) (hX : ∀ k, X k → k < w.heap.size) (hn : NdV w X n v) (ho : Ok n) (hb : Bd N n.nx) (ht : Then w g caps N f) :
    Calls Tryz.prog 154 #[v, .string ⟨#[]⟩, .func (.func g) #[] caps] w (NdQ w X (wordT n [] f)) := by
  have HT := Hd.mk ht
  have HN := Hd.mk hn
  have HO := Hd.mk ho
  have HB := Hd.mk hb
  have HX := Hd.mk hX
  clear ht hn ho hb hX
  have hent := HT.out.ent
  go_enter Tryz.func154, Tryz.ntmps154
  go_wp2_with fail
  refine (copied_ok X n v w HN.out HO.out.parts.1).mono ?_
  rintro e w1 ⟨x, ev, nv, pv, rv, sv, k, cs, rfl, hc⟩
  obtain ⟨ea, ec, np, pp, rp, sa, sc, rfl, rfl, rfl, rfl, rfl⟩ := hc.forms
  have hblk := hc.blk
  have HC := Hd.mk hc
  have c0 := hblk.cell 0
  have c1 := hblk.cell 1
  have c2 := hblk.cell 2
  have c3 := hblk.cell 3
  have c4 := hblk.cell 4
  simp only [List.getElem?_cons_zero, List.getElem?_cons_succ] at c0 c1 c2 c3 c4
  clear hc hblk
  go_wp2_with fail
  refine (HT.out.run w1 (fun k => X k ∨ k = x) n.nx (.pointer np) HC.out.es.upd (fun k hk => by
    rcases hk with hk | hk
    · have := HX.out k hk; have := HC.out.es.upd.size; omega
    · rw [hk]; exact HC.out.blk.lt) (HC.out.nx.move HC.out.es.upd (by simp) (fun k hk => by
    rcases hk with hk | hk
    · exact .inl hk
    · have := HC.out.new; right; omega)) HO.out.parts.2.1 HB.out).mono ?_
  rintro e w2 ⟨v2, rfl, hv2, u2⟩
  obtain ⟨p2, rfl⟩ := hv2.form
  have b2 := u2.blk HC.out.blk (by simp)
  have HV := Hd.mk (HC.out.next HX.out u2 hv2)
  clear c0 c1 c2 c3 c4
  have c1 := b2.cell 1
  have f1 := b2.free 1
  simp only [List.getElem?_cons_zero, List.getElem?_cons_succ] at c1
  clear hv2 u2 b2
  go_wp2_with fail
  go_ret
  exact ⟨_, rfl, by rw [word_empty]; exact HV.out.1, HV.out.2⟩
set_option maxRecDepth 100000 in
set_option maxHeartbeats 4000000 in
theorem tword_ok (g : Nat) (caps : Array Value) (N : Nat) (f : T → T) : ∀ (q : Nat) (s : Bs) (X : Nat → Prop) (n : T) (v : Value) (w : World), s.length ≤ q → q ≤ 1000000 → (∀ k, X k → k < w.heap.size) → NdV w X n v → Ok n → Bd N (step n s) → Then w g caps N f →
    Calls Tryz.prog 154 #[v, S s, .func (.func g) #[] caps] w (NdQ w X (wordT n s f)) := by
  intro q
  induction q with
  | zero =>
    intro s X n v w hs hq hX hn ho hb ht
    obtain rfl : s = [] := List.eq_nil_of_length_eq_zero (by omega)
    rw [step_empty] at hb
    exact word_none g caps N f X n v w hX hn ho hb ht
  | succ q ih =>
    intro s X n v w hs hq hX hn ho hb ht
    by_cases h0 : s = []
    · subst h0
      rw [step_empty] at hb
      exact word_none g caps N f X n v w hX hn ho hb ht
    have HI := Hd.mk ih
    have HT := Hd.mk ht
    have HN := Hd.mk hn
    have HO := Hd.mk ho
    have HB := Hd.mk hb
    have HX := Hd.mk hX
    clear ih ht hn ho hb hX
    have hent := HT.out.ent
    unfold S
    have hemp := str_ne0 (a := ⟨s.toArray⟩) (fun e => h0 (by have := congrArg (fun t : ByteArray => t.data.toList) e; simpa using this))
    have HS := Hd.mk h0
    obtain ⟨sb, hsb⟩ : ∃ sb : ByteArray, (⟨s.toArray⟩ : ByteArray) = sb := ⟨_, rfl⟩
    have hsz : sb.size = s.length := by rw [← hsb]; show s.toArray.size = _; simp
    have HSB := Hd.mk (show sb.data.toList = s by rw [← hsb])
    rw [hsb] at hemp ⊢
    have hsz2 : sb.size ≤ q + 1 := by omega
    have HSZ := Hd.mk hsz
    clear hsb h0 hsz hs
    go_enter Tryz.func154, Tryz.ntmps154
    go_wp2_with fail
    refine (copied_ok X n v w HN.out HO.out.parts.1).mono ?_
    rintro e w1 ⟨x, ev, nv, pv, rv, sv, k, cs, rfl, hc⟩
    obtain ⟨ea, ec, np, pp, rp, sa, sc, rfl, rfl, rfl, rfl, rfl⟩ := hc.forms
    have hblk := hc.blk
    have hk : k = n.es.len := by have h1 := hc.es.sl.1; have h2 := hc.ed.length; omega
    have hk2 : k ≤ 257 := by have := HO.out.parts.1.len; omega
    have HK := Hd.mk hk
    have HC := Hd.mk hc
    have c0 := hblk.cell 0
    have c1 := hblk.cell 1
    have c2 := hblk.cell 2
    have c3 := hblk.cell 3
    have c4 := hblk.cell 4
    simp only [List.getElem?_cons_zero, List.getElem?_cons_succ] at c0 c1 c2 c3 c4
    clear hc hblk hk
    go_upto_region 6 with (fail)
    go_loopg [32] k (fun g ii wr => ∃ (i : Nat) (tl : E), g + i = k ∧ ii = .int .i64 i ∧ Hd (Sk s i n.es tl ∧ Upd [] w1 wr))
    case atStart => exact ⟨0, n.es, by omega, rfl, Hd.mk ⟨rfl, Upd.refl _ _⟩⟩
    case round =>
      obtain ⟨i, tl, hg, rfl, HL⟩ := hrel
      have HG := Hd.mk hg
      clear hg c0 c1 c2 c3 c4
      cases tl with
      | nil =>
        obtain rfl : i = k := by have := HL.out.1.len; have := HK.out; simp only [E.len] at *; omega
        have hxb := HL.out.2.blk HC.out.blk (by simp)
        have x0 := hxb.cell 0
        simp only [List.getElem?_cons_zero] at x0
        clear hxb
        have HSV := Hd.mk (show Value.string sb = S s from S_of HSB.out)
        have HCALL := Hd.mk (show Calls Tryz.prog 154 #[.pointer none, .string ⟨#[]⟩, .func (.func g) #[] caps] wr.drew (NdQ wr.drew (fun q => X q ∨ q = x ∨ q ∈ ownB (.slice ea i ec)) (fresh (f .nil))) by
          rw [← word_fresh]
          exact word_none g caps N f _ .nil _ wr.drew (fun q hq => by
            have h1 := HL.out.2.size
            have h2 := HC.out.es.upd.size
            rcases hq with hq | hq | hq
            · have := HX.out q hq; show q < wr.heap.size; omega
            · have := HC.out.blk.lt; rw [hq]; show x < wr.heap.size; omega
            · have := HC.out.es.sl.lt q hq; show q < wr.heap.size; omega) (by simp [NdV]) Ok.nil (Bd.nil N) (HT.out.up ((HC.out.es.upd.trans HL.out.2 (by simp)).drew)))
        have tok := HCALL
        go_upto_region 17 with (fail)
        go_region_law (first
          | (have _t := tok; refine step_func_ex rfl 154 #[.tmp 99, .const (.string ⟨#[]⟩), .tmp 100] #[126, 9, 222] rfl #[.pointer none, .string ⟨#[]⟩, .func (.func g) #[] caps] (by go_simp) (by go_simp) ?_; refine HCALL.out.mono ?_; rintro e w4 ⟨v4, he, hv4, u4⟩; obtain ⟨p4, rfl⟩ := hv4.form; refine ⟨_, he, ?_⟩; have U4 := Hd.mk (show Upd [] w1 w4 from (HL.out.2.drew).trans u4 (by simp)); have hxb := U4.out.blk HC.out.blk (by simp); have x0 := hxb.cell 0; have x0' := (hxb.alloc (.cells #[.string sb, .pointer p4] 201)).cell 0; simp only [List.getElem?_cons_zero] at x0 x0'; have HV := Hd.mk hv4; clear tok _t he hv4 u4 hxb)
          | (have _t := HV; clear _t; refine step_append_any rfl (.tmp 97) (.tmp 103) 162 rfl 201 (.agg #[.string ⟨#[]⟩, .pointer none]) 2 24 Tryz.underlying162 (by kernel_rfl) rfl (.slice ea i ec) i cs (by go_simp) ((HC.out.es.sl.upd U4.out (by simp)).alloc (.cells #[.string sb, .pointer p4] 201)) (.slice (some ⟨w4.heap.size, 0, none⟩) 1 1) 1 [.string sb, .pointer p4] (by go_simp) ((Blk.new w4 [.string sb, .pointer p4] 201 _ rfl).sl 2 1 rfl (by unfold maxLen; omega)) rfl (by omega) (by omega) ?_; intro v9 w9 s9 u9 o9; obtain ⟨a9, k9, rfl⟩ := s9.form; have Y9 := Hd.mk (And.intro s9 (And.intro u9 o9)); clear s9 u9 o9 x0 x0'; have v9 := Y9.out.2.1.blk ((U4.out.blk HC.out.blk (by simp)).alloc (.cells #[.string sb, .pointer p4] 201)) (fun e => HC.out.es.sl.other (t := 164) (by decide) _ e _ HC.out.blk); have x0 := v9.cell 0; have x1 := v9.free 0; simp only [List.getElem?_cons_zero] at x0; clear v9))
        all_goals
          go_wp2_with fail
          go_ret
          have HR := HC.out.word3 (ev' := .slice a9 (i + 1) k9) HX.out (U4.out.alloc (.cells #[.string sb, .pointer p4] 201)) HL.out.1 HS.out (HV.out.upd ((Upd.refl _ _).alloc _)) _ HSV.out Y9.out.1 Y9.out.2.1 (fun q hq => by have := Y9.out.2.2 q hq; simpa using this)
          exact ⟨_, rfl, HR.1, HR.2⟩
      | cons t d tl =>
        have hik : i < k := by have := HL.out.1.len; have := HK.out; simp only [E.len] at *; omega
        obtain ⟨hct, p, hcp, hd⟩ := HL.out.1.at HC.out.ed
        obtain ⟨p, rfl⟩ := hd.form
        obtain ⟨eb, eo, ec', hev, _, _, hcell⟩ := (HC.out.es.sl.upd HL.out.2 (by simp)).some (by omega)
        simp only [Value.slice.injEq] at hev
        obtain ⟨rfl, _, rfl⟩ := hev
        have e0 := (hcell (i * 2) (by omega)).trans hct
        have e1 := (hcell (i * 2 + 1) (by omega)).trans hcp
        rw [← Nat.add_assoc] at e1
        have hcl2 : ∀ W, Upd [] w1 W → ∀ j, j < k * 2 → W.cell? ⟨eb, eo + j, none⟩ = cs[j]? := fun W hW j hj => by
          obtain ⟨_, _, _, hev, _, _, hcell⟩ := (HC.out.es.sl.upd hW (by simp)).some (by omega)
          simp only [Value.slice.injEq, Option.some.injEq, Addr.mk.injEq] at hev
          obtain ⟨⟨rfl, rfl, _⟩, _⟩ := hev
          exact hcell j hj
        obtain ⟨tb, htb⟩ : ∃ tb : ByteArray, (⟨t.toArray⟩ : ByteArray) = tb := ⟨_, rfl⟩
        unfold S at e0
        rw [htb] at e0
        have HTB := Hd.mk (show tb.data.toList = t by rw [← htb])
        have HD := Hd.mk hd
        have HCL2 := Hd.mk (And.intro hcl2 (And.intro hct hcp))
        clear htb hct hcp hd hcell hcl2
        go_upto_region 8 with (fail)
        refine wp_abs (fun W => Blk W wr.heap.size [.string tb, .pointer p] 201 ∧ Upd [] w1 W) ⟨Blk.new wr [.string tb, .pointer p] _ _ rfl, HL.out.2.alloc _⟩ ?_
        clear e0 e1
        generalize hy : wr.heap.size = y
        have HY := Hd.mk (show w1.heap.size ≤ y by have := HL.out.2.size; omega)
        clear hy
        rintro w2 ⟨b2, u2⟩
        have HW := Hd.mk (And.intro b2 u2)
        have d0 := b2.cell 0
        have d1 := b2.cell 1
        simp only [List.getElem?_cons_zero, List.getElem?_cons_succ] at d0 d1
        clear b2 u2
        go_wp2_with fail
        refine (common_ok tb sb w2 (by omega)).mono ?_
        rintro e w3 ⟨rfl, u3⟩
        rw [HTB.out, HSB.out]
        have b3 := u3.blk HW.out.1 (by simp)
        have HW := Hd.mk (And.intro b3 (HW.out.2.trans u3 (by simp)))
        clear d0 d1
        have d0 := b3.cell 0
        have d1 := b3.cell 1
        simp only [List.getElem?_cons_zero, List.getElem?_cons_succ] at d0 d1
        clear b3 u3
        obtain ⟨c, hc⟩ : ∃ c, cp t s = c := ⟨_, rfl⟩
        have hcle := cp_le t s
        have hszz := HSZ.out
        rw [hc] at hcle ⊢
        have HCP := Hd.mk hc
        have htl : tb.size = t.length := by rw [← HTB.out]; simp
        have hc1 : c ≤ tb.size := by omega
        have hc2 : c ≤ sb.size := by omega
        clear hc hcle htl hszz
        by_cases h0 : c = 0
        · have d0' : ((c : Int) == 0) = true := by simpa using h0
          have HSK := Hd.mk (HL.out.1.succ (by rw [HCP.out, h0]))
          clear h0
          go_wp2_with fail
          go_roundg (gk - 1)
          case measure => have := HG.out; omega
          case rel => exact ⟨i + 1, tl, by have := HG.out; omega, by go_num, Hd.mk ⟨HSK.out, HW.out.2⟩⟩
        have d0' : ((c : Int) == 0) = false := by rw [beq_eq_false_iff_ne]; omega
        have HEX := Hd.mk (show Value.string (sb.extract c sb.size) = S (s.drop c) from S_of (by rw [ext_list, HSB.out, List.take_of_length_le (by rw [List.length_drop]; have := congrArg List.length HSB.out; simp at this; omega)]))
        have HZ := Hd.mk (show (s.drop c).length ≤ q by rw [List.length_drop]; have := HSZ.out; omega)
        have HEB := Hd.mk HC.out.eb
        have HXE := Hd.mk (show ∀ k, (X k ∨ k = eb) → k < w3.heap.size from fun k hk => by
          have h1 := HW.out.2.size
          rcases hk with hk | hk
          · have := HX.out k hk; have := HC.out.es.upd.size; omega
          · have := HEB.out.2.1; omega)
        have hxb := HW.out.2.blk HC.out.blk (by simp)
        have c0 := hxb.cell 0
        have c1 := hxb.cell 1
        have c2 := hxb.cell 2
        have c3 := hxb.cell 3
        have c4 := hxb.cell 4
        simp only [List.getElem?_cons_zero, List.getElem?_cons_succ] at c0 c1 c2 c3 c4
        have he1 := (HCL2.out.1 w3 HW.out.2 (i * 2 + 1) (by omega)).trans HCL2.out.2.2
        clear hxb
        by_cases h1 : c = tb.size
        · subst h1
          have HCALL := Hd.mk (show Calls Tryz.prog 154 #[.pointer p, .string (sb.extract tb.size sb.size), .func (.func g) #[] caps] w3.drew (NdQ w3.drew (fun k => X k ∨ k = eb) (wordT d (s.drop tb.size) f)) by
            rw [HEX.out]
            refine HI.out (s.drop tb.size) _ d _ w3.drew HZ.out (by omega) HXE.out ?_ ?_ ?_ (HT.out.up ((HC.out.es.upd.trans HW.out.2 (by simp)).drew))
            · exact HD.out.move ((HC.out.es.upd.trans HW.out.2 (by simp)).drew) (by simp) (fun k hk => by
                rcases hk with hk | hk
                · exact .inl hk
                · have := HEB.out.1; right; omega)
            · have h2 := HL.out.1.ok HO.out.parts.1
              simp only [OkE] at h2
              exact h2.2.2.1.1
            · rw [← step_edge HL.out.1 HS.out HO.out HCP.out (by rw [← HTB.out]; simp)]; exact HB.out)
          have tok := HCALL
          go_upto_region 13 with (fail)
          go_region_law ((have _t := tok; refine step_func_ex rfl 154 #[.tmp 83, .tmp 86, .tmp 87] #[126, 9, 222] rfl #[.pointer p, .string (sb.extract tb.size sb.size), .func (.func g) #[] caps] (by go_simp) (by go_simp) ?_; refine HCALL.out.mono ?_; rintro e w4 ⟨v4, he, hv4, u4⟩; obtain ⟨p4, rfl⟩ := hv4.form; refine ⟨_, he, ?_⟩; have U4 := Hd.mk (show Upd [] w1 w4 from (HW.out.2.drew).trans u4 (by simp)); have hxb := U4.out.blk HC.out.blk (by simp); have x0 := hxb.cell 0; simp only [List.getElem?_cons_zero] at x0; have y1 := (HCL2.out.1 w4 U4.out (i * 2 + 1) (by omega)).trans HCL2.out.2.2; have y2 := (HC.out.es.sl.upd U4.out (by simp)).free (eo + (i * 2 + 1)); rw [← Nat.add_assoc] at y1 y2; have HV := Hd.mk hv4; clear tok _t he hv4 u4 hxb))
          all_goals
            go_wp2_with fail
            go_ret
            have HR := HC.out.word1 HX.out U4.out HL.out.1 HS.out HCP.out h0 (by rw [← HTB.out]; simp) HV.out
            exact ⟨_, rfl, HR.1, HR.2⟩
        · have d1' : ((c : Int) == (tb.size : Int)) = false := by rw [beq_eq_false_iff_ne]; omega
          have HEX2 := Hd.mk (show Value.string (tb.extract c tb.size) = S (t.drop c) from S_of (by rw [ext_list, HTB.out, List.take_of_length_le (by rw [List.length_drop]; have := congrArg List.length HTB.out; simp at this; omega)]))
          have HEX3 := Hd.mk (show Value.string (tb.extract 0 c) = S (t.take c) from S_of (by rw [ext_list, HTB.out, List.drop_zero, Nat.sub_zero]))
          go_upto_region 9 with (fail)
          refine wp_quiet_tail 7 (by kernel_rfl) (by kernel_rfl) ?_
          simp only [List.take_succ_cons, List.take_zero, List.drop_succ_cons, List.drop_zero]
          repeat (go_big_quiet_step (fail))
          refine wpQuiet_nil ?_
          (intro _ hw'; obtain ⟨nb, hw''⟩ := hw'; subst hw'')
          go_upto_region 10 with (fail)
          refine wp_abs (fun W => Blk W (w3.heap.size + 1) [.slice (some ⟨w3.heap.size, 0, none⟩) 1 1, .pointer none, .pointer none, .pointer none, .slice none 0 0] 164 ∧ Blk W w3.heap.size [.string (tb.extract c tb.size), .pointer p] 201 ∧ Blk W y [.string tb, .pointer p] 201 ∧ Upd [] w1 W) ⟨Blk.new _ [.slice (some ⟨w3.heap.size, 0, none⟩) 1 1, .pointer none, .pointer none, .pointer none, .slice none 0 0] _ _ (by simp), (Blk.new (w3.drewN nb) [.string (tb.extract c tb.size), .pointer p] _ _ rfl).alloc _, ((HW.out.1.drewN nb).alloc _).alloc _, ((HW.out.2.drewN nb).alloc _).alloc _⟩ ?_
          have HMN := Hd.mk (show w1.heap.size ≤ w3.heap.size from HW.out.2.size)
          clear d0 d1 c0 c1 c2 c3 c4 he1
          generalize hm1 : w3.heap.size + 1 = m1
          generalize hm2 : w3.heap.size = m2 at HMN
          have HM := Hd.mk (show m1 = m2 + 1 by omega)
          clear hm1 hm2 HXE HW
          rintro w5 ⟨bm1, bm2, by_, u5⟩
          have HW := Hd.mk (And.intro bm1 (And.intro bm2 (And.intro by_ u5)))
          have d0 := by_.cell 0
          have d1 := by_.cell 1
          simp only [List.getElem?_cons_zero, List.getElem?_cons_succ] at d0 d1
          have hxb := u5.blk HC.out.blk (by simp)
          have x0 := hxb.cell 0
          simp only [List.getElem?_cons_zero] at x0
          clear bm1 bm2 by_ u5 hxb
          have HXE := Hd.mk (show ∀ k, (X k ∨ k = eb) → k < w5.heap.size from fun k hk => by
            have h1 := HW.out.2.2.2.size
            rcases hk with hk | hk
            · have := HX.out k hk; have := HC.out.es.upd.size; omega
            · have := HEB.out.2.1; omega)
          have HCALL := Hd.mk (show Calls Tryz.prog 154 #[.pointer (some ⟨m1, 0, none⟩), .string (sb.extract c sb.size), .func (.func g) #[] caps] w5.drew (NdQ w5.drew (fun k => X k ∨ k = eb) (midT (t.drop c) d (s.drop c) f)) by
            have hdne : t.drop c ≠ [] := by
              intro e
              have e2 := congrArg List.length e
              rw [List.length_drop] at e2
              have e3 := congrArg List.length HTB.out
              simp at e2 e3
              omega
            have hcp0 : cp (t.drop c) (s.drop c) = 0 := by rw [← HCP.out]; exact cp_drop t s
            have hud : Upd [] w w5.drew := (HC.out.es.upd.trans HW.out.2.2.2 (by simp)).drew
            have hav : ∀ k, (X k ∨ k = eb) → k < m2 := fun k hk => by
              have := HMN.out
              rcases hk with hk | hk
              · have := HX.out k hk; have := HC.out.es.upd.size; omega
              · have := HEB.out.2.1; omega
            have hmk : NdV w5.drew (fun k => X k ∨ k = eb) (midN (t.drop c) d) (.pointer (some ⟨m1, 0, none⟩)) :=
              NdV.mid HW.out.1.drew HW.out.2.1.drew HEX2.out (fun e => by have := hav _ e; have := HM.out; omega) (fun e => by have := hav _ e; omega) (HD.out.move hud (by simp) (fun k hk => by
                rcases hk with hk | hk
                · exact .inl hk
                · have := HEB.out.1; right; omega))
            have hok : Ok (midN (t.drop c) d) := mid_ok hdne (by
              have h2 := HL.out.1.ok HO.out.parts.1
              simp only [OkE] at h2
              exact h2.2.2.1)
            rw [HEX.out, ← word_mid _ _ _ _ hcp0]
            exact HI.out (s.drop c) _ _ _ w5.drew HZ.out (by omega) HXE.out hmk hok (by rw [step_midN hdne hcp0]; exact Bd.nil N) (HT.out.up hud))
          have tok := HCALL
          go_region_law ((have _t := tok; refine step_func_ex rfl 154 #[.tmp 60, .tmp 63, .tmp 64] #[126, 9, 222] rfl #[.pointer (some ⟨m1, 0, none⟩), .string (sb.extract c sb.size), .func (.func g) #[] caps] (by go_simp) (by go_simp) ?_; refine HCALL.out.mono ?_; rintro e w4 ⟨v4, he, hv4, u4⟩; obtain ⟨p4, rfl⟩ := hv4.form; refine ⟨_, he, ?_⟩; have U4 := Hd.mk (show Upd [] w1 w4 from (HW.out.2.2.2.drew).trans u4 (by simp)); have hyb := u4.blk HW.out.2.2.1.drew (by simp); have hxb := U4.out.blk HC.out.blk (by simp); have x0 := hxb.cell 0; have d0 := hyb.cell 0; simp only [List.getElem?_cons_zero] at x0 d0; have y1 := (HCL2.out.1 w4 U4.out (i * 2 + 1) (by omega)).trans HCL2.out.2.2; have y3 := (HCL2.out.1 w4 U4.out (i * 2) (by omega)).trans HCL2.out.2.1; have y2 := (HC.out.es.sl.upd U4.out (by simp)).free (eo + (i * 2 + 1)); have y4 := (HC.out.es.sl.upd U4.out (by simp)).free (eo + i * 2); rw [← Nat.add_assoc] at y1 y2; have HV := Hd.mk hv4; clear tok _t he hv4 u4 hxb hyb))
          all_goals
            go_wp2_with fail
            go_ret
            have HR := HC.out.word2 HX.out U4.out HL.out.1 HS.out HCP.out h0 (by have e3 := congrArg List.length HTB.out; simp at e3; omega) HV.out _ HEX3.out
            exact ⟨_, rfl, HR.1, HR.2⟩
end Go.Proofs.YtndlbkiogagnaaaGreatDoor
