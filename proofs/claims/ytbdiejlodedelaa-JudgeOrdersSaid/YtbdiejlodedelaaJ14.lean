/- The document's judge: fits. -/
import Derived.Test.YtbdiejlodedelaaJ13
namespace Go.Proofs.Ytbdiejlodedelaa
set_option linter.unusedSimpArgs false
set_option linter.unusedVariables false
set_option linter.unnecessarySimpa false
open Go.RowKit BigFrame

theorem fits_nil (O : Nat → Op) (m : St) : fits O m [] = true := rfl
theorem fits_late {O : Nat → Op} {m : St} {k q : Nat} {r : List Nat} (hq : q ∈ r) (h : (O q).e < (O k).b) : fits O m (k :: r) = false := by
  rw [fits]
  rw [show r.all (fun j => !decide ((O j).e < (O k).b)) = false by rw [List.all_eq_false]; exact ⟨q, hq, by simp [h]⟩]
  rfl
theorem fits_untold {O : Nat → Op} {m : St} {k : Nat} {r : List Nat} (h : (O k).told m = false) : fits O m (k :: r) = false := by
  rw [fits, h]; simp
theorem fits_step {O : Nat → Op} {m : St} {k : Nat} {r : List Nat} (hq : ∀ q ∈ r, ¬ (O q).e < (O k).b) (h : (O k).told m = true) : fits O m (k :: r) = fits O ((O k).after m) r := by
  rw [fits, h]
  rw [show r.all (fun j => !decide ((O j).e < (O k).b)) = true by rw [List.all_eq_true]; intro q hq'; simpa using hq q hq']
  rfl

theorem after_get {o : Op} {m : St} (h : o.kind = 0) : o.after m = m := by unfold Op.after; rw [if_pos (.inl h)]
theorem after_put {o : Op} {m : St} (h0 : ¬ o.kind = 0) (h : o.kind = 1) : o.after m = m.put o.key o.val := by
  unfold Op.after; rw [if_neg (by simp [h]), if_pos h]
theorem ofL_absent {S : List (ByteArray × ByteArray)} {k : ByteArray} (h : ofL S k = none) : ofL S = (ofL S).del k := by
  funext q
  unfold St.del
  by_cases e : q = k
  · subst e; simp [h]
  · simp [e]
theorem after_del {o : Op} {m : St} (h0 : ¬ o.kind = 0) (h1 : ¬ o.kind = 1) : o.after m = m.del o.key := by
  unfold Op.after
  by_cases h : o.kind = 2 ∧ (m o.key).isSome = false
  · rw [if_pos (.inr h)]
    funext q
    unfold St.del
    by_cases e : q = o.key
    · subst e; simpa using h.2
    · simp [e]
  · rw [if_neg (by simp only [not_or]; exact ⟨h0, h⟩), if_neg h1]
theorem put_del (m : St) (k v : ByteArray) : (m.del k).put k v = m.put k v := by
  funext q
  unfold St.put St.del
  by_cases e : q = k <;> simp [e]

theorem st_all (S : List (ByteArray × ByteArray)) : ∀ v ∈ stCells S, v.oneCell' = true := by
  intro v hv
  simp only [stCells, List.mem_flatMap, List.mem_cons, List.not_mem_nil, or_false] at hv
  obtain ⟨x, -, rfl | rfl⟩ := hv <;> rfl
theorem st_one (S : List (ByteArray × ByteArray)) (k : Nat) : ((stCells S).take k).all (·.oneCell') = true := by
  rw [List.all_eq_true]
  exact fun v hv => st_all S v (List.mem_of_mem_take hv)
theorem st_one' (S : List (ByteArray × ByteArray)) (k : Nat) : ((stCells S).drop k).all (·.oneCell') = true := by
  rw [List.all_eq_true]
  exact fun v hv => st_all S v (List.mem_of_mem_drop hv)
theorem st_erase (S : List (ByteArray × ByteArray)) (q : Nat) : stCells (S.take q ++ S.drop (q + 1)) = (stCells S).take (q * 2) ++ (stCells S).drop ((q + 1) * 2) := by
  have h1 : ∀ (S : List (ByteArray × ByteArray)) (q : Nat), stCells (S.take q) = (stCells S).take (q * 2) := by
    intro S
    induction S with
    | nil => intro q; simp [stCells]
    | cons x S ih =>
      intro q
      cases q with
      | zero => simp [stCells]
      | succ q =>
        have := ih q
        simp only [stCells, List.take_succ_cons, List.flatMap_cons] at this ⊢
        rw [this, show (q + 1) * 2 = q * 2 + 2 by omega]
        simp
  have h2 : ∀ (S : List (ByteArray × ByteArray)) (q : Nat), stCells (S.drop q) = (stCells S).drop (q * 2) := by
    intro S
    induction S with
    | nil => intro q; simp [stCells]
    | cons x S ih =>
      intro q
      cases q with
      | zero => simp [stCells]
      | succ q =>
        have := ih q
        simp only [stCells, List.drop_succ_cons, List.flatMap_cons] at this ⊢
        rw [this, show (q + 1) * 2 = q * 2 + 2 by omega]
        simp
  rw [← h1, ← h2]
  simp [stCells]

set_option maxRecDepth 100000 in
set_option maxHeartbeats 4000000 in
theorem fits_ok (a : Option Addr) (n cap m : Nat) (O : Nat → Op) (v : Value) (l : List Nat) (w : World) (h : Rd w a n O) (hv : Sl w 3 1 v m (nums l)) (hl : l.length = m) (hm : m ≤ 6) (hlt : ∀ k ∈ l, k < n) :
    Calls Try.prog 15 #[.slice a n cap, v] w fun e w' => e = .returned (.bool (fits O St.none l)) ∧ Upd [] w w' := by
  have HR := Hd.mk h
  have HV := Hd.mk hv
  have HL := Hd.mk hl
  have HLT := Hd.mk hlt
  obtain ⟨av, cv, rfl⟩ := hv.form
  clear h hv hl hlt
  go_enter Try.func15, Try.ntmps15
  go_wp2_with fail
  go_loopg [5, 6] m (fun gh s5 ii wr => ∃ (i : Nat) (S : List (ByteArray × ByteArray)), ii = .int .i64 i ∧ gh + i = m ∧ S.length ≤ i ∧ Bld w wr 56 2 s5 S.length (stCells S) ∧ Hd (OkL S) ∧ Hd (fits O St.none l = fits O (ofL S) (l.drop i)))
  case atStart => exact ⟨0, [], rfl, by omega, by simp, Bld.nil (Upd.refl _ _) _ _, Hd.mk OkL.nil, Hd.mk rfl⟩
  case round =>
    obtain ⟨i, S, rfl, hg, hSi, y, HOK, HF⟩ := hrel
    by_cases hi : i < m
    · obtain ⟨gv, ov, cv', he, -, -, hcv⟩ := (HV.out.upd y.upd (by simp)).some (by omega)
      simp only [Value.slice.injEq] at he
      obtain ⟨rfl, -, rfl⟩ := he
      have hil : i < l.length := by rw [HL.out]; exact hi
      obtain ⟨k, hk⟩ : ∃ k, l[i]? = some k := ⟨l[i], List.getElem?_eq_getElem hil⟩
      have hkn : k < n := HLT.out k (List.mem_of_getElem? hk)
      have ci := hcv i (by omega)
      rw [show (nums l)[i]? = some (.int .i64 k) by simp [nums, hk]] at ci
      have HDR := Hd.mk (show l.drop i = k :: l.drop (i + 1) by rw [List.drop_eq_getElem_cons hil]; congr 1; rw [List.getElem?_eq_getElem hil] at hk; simpa using hk)
      obtain ⟨b, off, rfl, hb, c0, c1, c2, c3, c4, c5⟩ := (HR.out.upd y.upd).at k hkn
      have HG := Hd.mk hg
      obtain ⟨gq, hgq⟩ : ∃ gq, gq = gk - 1 := ⟨_, rfl⟩
      have HGQ := Hd.mk hgq
      have HY := Hd.mk y
      have HK := Hd.mk hk
      clear hgq hg y hk hcv hil
      go_upto_region 6 with (fail)
      have al := (Upd.refl [] wr).alloc (.cells (O k).cells.toArray 32)
      refine wp_abs (fun W => Bld w W 56 2 u5 S.length (stCells S) ∧ Blk W wr.heap.size (O k).cells 32) ⟨HY.out.over al, Blk.new wr (O k).cells 32 _ rfl⟩ ?_
      clear c0 c1 c2 c3 c4 c5 ci HY al
      generalize wr.heap.size = cb at *
      rintro w5 ⟨y, tb⟩
      have HY := Hd.mk y
      have HTB := Hd.mk tb
      clear y tb
      go_wp2_with fail
      go_loopg [8] (m - (i + 1)) (fun gh jj wq => ∃ j : Nat, jj = .int .i64 j ∧ gh + j = m ∧ i + 1 ≤ j ∧ Upd [] w5 wq ∧ Hd (∀ q : Nat, i + 1 ≤ q → q < j → ∀ x, l[q]? = some x → ¬ (O x).e < (O k).b))
      case atStart => exact ⟨i + 1, by go_num, by omega, by omega, Upd.refl _ _, Hd.mk (by omega)⟩
      case round =>
        obtain ⟨j, rfl, hgj, hij, u, HB⟩ := hrel
        have HGJ := Hd.mk hgj
        by_cases hj : j < m
        · have uw := HY.out.upd.trans u (by simp)
          obtain ⟨gv', ov', cv', he, -, -, hcv⟩ := (HV.out.upd uw (by simp)).some (by omega)
          simp only [Value.slice.injEq, Option.some.injEq, Addr.mk.injEq] at he
          obtain ⟨⟨rfl, rfl, -⟩, -, rfl⟩ := he
          have hjl : j < l.length := by rw [HL.out]; exact hj
          obtain ⟨x, hx⟩ : ∃ x, l[j]? = some x := ⟨l[j], List.getElem?_eq_getElem hjl⟩
          have hxn : x < n := HLT.out x (List.mem_of_getElem? hx)
          have cj := hcv j (by omega)
          rw [show (nums l)[j]? = some (.int .i64 x) by simp [nums, hx]] at cj
          obtain ⟨b', off', hbb, hb', -, -, d2, -⟩ := (HR.out.upd uw).at x hxn
          obtain ⟨rfl, rfl⟩ : b = b' ∧ off = off' := by simpa using hbb
          have tbq := u.blk HTB.out (by simp)
          have c0 := tbq.cell 0
          have c1 := tbq.cell 1
          have c2 := tbq.cell 2
          have c3 := tbq.cell 3
          have c4 := tbq.cell 4
          have c5 := tbq.cell 5
          simp only [Op.cells, List.getElem?_cons_zero, List.getElem?_cons_succ] at c0 c1 c2 c3 c4 c5
          have HU := Hd.mk u
          have HX := Hd.mk hx
          clear tbq u uw hcv hjl hx hbb hgj
          by_cases hc : (O x).e < (O k).b
          · have hd : decide ((O x).e < (O k).b) = true := decide_eq_true hc
            have HFF := Hd.mk (show fits O St.none l = false from by
              rw [HF.out, HDR.out]
              exact fits_late (List.mem_of_getElem? (i := j - (i + 1)) (by rw [List.getElem?_drop, show i + 1 + (j - (i + 1)) = j by omega]; exact HX.out)) hc)
            clear hc HB
            go_upto_region 9 with (fail)
            refine wp_region_quiet_lit (by kernel_rfl) (by kernel_rfl) ?_
            repeat (go_big_quiet_step (fail))
            refine wpQuiet_nil ?_
            (intro _ hw'; obtain ⟨nb, hw''⟩ := hw'; subst hw'')
            go_wp2_with fail
            go_ret
            exact ⟨rb HFF.out.symm, (HY.out.upd.trans HU.out (by simp)).drewN _⟩
          · have hd : decide ((O x).e < (O k).b) = false := decide_eq_false hc
            have HN := Hd.mk (show ∀ q : Nat, i + 1 ≤ q → q < j + 1 → ∀ x, l[q]? = some x → ¬ (O x).e < (O k).b from fun q h1 h2 z hz => by
              by_cases e : q = j
              · subst e
                rw [HX.out] at hz
                cases hz
                exact hc
              · exact HB.out q h1 (by omega) z hz)
            clear hc HB
            go_upto_region 9 with (fail)
            refine wp_region_quiet_lit (by kernel_rfl) (by kernel_rfl) ?_
            repeat (go_big_quiet_step (fail))
            refine wpQuiet_nil ?_
            (intro _ hw'; obtain ⟨nb, hw''⟩ := hw'; subst hw'')
            go_wp2_with fail
            go_roundg (gk - 1)
            case measure => have := HGJ.out; omega
            case rel => exact ⟨j + 1, by go_num, by have := HGJ.out; omega, by omega, HU.out.drewN _, HN⟩
        · obtain rfl : j = m := by omega
          have HLATE := Hd.mk (show ∀ q ∈ l.drop (i + 1), ¬ (O q).e < (O k).b from fun q hq => by
            obtain ⟨z, hz⟩ := List.getElem?_of_mem hq
            rw [List.getElem?_drop] at hz
            have := (List.getElem?_eq_some_iff.1 hz).1
            exact HB.out (i + 1 + z) (by omega) (by rw [← HL.out]; exact this) q hz)
          have HY6 := Hd.mk (HY.out.over u)
          have tb := u.blk HTB.out (by simp)
          have c0 := tb.cell 0
          have c1 := tb.cell 1
          have c2 := tb.cell 2
          have c3 := tb.cell 3
          have c4 := tb.cell 4
          have c5 := tb.cell 5
          simp only [Op.cells, List.getElem?_cons_zero, List.getElem?_cons_succ] at c0 c1 c2 c3 c4 c5
          clear hj hgj hij HB u HY HTB tb
          go_wp2_with fail
          refine (find_ok S (O k).key u5 _ HY6.out.sl (by omega)).mono ?_
          rintro e w6 ⟨rfl, rfl⟩
          obtain ⟨fi, hfi⟩ : ∃ fi, idxI S (O k).key = fi := ⟨_, rfl⟩
          rw [hfi]
          obtain ⟨vv, hvv⟩ : ∃ vv, ofL S (O k).key = vv := ⟨_, rfl⟩
          have HI : Hd ((idx S (O k).key = none ∧ fi = -1 ∧ vv = none) ∨ ∃ (q : Nat) (x : ByteArray), idx S (O k).key = some q ∧ fi = q ∧ vv = some x ∧ S[q]? = some ((O k).key, x) ∧ q < S.length) := Hd.mk (by
            cases hq : idx S (O k).key with
            | none => exact .inl ⟨rfl, by rw [← hfi]; unfold idxI; rw [hq], by rw [← hvv]; exact ofL_none hq⟩
            | some q =>
              obtain ⟨x, h1, h2, h3⟩ := idx_some hq
              exact .inr ⟨q, x, rfl, by rw [← hfi]; unfold idxI; rw [hq], by rw [← hvv]; exact h2, h1, h3⟩)
          have HVV := Hd.mk hvv
          clear hfi hvv
          go_upto_if 48 with (fail)
          go_cut [10] (fun s W => s = .string (vv.getD ⟨#[]⟩) ∧ W = wr)
          case first =>
            obtain ⟨-, rfl, rfl⟩ | ⟨q, x, -, rfl, rfl, hx, hq⟩ := HI.out
            · have d1 : decide ((0 : Int) ≤ -1) = false := by decide
              go_wp2_with fail
              go_meet
              case rel => exact ⟨rfl, rfl⟩
            · obtain ⟨gs, os, cs, rfl, -, -, hcs⟩ := HY6.out.sl.some (by omega)
              have cc := hcs (q * 2 + 1) (by omega)
              rw [(stCells_at S q _ hx).2, ← Nat.add_assoc] at cc
              have d1 : decide ((0 : Int) ≤ q) = true := by simp
              clear hcs hx
              go_wp2_with fail
              go_meet
              case rel => exact ⟨rfl, rfl⟩
          case rest =>
          obtain ⟨rfl, rfl⟩ := hcut
          go_upto_region 15 with (fail)
          go_cut [69] (fun s W => s = .bool (!((O k).told (ofL S))) ∧ W = wc)
          case first =>
            have HT : Hd ((O k).told (ofL S) = (vv.isSome == (O k).there && ((O k).kind != 0 || decide (vv.getD ⟨#[]⟩ = (O k).val)))) := Hd.mk (by unfold Op.told; rw [HVV.out])
            have d1 : decide ((0 : Int) ≤ fi) = vv.isSome := by
              obtain ⟨-, rfl, rfl⟩ | ⟨q, x, -, rfl, rfl, -, -⟩ := HI.out
              · rfl
              · simp
            by_cases e1 : vv.isSome = (O k).there
            · have e1' : (vv.isSome == (O k).there) = true := by simpa using e1
              by_cases e2 : (O k).kind = 0
              · by_cases e3 : vv.getD ⟨#[]⟩ = (O k).val
                · have hs := str_yes e3
                  have HT := Hd.mk (show (O k).told (ofL S) = true by rw [HT.out, e1', e2]; simp [e3])
                  clear e3 e1'
                  go_wp2_with fail
                  go_meet
                  case rel => exact ⟨by rw [HT.out]; rfl, rfl⟩
                · have hs := str_no e3
                  have HT := Hd.mk (show (O k).told (ofL S) = false by rw [HT.out, e1', e2]; simp [e3])
                  clear e3 e1'
                  go_wp2_with fail
                  go_meet
                  case rel => exact ⟨by rw [HT.out]; rfl, rfl⟩
              · have e2' : ((O k).kind == 0) = false := by simpa using e2
                have HT := Hd.mk (show (O k).told (ofL S) = true by rw [HT.out, e1']; simp [e2])
                clear e1'
                go_wp2_with fail
                go_meet
                case rel => exact ⟨by rw [HT.out]; rfl, rfl⟩
            · have e1' : (vv.isSome == (O k).there) = false := by simpa using e1
              have HT := Hd.mk (show (O k).told (ofL S) = false by rw [HT.out, e1']; rfl)
              go_wp2_with fail
              go_meet
              case rel => exact ⟨by rw [HT.out]; rfl, rfl⟩
          case rest =>
          obtain ⟨rfl, rfl⟩ := hcut
          cases htl : (O k).told (ofL S) with
          | false =>
            have HFF := Hd.mk (show fits O St.none l = false from by rw [HF.out, HDR.out]; exact fits_untold htl)
            clear htl
            go_wp2_with fail
            go_ret
            exact ⟨rb HFF.out.symm, HY6.out.upd⟩
          | true =>
            have HFN := Hd.mk (show fits O St.none l = fits O ((O k).after (ofL S)) (l.drop (i + 1)) from by rw [HF.out, HDR.out]; exact fits_step (fun q hq => Int.not_lt.2 (HLATE.out q hq)) htl)
            clear htl HF HDR HLATE
            by_cases k0 : (O k).kind = 0
            · have HF2 := Hd.mk (HFN.out.trans (by rw [after_get k0]))
              go_wp2_with fail
              go_roundg gq
              case measure => have := HG.out; have := HGQ.out; omega
              case rel => exact ⟨i + 1, S, by go_num, by have := HG.out; have := HGQ.out; omega, by omega, HY6.out, HOK, HF2⟩
            have k0' : ((O k).kind == 0) = false := by simpa using k0
            go_upto_if 74 with (fail)
            have HTB := Hd.mk (And.intro c0 (And.intro c3 c4))
            clear c0 c1 c2 c3 c4 c5
            go_cut [5] (fun s5 W => ∃ S' : List (ByteArray × ByteArray), S'.length ≤ i ∧ Bld w W 56 2 s5 S'.length (stCells S') ∧ Hd (OkL S' ∧ ofL S' (O k).key = none ∧ ofL S' = (ofL S).del (O k).key) ∧ Upd [] wc W)
            case first =>
              obtain ⟨hix, rfl, rfl⟩ | ⟨q, x, hix, rfl, rfl, hx, hq⟩ := HI.out
              · have d1 : decide ((0 : Int) ≤ -1) = false := by decide
                have HO := Hd.mk (show OkL S ∧ ofL S (O k).key = none ∧ ofL S = (ofL S).del (O k).key from ⟨HOK.out, HVV.out, ofL_absent HVV.out⟩)
                clear hix
                go_wp2_with fail
                go_meet
                case rel => exact ⟨S, hSi, HY6.out, HO, Upd.refl _ _⟩
              · have d1 : decide ((0 : Int) ≤ q) = true := by simp
                have HE := ofL_erase HOK.out hix
                have HO := Hd.mk (show OkL (S.take q ++ S.drop (q + 1)) ∧ ofL (S.take q ++ S.drop (q + 1)) (O k).key = none ∧ ofL (S.take q ++ S.drop (q + 1)) = (ofL S).del (O k).key from ⟨HOK.out.erase q, by rw [HE]; unfold St.del; simp, HE⟩)
                obtain ⟨v1, hs1, s1, o1⟩ := run_upto_sl (P := Try.prog) 53 56 2 Try.underlying53 (by kernel_rfl) wc _ _ _ HY6.out.sl q (by omega) (by omega)
                obtain ⟨v2, hs2, s2, o2⟩ := run_from_sl (P := Try.prog) 53 56 2 Try.underlying53 (by kernel_rfl) wc _ _ _ HY6.out.sl (q + 1) (by omega) (by omega)
                obtain ⟨a1, e1, rfl⟩ := s1.form
                obtain ⟨a2, e2, rfl⟩ := s2.form
                simp only [Int.natCast_add, Int.natCast_one] at hs2
                obtain ⟨a0, e0, rfl⟩ := HY6.out.sl.form
                have S1 := Hd.mk s1
                have S2 := Hd.mk s2
                have W0 := Hd.mk (Upd.refl [] wc)
                clear s1 s2 o1 o2 HE hix hx
                have hq6 : q + 1 ≤ 100 := by omega
                have hS6 : S.length ≤ 100 := by omega
                go_wp2_with fail
                have hwr : IntKind.i64.wrap ((q : Int) + 1) = (q : Int) + 1 := by rw [IntKind.wrap_i64]; omega
                have S1' := S1.out.upd (Upd.refl [] wc).drew (by simp)
                have S2' := S2.out.upd (Upd.refl [] wc).drew (by simp)
                have H1 := Hd.mk (And.intro S1' (st_one S (q * 2)))
                have H2 := Hd.mk (And.intro S2' (st_one' S ((q + 1) * 2)))
                clear S1' S2' S1 S2
                have tok1 : True := trivial
                go_region_law (first
                  | (have _t := tok1; refine step_append_any rfl (.const (.slice none 0 0)) (.tmp 77) 53 rfl 56 (.agg #[.string ⟨#[]⟩, .string ⟨#[]⟩]) 2 32 Try.underlying53 (by kernel_rfl) rfl (.slice none 0 0) 0 [] rfl (Sl.nil _ _ _) (.slice a1 q e1) q ((stCells S).take (q * 2)) (by go_simp) H1.out.1 H1.out.2 (by omega) (by omega) ?_; intro v3 w3 s3 u3 o3; have Y3 := Hd.mk (And.intro s3 (And.intro u3 o3)); clear s3 u3 o3 tok1 _t)
                  | (have _t := Y3; clear _t; refine step_append_any rfl (.tmp 78) (.tmp 82) 53 rfl 56 (.agg #[.string ⟨#[]⟩, .string ⟨#[]⟩]) 2 32 Try.underlying53 (by kernel_rfl) rfl v3 (0 + q) _ (by go_simp) Y3.out.1 (.slice a2 (S.length - (q + 1)) e2) (S.length - (q + 1)) ((stCells S).drop ((q + 1) * 2)) (by go_simp) (H2.out.1.upd Y3.out.2.1 (by simp [ownB])) H2.out.2 (by omega) (by omega) ?_; intro v4 w4 s4 u4 o4; have Y4 := Hd.mk (And.intro s4 (And.intro u4 o4)); clear s4 u4 o4))
                all_goals
                  go_wp2_with fail
                  go_meet
                  case rel =>
                    obtain ⟨s3, u3, o3⟩ := Y3.out
                    obtain ⟨s4, u4, o4⟩ := Y4.out
                    have hz : (S.take q ++ S.drop (q + 1)).length = 0 + q + (S.length - (q + 1)) := by simp; omega
                    have hw3 : Upd [] wc w3 := ((Upd.refl [] wc).drew).trans u3 (by simp [ownB])
                    have hw4 : Upd [] wc w4 := hw3.trans u4 (fun k hk e => by
                      rcases o3 k e with h | h
                      · simp [ownB] at h
                      · simp at h; omega)
                    refine ⟨S.take q ++ S.drop (q + 1), by rw [hz]; omega, ⟨?_, ?_, HY6.out.upd.trans hw4 (by simp)⟩, HO, hw4⟩
                    · rw [hz, st_erase]
                      simpa using s4
                    · intro k hk
                      have h1 := HY6.out.upd.size
                      have h3 := hw3.size
                      rcases o4 k hk with h | h
                      · rcases o3 k h with h | h
                        · simp [ownB] at h
                        · simp at h; omega
                      · omega
            case rest =>
            obtain ⟨S', hS', y7, HO, u7⟩ := hcut
            have hcb := block_lt_of_cell HTB.out.1
            have c0 := (u7.cell (p := ⟨cb, 0, none⟩) hcb (by simp)).trans HTB.out.1
            have c3 := (u7.cell (p := ⟨cb, 3, none⟩) hcb (by simp)).trans HTB.out.2.1
            have c4 := (u7.cell (p := ⟨cb, 4, none⟩) hcb (by simp)).trans HTB.out.2.2
            have HY7 := Hd.mk y7
            have hsl := y7.sl
            clear u7 y7 hcb HY6 HTB
            by_cases k1 : (O k).kind = 1
            · have HF2 := Hd.mk (HFN.out.trans (by rw [after_put k0 k1, ← put_del, ← HO.out.2.2, ← ofL_snoc HO.out.2.1]))
              go_wp2_with (at_builtin; refine wpList_append_row rfl (.tmp 87) (.tmp 93) 53 rfl rfl 56 (.agg #[.string ⟨#[]⟩, .string ⟨#[]⟩]) 2 32 Try.underlying53 (by kernel_rfl) rfl _ _ _ rfl hsl [.string (O k).key, .string (O k).val] rfl rfl rfl (by omega) (by omega) ?_)
              intro v' w9 s9 u9 o9
              have HY9 := Hd.mk (HY7.out.app s9 u9 o9)
              clear s9 u9 o9 hsl c0 c3 c4
              go_wp2_with fail
              go_roundg gq
              case measure => have := HG.out; have := HGQ.out; omega
              case rel => exact ⟨i + 1, S' ++ [((O k).key, (O k).val)], by go_num, by have := HG.out; have := HGQ.out; omega, by simp; omega, by simpa [stCells] using HY9.out, Hd.mk (HO.out.1.snoc HO.out.2.1), HF2⟩
            · have k1' : ((O k).kind == 1) = false := by simpa using k1
              have HF2 := Hd.mk (HFN.out.trans (by rw [after_del k0 k1, ← HO.out.2.2]))
              clear hsl
              go_wp2_with fail
              go_roundg gq
              case measure => have := HG.out; have := HGQ.out; omega
              case rel => exact ⟨i + 1, S', by go_num, by have := HG.out; have := HGQ.out; omega, by omega, HY7.out, Hd.mk HO.out.1, HF2⟩
    · obtain rfl : i = m := by omega
      have HF2 := Hd.mk (HF.out.trans (by rw [show l.drop i = [] by rw [← HL.out]; exact List.drop_length, fits_nil]))
      have HY := Hd.mk y
      clear hi hg y
      go_wp2_with fail
      go_ret
      exact ⟨rb HF2.out.symm, HY.out.upd⟩
end Go.Proofs.Ytbdiejlodedelaa
