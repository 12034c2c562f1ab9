/- Holders: what one is; New, set, Load, Swap. -/
import Derived.Test.YtaefooandfnloaaDoorH1
import Derived.Deep.DeepCutAuto

namespace Go.Proofs.YtaefooandfnloaaDoor
set_option linter.unusedSimpArgs false
set_option linter.unusedVariables false
set_option linter.unnecessarySimpa false
open Go.RowKit BigFrame

/-- No block that a tree may lead to. -/
def Fgn (w : World) (k : Nat) : Prop := ∀ cs t, Blk w k cs t → t ≠ 74 ∧ t ≠ 87 ∧ t ≠ 43 ∧ t ≠ 56
theorem Blk.fgn {w : World} {k : Nat} {cs : List Value} {t : TypeId} (h : Blk w k cs t) (ht : (t != 74 && t != 87 && t != 43 && t != 56) = true) : Fgn w k := by
  intro cs' t' h'
  obtain ⟨-, rfl⟩ := h.uniq h'
  simpa [and_assoc] using ht
theorem Sl.fgn {w : World} {e : TypeId} {sz : Nat} {v : Value} {n : Nat} {xs : List Value} (h : Sl w e sz v n xs) (he : e = 87 ∨ e = 43) : ∀ k, k ∈ ownB v → ¬ Fgn w k := by
  intro k hk hf
  rcases h.2 with ⟨rfl, _⟩ | ⟨g, o, cap, cur, rfl, hb, _⟩
  · simp [ownB] at hk
  · simp [ownB] at hk
    subst hk
    have := hf _ _ hb
    rcases he with rfl | rfl
    · exact this.2.1 rfl
    · exact this.2.2.1 rfl
mutual
theorem NdV.fgn : ∀ {t : T} {w : World} {X : Nat → Prop} {v : Value}, NdV w X t v → NdV w (Fgn w) t v
  | .nil, _, _, _, h => by simpa [NdV] using h
  | .node es nx pa re en, w, X, v, h => by
    simp only [NdV] at h ⊢
    obtain ⟨b, ev, nv, pv, rv, sv, n, cs, h1, h2, h3, h4, h5, h6, h7, h8, h9, h10, h11⟩ := h
    exact ⟨b, ev, nv, pv, rv, sv, n, cs, h1, h2, fun e => (e _ _ h2).1 rfl, h4, h4.fgn (.inl rfl), EdV.fgn h6, NdV.fgn h7, NdV.fgn h8, NdV.fgn h9, h10, h10.fgn (.inr rfl)⟩
theorem EdV.fgn : ∀ {es : E} {w : World} {X : Nat → Prop} {cs : List Value}, EdV w X es cs → EdV w (Fgn w) es cs
  | .nil, _, _, _, h => by simpa [EdV] using h
  | .cons t d tl, w, X, cs, h => by
    simp only [EdV] at h ⊢
    obtain ⟨p, r, h1, h2, h3⟩ := h
    exact ⟨p, r, h1, NdV.fgn h2, EdV.fgn h3⟩
end
theorem Tr.updF {w w' : World} {v : Value} {L : List Rt} {S : List Nat} (h : Tr w v L) (hu : Upd S w w') (hS : ∀ k ∈ S, Fgn w k) : Tr w' v L := by
  obtain ⟨⟨n, h1, h2⟩, h3⟩ := h
  refine ⟨⟨n, ?_, h2⟩, h3⟩
  rcases h1 with h1 | ⟨b, rv, e1, e2, e3⟩
  · exact .inl h1
  · exact .inr ⟨b, rv, e1, hu.blk e2 (fun e => (hS b e _ _ e2).2.2.2 rfl), e3.fgn.move hu hS (by simp)⟩
theorem Sl.updF {w w' : World} {v : Value} {n : Nat} {xs : List Value} {S : List Nat} (h : Sl w 43 3 v n xs) (hu : Upd S w w') (hS : ∀ k ∈ S, Fgn w k) : Sl w' 43 3 v n xs :=
  h.upd hu fun k hk e => h.fgn (.inr rfl) k hk (hS k e)
/-- The routes that may stand beside one another; else none. -/
def fixL (L : List Rt) : List Rt := if chk L = 0 then L else []
theorem fixL_chk (L : List Rt) : chk (fixL L) = 0 := by
  unfold fixL
  split
  · assumption
  · decide
theorem fixL_prs (s : Bs) : fixL (prs s).2 = (prs s).2 := by unfold fixL; rw [if_pos (prs_chk s)]
theorem fixL_mem {L : List Rt} {r : Rt} (h : r ∈ fixL L) : r ∈ L := by
  unfold fixL at h
  split at h
  · exact h
  · cases h
theorem fixL_len (L : List Rt) : (fixL L).length ≤ 24 := (chk_rgt (fixL_chk L)).1
theorem fixL_rgt {L : List Rt} (hz : ∀ r ∈ L, r.p.length ≤ 800000 ∧ r.m.length ≤ 800000) : ∀ r ∈ fixL L, Rgt r := fun r hr => rgtB_rgt ((chk_rgt (fixL_chk L)).2 r hr) (hz r (fixL_mem hr)).1
/-- A table as it is: its tree, its routes. -/
structure Snp (w : World) (tv rv : Value) (L : List Rt) : Prop where
  tr : Tr w tv L
  rs : Sl w 43 3 rv L.length (L.flatMap Rt.cells)
  ok : chk L = 0
  le : ∀ r ∈ L, r.p.length ≤ 800000 ∧ r.m.length ≤ 800000
  ptr : ∃ b, tv = .pointer (some ⟨b, 0, none⟩)
theorem Snp.upd {w w' : World} {tv rv : Value} {L : List Rt} {S : List Nat} (h : Snp w tv rv L) (hu : Upd S w w') (hS : ∀ k ∈ S, Fgn w k) : Snp w' tv rv L :=
  ⟨h.tr.updF hu hS, h.rs.updF hu hS, h.ok, h.le, h.ptr⟩
theorem Snp.up {w w' : World} {tv rv : Value} {L : List Rt} (h : Snp w tv rv L) (hu : Upd [] w w') : Snp w' tv rv L := h.upd hu (by simp)
theorem Snp.len {w : World} {tv rv : Value} {L : List Rt} (h : Snp w tv rv L) : L.length ≤ 24 := (chk_rgt h.ok).1
/-- A holder. -/
structure Hol (w : World) (hb : Nat) (tv rv : Value) (n : Nat) (L : List Rt) : Prop where
  blk : Blk w hb [tv, .int .i64 n, rv] 52
  sn : Snp w tv rv L
theorem Hol.up {w w' : World} {hb n : Nat} {tv rv : Value} {L : List Rt} (h : Hol w hb tv rv n L) (hu : Upd [] w w') : Hol w' hb tv rv n L := ⟨hu.blk h.blk (by simp), h.sn.up hu⟩
theorem holder_fgn {w : World} {hb : Nat} {cs : List Value} (h : Blk w hb cs 52) : Fgn w hb := h.fgn (by decide)
theorem Snp.updH {w w' : World} {tv rv : Value} {L : List Rt} {hb : Nat} {cs : List Value} (h : Snp w tv rv L) (hbl : Blk w hb cs 52) (hu : Upd [hb] w w') : Snp w' tv rv L :=
  h.upd hu (by intro k hk; rw [List.mem_singleton] at hk; subst hk; exact holder_fgn hbl)
def SetQ (hb n : Nat) (M : List Rt) (w : World) (e : Ending) (w' : World) : Prop := ∃ tv rv, e = .returned (.tuple #[]) ∧ Hol w' hb tv rv (n + 1) M ∧ Upd [hb] w w'
set_option maxRecDepth 100000 in
set_option maxHeartbeats 4000000 in
theorem set_ok (hb n : Nat) (tv rv lv : Value) (L : List Rt) (w : World) (hT : HTab w) (hh : Blk w hb [tv, .int .i64 n, rv] 52) (h1 : tv.oneCell' = true) (h2 : rv.oneCell' = true) (hn : n ≤ 1000000) (hl : Sl w 43 3 lv L.length (L.flatMap Rt.cells)) (hm : L.length ≤ 200000) (hz : ∀ r ∈ L, r.p.length ≤ 800000 ∧ r.m.length ≤ 800000) :
    Calls Tryd.prog 15 #[.pointer (some ⟨hb, 0, none⟩), lv] w (SetQ hb n (fixL L) w) := by
  obtain ⟨la, lc, rfl⟩ := hl.form
  have HL := Hd.mk hl
  have HZ := Hd.mk hz
  have HB := Hd.mk hh
  have HC := Hd.mk (check_ok L (.slice la L.length lc) w hT hl (by omega) hz)
  clear hT hh hl hz
  go_enter Tryd.func15, Tryd.ntmps15
  go_wp2_with fail
  refine HC.out.mono ?_
  rintro e w2 ⟨rfl, u2⟩
  have HU := Hd.mk u2
  have HL := Hd.mk (HL.out.upd u2 (by simp))
  have HB := Hd.mk (u2.blk HB.out (by simp))
  have HFL := Hd.mk (And.intro (fixL_len L) (fixL_rgt HZ.out))
  clear u2 HC
  go_upto_if 7 with (fail)
  go_cut [1] (fun s1 W => ∃ a c, s1 = .slice a (fixL L).length c ∧ Hd (Sl w2 43 3 s1 (fixL L).length ((fixL L).flatMap Rt.cells)) ∧ W = w2)
  case first =>
    by_cases h0 : chk L = 0
    · have HE := Hd.mk (show fixL L = L by unfold fixL; rw [if_pos h0])
      rw [h0]
      go_wp2_with fail
      go_meet
      case rel => exact ⟨la, lc, by rw [HE.out], Hd.mk (by rw [HE.out]; exact HL.out), rfl⟩
    · have HE := Hd.mk (show fixL L = [] by unfold fixL; rw [if_neg h0])
      have d0 : (((chk L : Nat) : Int) != 0) = true := by simp; omega
      generalize chk L = ck at *
      clear h0
      go_wp2_with fail
      go_meet
      case rel => exact ⟨none, 0, by rw [HE.out]; rfl, Hd.mk (by rw [HE.out]; exact Sl.nil _ _ _), rfl⟩
  case rest =>
    obtain ⟨a, c, rfl, HS, rfl⟩ := hcut
    have HSN := Hd.mk (show ∀ r ∈ fixL L, r.p.length ≤ 800000 ∧ r.m.length ≤ 800000 from fun r hr => HZ.out r (fixL_mem hr))
    have HOK := Hd.mk (fixL_chk L)
    generalize fixL L = M at *
    have HTW := Hd.mk (fun X (hu : Upd [] wc X) => (Tr.with_ (.pointer none) (.slice a M.length c) [] M X (Tr.nil _) (HS.out.upd hu (by simp)) HFL.out.2 (by have := HFL.out.1; simp; omega)).mono (R' := fun e w6 => ∃ tb, e = .returned (.pointer (some ⟨tb, 0, none⟩)) ∧ Tr w6 (.pointer (some ⟨tb, 0, none⟩)) M ∧ Upd [] wc w6 ∧ Upd [] X w6) (by rintro e w6 ⟨tb, rfl, ht, h6⟩; exact ⟨tb, rfl, ht, hu.trans h6 (by simp), h6⟩))
    have HAP := Hd.mk (fun X (hu : Upd [] wc X) => HS.out.upd hu (by simp))
    have HM24 := HFL.out.1
    have h1c : (M.flatMap Rt.cells).all (·.oneCell') = true := by
      rw [List.all_eq_true]
      intro v hv
      obtain ⟨r, -, hr⟩ := List.mem_flatMap.1 hv
      simp only [Rt.cells, List.mem_cons, List.not_mem_nil, or_false] at hr
      rcases hr with rfl | rfl | rfl <;> rfl
    have H1C := Hd.mk h1c
    have b := HB.out
    have c0 := b.cell 0
    have c1 := b.cell 1
    have c2 := b.cell 2
    simp only [List.getElem?_cons_zero, List.getElem?_cons_succ] at c0 c1 c2
    have f0 := b.free 0
    have f1 := b.free 1
    have f2 := b.free 2
    have tok1 := H1C
    have tok2 := H1C
    clear b h1c
    go_upto_region 3 with (fail)
    go_region_law (first
      | (have _t := tok1; refine step_func_ex rfl 23 #[.tmp 9, .tmp 10] #[29, 30] rfl #[.pointer none, .slice a M.length c] (by go_simp) (by go_simp) ?_; refine (Calls.mono (HTW.out _ ?hup) ?_); (case hup => repeat (first | with_reducible exact HU5.out | with_reducible exact Upd.refl _ _ | ((with_reducible refine Upd.set ?_ _ _ ?hne); (case hne => (simp; omega))) | with_reducible apply Upd.drewN | with_reducible apply Upd.drew | with_reducible apply Upd.alloc)); rintro e w6 ⟨tb, rfl, htr, hu6, hx6⟩; refine ⟨_, rfl, ?_⟩; have HT6 := Hd.mk htr; have HU6 := Hd.mk hu6; have HX6 := Hd.mk hx6; have b6 := hu6.blk HB.out (by simp); have c60 := b6.cell 0; have c61 := b6.cell 1; have c62 := b6.cell 2; have f60 := b6.free 0; have f61 := b6.free 1; have f62 := b6.free 2; simp only [List.getElem?_cons_zero, List.getElem?_cons_succ] at c60 c61 c62; clear tok1 _t htr hu6 hx6 b6)
      | (have _t := tok2; refine step_append_any rfl (.const (.slice none 0 0)) (.tmp 18) 30 rfl 43 (.agg #[.string ⟨#[]⟩, .string ⟨#[]⟩, .string ⟨#[]⟩]) 3 48 Tryd.underlying30 (by kernel_rfl) rfl (.slice none 0 0) 0 [] rfl (Sl.nil _ _ _) (.slice a M.length c) M.length (M.flatMap Rt.cells) (by go_simp) (HAP.out _ ?hup) H1C.out (by omega) (by omega) ?_; (case hup => repeat (first | with_reducible exact HU6.out | with_reducible exact Upd.refl _ _ | ((with_reducible refine Upd.set ?_ _ _ ?hne); (case hne => (simp; omega))) | with_reducible apply Upd.drewN | with_reducible apply Upd.drew | with_reducible apply Upd.alloc)); intro v5 w5 s5 u5 o5; simp only [Nat.zero_add, List.nil_append] at s5; obtain ⟨a5, p5, rfl⟩ := s5.form; have HS5 := Hd.mk s5; have HX5 := Hd.mk u5; have HU5 := Hd.mk (show Upd [] wc w5 by (refine Upd.trans (T := []) ?hup u5 (by simp); case hup => repeat (first | with_reducible exact HU6.out | with_reducible exact Upd.refl _ _ | ((with_reducible refine Upd.set ?_ _ _ ?hne); (case hne => (simp; omega))) | with_reducible apply Upd.drewN | with_reducible apply Upd.drew | with_reducible apply Upd.alloc))); have b5 := HU5.out.blk HB.out (by simp); have c50 := b5.cell 0; have c51 := b5.cell 1; have c52 := b5.cell 2; have f50 := b5.free 0; have f51 := b5.free 1; have f52 := b5.free 2; simp only [List.getElem?_cons_zero, List.getElem?_cons_succ] at c50 c51 c52; clear tok2 _t s5 u5 o5 b5))
    all_goals
      first
        | (have HT9 := Hd.mk (HT6.out.upd HX5.out))
        | (have HT9 := HT6)
      first
        | (have HS9 := Hd.mk (HS5.out.upd HX6.out (by simp)))
        | (have HS9 := HS5)
      first
        | (have HU9 := Hd.mk (HU6.out.trans HX5.out (by simp [ownB])))
        | (have HU9 := Hd.mk (HU5.out.trans HX6.out (by simp)))
      have HB9 := Hd.mk (HU9.out.blk HB.out (by simp))
      have hw : IntKind.i64.wrap ((n : Int) + 1) = ((n + 1 : Nat) : Int) := by rw [IntKind.wrap_i64]; omega
      have HUU := Hd.mk (fun (W : World) (a b c : Value) => (((Upd.refl [hb] W).set ⟨hb, 0, none⟩ a (by simp)).set ⟨hb, 1, none⟩ b (by simp)).set ⟨hb, 2, none⟩ c (by simp))
      go_wp2_with fail
      go_end0
      have hfg := fun k (hk : k ∈ [hb]) => (List.mem_singleton.1 hk) ▸ holder_fgn HB9.out
      refine ⟨_, _, rfl, ⟨((HB9.out.set 0 _).set 1 _).set 2 _ |>.as (by rw [hw]; rfl), ⟨HT9.out.updF (HUU.out _ _ _ _) hfg, HS9.out.updF (HUU.out _ _ _ _) hfg, HOK.out, HSN.out, _, rfl⟩⟩, ((HU.out.trans HU9.out (by simp)).mono (by simp)).trans (HUU.out _ _ _ _) (by simp)⟩
def NewQ (L : List Rt) (w : World) (e : Ending) (w' : World) : Prop := ∃ hb tv rv, e = .returned (.pointer (some ⟨hb, 0, none⟩)) ∧ Hol w' hb tv rv 1 (fixL L) ∧ Upd [] w w' ∧ w.heap.size ≤ hb
set_option maxRecDepth 100000 in
set_option maxHeartbeats 4000000 in
theorem new_ok (lv : Value) (L : List Rt) (w : World) (hT : HTab w) (hl : Sl w 43 3 lv L.length (L.flatMap Rt.cells)) (hm : L.length ≤ 200000) (hz : ∀ r ∈ L, r.p.length ≤ 800000 ∧ r.m.length ≤ 800000) :
    Calls Tryd.prog 7 #[lv] w (NewQ L w) := by
  obtain ⟨la, lc, rfl⟩ := hl.form
  have HL := Hd.mk hl
  have HT := Hd.mk hT
  have HZ := Hd.mk hz
  clear hT hl hz
  go_enter Tryd.func7, Tryd.ntmps7
  go_wp2_with fail
  refine (set_ok w.heap.size 0 (.pointer none) (.slice none 0 0) (.slice la L.length lc) L _ (HT.out.upd ((Upd.refl [] w).alloc _)) (Blk.new w [.pointer none, .int .i64 0, .slice none 0 0] 52 _ rfl) rfl rfl (by omega) (HL.out.alloc _) hm HZ.out).mono ?_
  rintro e w2 ⟨tv, rv, rfl, hh, hu⟩
  go_wp2_with fail
  go_ret
  exact ⟨_, tv, rv, rfl, hh, ((Upd.refl [] w).alloc _).trans hu (by intro k hk e; rw [List.mem_singleton] at e; omega), Nat.le_refl _⟩
set_option maxHeartbeats 2000000 in
theorem load_ok (hb n : Nat) (tv rv : Value) (L : List Rt) (w : World) (h : Hol w hb tv rv n L) : Calls Tryd.prog 9 #[.pointer (some ⟨hb, 0, none⟩)] w fun e w' => e = .returned (.agg #[tv, .int .i64 n, rv]) ∧ Upd [] w w' := by
  obtain ⟨b, hs⟩ := h
  obtain ⟨tb, rfl⟩ := hs.ptr
  obtain ⟨ra, rc, rfl⟩ := hs.rs.form
  clear hs
  have c0 := fun Z => (b.alloc Z).cell 0
  have c1 := fun Z => (b.alloc Z).cell 1
  have c2 := fun Z => (b.alloc Z).cell 2
  simp only [List.getElem?_cons_zero, List.getElem?_cons_succ] at c0 c1 c2
  clear b
  go_enter Tryd.func9, Tryd.ntmps9
  go_wp2_with fail
  exact bodyPost_ret (results_cell _ _ _ 2 32 w.heap.size [_, _, _] 32 rfl rfl (Blk.new w _ _ _ rfl) (by kernel_rfl) (by kernel_rfl)) rfl ⟨rfl, (Upd.refl [] w).alloc _⟩
def SwapQ (hb n : Nat) (R : Nat × List Rt) (w : World) (e : Ending) (w' : World) : Prop :=
  (R.1 ≠ 0 ∧ e = .returned (.tuple #[.int .i64 0, .int .i64 R.1]) ∧ Upd [] w w') ∨
  (R.1 = 0 ∧ e = .returned (.tuple #[.int .i64 ((n + 1 : Nat) : Int), .int .i64 0]) ∧ ∃ tv' rv', Hol w' hb tv' rv' (n + 1) R.2 ∧ Upd [hb] w w')
set_option maxRecDepth 100000 in
set_option maxHeartbeats 4000000 in
theorem swap_ok (hb n : Nat) (tv rv : Value) (L : List Rt) (s : Bs) (w : World) (hT : HTab w) (h : Hol w hb tv rv n L) (hn : n ≤ 1000000) (hz : s.length ≤ 100000) :
    Calls Tryd.prog 8 #[.pointer (some ⟨hb, 0, none⟩), S s] w (SwapQ hb n (prs s) w) := by
  have HT := Hd.mk hT
  have HH := Hd.mk h
  have HP := Hd.mk (parse_ok s w hT hz)
  have HLE := Hd.mk (prs_le s)
  have HFX := Hd.mk (fixL_prs s)
  have hlen := (chk_rgt (prs_chk s)).1
  have h3 : (prs s).1 ≤ 3 := by
    unfold prs
    split
    · show 1 ≤ 3
      omega
    · split
      · show 0 ≤ 3
        omega
      · exact chk_le3 _
  unfold ParseQ at HP
  clear hT h
  generalize prs s = R at *
  obtain ⟨c, M⟩ := R
  go_enter Tryd.func8, Tryd.ntmps8
  go_wp2_with fail
  refine HP.out.mono ?_
  rintro e w2 ⟨v, rfl, hb2⟩
  obtain ⟨va, vc, rfl⟩ := hb2.sl.form
  have HB2 := Hd.mk hb2
  clear hb2
  by_cases h0 : c = 0
  · subst h0
    go_wp2_with fail
    refine (set_ok hb n tv rv (.slice va M.length vc) M w2 (HT.out.upd HB2.out.upd) (HB2.out.upd.blk HH.out.blk (by simp)) (by obtain ⟨b, h⟩ := HH.out.sn.ptr; rw [h]; rfl) (by obtain ⟨a, p, h⟩ := HH.out.sn.rs.form; rw [h]; rfl) hn HB2.out.sl (by omega) (fun r hr => by have := HLE.out r hr; omega)).mono ?_
    rintro e w3 ⟨tv', rv', rfl, hh, hu⟩
    rw [HFX.out] at hh
    have c1 := hh.blk.cell 1
    simp only [List.getElem?_cons_zero, List.getElem?_cons_succ] at c1
    have HH3 := Hd.mk hh
    have HU3 := Hd.mk (show Upd [hb] w w3 from (HB2.out.upd.mono (by simp)).trans hu (by simp))
    clear hh hu
    go_wp2_with fail
    go_ret2
    exact .inr ⟨rfl, rfl, tv', rv', HH3.out, HU3.out⟩
  · have d0 : (((c : Nat) : Int) != 0) = true := by simp; omega
    have HN := Hd.mk h0
    clear h0
    go_wp2_with fail
    go_ret2
    exact .inl ⟨HN.out, rfl, HB2.out.upd⟩
theorem snap_f0 (p : Option Addr) (z : Int) (a : Option Addr) (k c : Nat) (W : World) : (Instr.field 32 (.agg #[.pointer p, .int .i64 z, .slice a k c]) 0).run Tryd.prog W = .ok (.pointer p) W := by kernel_rfl
theorem snap_f1 (p : Option Addr) (z : Int) (a : Option Addr) (k c : Nat) (W : World) : (Instr.field 32 (.agg #[.pointer p, .int .i64 z, .slice a k c]) 1).run Tryd.prog W = .ok (.int .i64 z) W := by kernel_rfl
theorem snap_f2 (p : Option Addr) (z : Int) (a : Option Addr) (k c : Nat) (W : World) : (Instr.field 32 (.agg #[.pointer p, .int .i64 z, .slice a k c]) 2).run Tryd.prog W = .ok (.slice a k c) W := by kernel_rfl
end Go.Proofs.YtaefooandfnloaaDoor
