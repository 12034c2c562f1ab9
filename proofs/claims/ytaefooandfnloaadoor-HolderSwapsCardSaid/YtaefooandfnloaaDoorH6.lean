/- Holders: HolderSwaps. -/
import Derived.Test.YtaefooandfnloaaDoorH5
namespace Go.Proofs.YtaefooandfnloaaDoor
set_option linter.unusedSimpArgs false
set_option linter.unusedVariables false
set_option linter.unnecessarySimpa false
open Go.RowKit BigFrame

/-- A table that was handed out. -/
structure Sp where
  tb : Nat
  n : Nat
  ra : Option Addr
  rc : Nat
  L : List Rt
def Sp.cells (s : Sp) : List Value := [.pointer (some ⟨s.tb, 0, none⟩), .int .i64 s.n, .slice s.ra s.L.length s.rc]
def SpOk (w : World) (s : Sp) : Prop := Snp w (.pointer (some ⟨s.tb, 0, none⟩)) (.slice s.ra s.L.length s.rc) s.L
structure OldOk (w : World) (O : List Sp) (n : Nat) : Prop where
  ok : ∀ s ∈ O, SpOk w s ∧ s.n ≤ n
  up : ∀ j (h : j + 1 < O.length), O[j].n ≤ O[j + 1].n
theorem Sl.fgnS {w : World} {v : Value} {n : Nat} {xs : List Value} (h : Sl w 32 3 v n xs) : ∀ k, k ∈ ownB v → Fgn w k := by
  intro k hk
  rcases h.2 with ⟨rfl, _⟩ | ⟨g, o, cap, cur, rfl, hb, _⟩
  · simp [ownB] at hk
  · simp [ownB] at hk
    subst hk
    exact hb.fgn (by decide)
theorem OldOk.updF {w w' : World} {O : List Sp} {n : Nat} {X : List Nat} (h : OldOk w O n) (hu : Upd X w w') (hX : ∀ k ∈ X, Fgn w k) : OldOk w' O n := ⟨fun s hs => ⟨(h.ok s hs).1.upd hu hX, (h.ok s hs).2⟩, h.up⟩
theorem OldOk.nil (w : World) (n : Nat) : OldOk w [] n := ⟨by simp, by simp⟩
theorem OldOk.over {w w' : World} {O : List Sp} {n : Nat} (h : OldOk w O n) (hu : Upd [] w w') : OldOk w' O n := ⟨fun s hs => ⟨(h.ok s hs).1.up hu, (h.ok s hs).2⟩, h.up⟩
theorem OldOk.overH {w w' : World} {O : List Sp} {n hb : Nat} {cs : List Value} (h : OldOk w O n) (hbl : Blk w hb cs 52) (hu : Upd [hb] w w') : OldOk w' O (n + 1) := ⟨fun s hs => ⟨(h.ok s hs).1.updH hbl hu, by have := (h.ok s hs).2; omega⟩, h.up⟩
theorem OldOk.snoc {w : World} {O : List Sp} {s : Sp} (h : OldOk w O s.n) (hs : SpOk w s) : OldOk w (O ++ [s]) s.n := by
  refine ⟨fun x hx => ?_, fun j hj => ?_⟩
  · rcases List.mem_append.1 hx with h1 | h1
    · exact h.ok x h1
    · rw [List.mem_singleton] at h1; subst h1; exact ⟨hs, Nat.le_refl _⟩
  · simp only [List.length_append, List.length_singleton] at hj
    rw [List.getElem_append_left (by omega)]
    by_cases e : j + 1 < O.length
    · rw [List.getElem_append_left e]; exact h.up j e
    · have : j + 1 = O.length := by omega
      rw [List.getElem_append_right (by omega)]
      simp only [List.getElem_singleton]
      exact (h.ok _ (List.getElem_mem _)).2
theorem sp_get : ∀ (O : List Sp) (j q : Nat) (hj : j < O.length), q < 3 → (O.flatMap Sp.cells)[j * 3 + q]? = (O[j]).cells[q]?
  | [], _, _, h, _ => by simp at h
  | s :: O, 0, q, _, hq => by
    rw [List.flatMap_cons, List.getElem?_append_left (by simp [Sp.cells]; omega)]
    simp
  | s :: O, j + 1, q, hj, hq => by
    rw [List.flatMap_cons, List.getElem?_append_right (by simp [Sp.cells]; omega)]
    have := sp_get O j q (by simpa using hj) hq
    simp only [List.getElem_cons_succ]
    rw [← this]
    congr 1
    simp [Sp.cells]
    omega
theorem sp_len (O : List Sp) : (O.flatMap Sp.cells).length = O.length * 3 := by
  induction O with
  | nil => rfl
  | cons s O ih => rw [List.flatMap_cons, List.length_append, ih]; simp [Sp.cells]; omega
/-- A row of tables stays where the holder's own block is written. -/
theorem Bld.overH {w0 w w' : World} {e : TypeId} {sz : Nat} {v : Value} {n : Nat} {xs : List Value} {hb : Nat} {cs : List Value} {t : TypeId} (h : Bld w0 w e sz v n xs) (hbl : Blk w hb cs t) (ht : t ≠ e) (hu : Upd [hb] w w') (hge : w0.heap.size ≤ hb) : Bld w0 w' e sz v n xs where
  sl := h.sl.upd hu (fun k hk e' => by rw [List.mem_singleton] at e'; exact h.sl.other ht k hk cs (e' ▸ hbl))
  own := h.own
  upd := h.upd.trans hu (by intro k hk e; rw [List.mem_singleton] at e; omega)
theorem eq_route (a b c : ByteArray) (w : World) : (Op.equal 43 (.agg #[.string a, .string b, .string c]) (.agg #[.string a, .string b, .string c])).run Tryd.prog w = .ok true w := by
  unfold Op.equal
  show (Op.equalIn 10000 _ _ _).run _ _ = _
  go_simp
set_option maxRecDepth 100000 in
set_option maxHeartbeats 16000000 in
theorem swaps_row (a0 : Option Addr) (len0 cap0 : Nat) (a1 : Option Addr) (len1 cap1 : Nat) (w : World) (hT : HTab w) (w0 : Leaf.ok w (.sl [.str]) (.slice a0 len0 cap0)) (w1 : Leaf.ok w (.sl [.str]) (.slice a1 len1 cap1)) :
    Calls Tryd.prog 4 #[.slice a0 len0 cap0, .slice a1 len1 cap1] w fun e w' => e = .returned (.bool true) ∧ Below w.heap.size w w' := by
  obtain ⟨T, rfl, hT0, hn0, hz0⟩ := leaf_texts w0
  obtain ⟨p, rfl, hp, hn1, hz1⟩ := leaf_texts w1
  have HT := Hd.mk hT
  have HTX := Hd.mk (And.intro hT0 hz0)
  have HP := Hd.mk (And.intro hp hz1)
  clear hT w0 w1 hT0 hz0 hp hz1
  have sf0 := snap_f0
  have sf1 := snap_f1
  go_enter Tryd.func4, Tryd.ntmps4
  go_wp2_with fail
  refine (hfit_ok w HT.out).mono ?_
  rintro e w1 ⟨rfl, u1⟩
  have HU := Hd.mk u1
  clear u1
  by_cases h12 : 20 < T.length
  · have d0 : decide ((20 : Int) < T.length) = true := decide_eq_true (by omega)
    go_wp2_with fail
    go_ret
    exact ⟨rfl, HU.out.below _ (Nat.le_refl _) (by simp)⟩
  have d0 : decide ((20 : Int) < T.length) = false := decide_eq_false (by omega)
  by_cases h13 : 12 < p.length
  · have d1 : decide ((12 : Int) < p.length) = true := decide_eq_true (by omega)
    go_wp2_with fail
    go_ret
    exact ⟨rfl, HU.out.below _ (Nat.le_refl _) (by simp)⟩
  have d1 : decide ((12 : Int) < p.length) = false := decide_eq_false (by omega)
  have HPZ := Hd.mk (And.intro (sumL_52 (show p.length ≤ 12 by omega) HP.out.2) (show p.length ≤ 12 by omega))
  have hT20 : T.length ≤ 20 := by omega
  go_wp2_with fail
  refine (first_ok w1 (HT.out.upd HU.out)).mono ?_
  rintro e w2 ⟨fa, fc, rfl, hb⟩
  have HU := Hd.mk (HU.out.trans hb.upd (by simp))
  have HN := Hd.mk (new_ok (.slice fa 8 fc) frsL w2 (HT.out.upd HU.out) hb.sl (by decide) (by decide))
  clear hb d0 d1 h12 h13
  go_wp2_with fail
  refine HN.out.mono ?_
  rintro e w3 ⟨hb, tv, rv, rfl, hh, hu, hge⟩
  rw [first_fix] at hh
  have HH := Hd.mk hh
  have HGE := Hd.mk hge
  have HU3 := Hd.mk hu
  clear hh hu hge HN
  go_upto_region 9 with (fail)
  go_loopg [6, 7, 9, 10, 11, 12, 13, 14, 15, 16, 38] T.length (fun g s6 s7 s9 s10 s11 s12 s13 s14 s15 s16 ii wr => ∃ (i n : Nat) (tv rv : Value) (L : List Rt) (O : List Sp), g + i = T.length ∧ ii = .int .i64 i ∧ n ≤ i + 1 ∧ s6 = .int .i64 n ∧ O.length = i ∧ Hd (Hol wr hb tv rv n L) ∧ Hd (Bld w2 wr 32 3 s7 O.length (O.flatMap Sp.cells)) ∧ Hd (OldOk wr O n))
  case atStart => exact ⟨0, 1, _, _, _, [], by omega, rfl, by omega, rfl, rfl, HH, Hd.mk (Bld.nil HU3.out _ _), Hd.mk (OldOk.nil _ _)⟩
  case round =>
    obtain ⟨i, n, tv, rv, L, O, hg, rfl, hn, rfl, hO, HC, HB, HO⟩ := hrel
    subst hO
    have HG := Hd.mk hg
    clear hg
    obtain ⟨va, vc, rfl⟩ := HB.out.sl.form
    have HUV := Hd.mk (HU.out.trans HB.out.upd (by simp))
    by_cases hi : O.length < T.length
    · obtain ⟨b, off, cap, hv, -, -, hc⟩ := (HTX.out.1.upd HUV.out (by simp)).some (by omega)
      simp only [Value.slice.injEq, true_and] at hv
      obtain ⟨rfl, rfl⟩ := hv
      have k0 := hc O.length (by omega)
      rw [List.getElem?_map, List.getElem?_eq_getElem hi] at k0
      generalize T[O.length] = x at k0
      rw [Option.map_some] at k0
      obtain ⟨xb, hx, hxx, hxz⟩ := S_ex x
      have HX := Hd.mk hx
      rw [hx] at k0
      clear hc hx hxx
      by_cases h15 : 2000 < xb.size
      · have d0 : decide ((2000 : Int) < xb.size) = true := decide_eq_true (by omega)
        go_wp2_with fail
        go_ret
        exact ⟨rfl, HUV.out.below _ (Nat.le_refl _) (by simp)⟩
      have d0 : decide ((2000 : Int) < xb.size) = false := decide_eq_false (by omega)
      have HPA := Hd.mk (parse_ok x wr (HT.out.upd HUV.out) (by omega))
      have HSWP := Hd.mk (fun W tv rv (h : Hol W hb tv rv n L) (h2 : HTab W) => swap_ok hb n tv rv L x W h2 h (by omega) (by omega))
      have HMZ := Hd.mk (chk_rgt (prs_chk x)).1
      have HPOK := Hd.mk (@prs_ok x)
      rw [HX.out] at HPA HSWP
      generalize prs x = R at HPA HSWP HMZ HPOK
      obtain ⟨c, M⟩ := R
      have hm24 : M.length ≤ 24 := HMZ.out
      clear HX hxz h15
      go_wp2_with fail
      refine HPA.out.mono ?_
      rintro e w4 ⟨pv, rfl, hpb⟩
      obtain ⟨pa, pc, rfl⟩ := hpb.sl.form
      have HPB := Hd.mk hpb
      have HC := Hd.mk (HC.out.up hpb.upd)
      have HB := Hd.mk (HB.out.over hpb.upd)
      have HO := Hd.mk (HO.out.over hpb.upd)
      clear hpb k0 d0 HPA
      have h0 := HC.out
      obtain ⟨tb, rfl⟩ := h0.sn.ptr
      obtain ⟨ra, rc, rfl⟩ := h0.sn.rs.form
      clear h0
      go_wp2_with fail
      refine (load_ok hb n _ _ L w4 HC.out).mono ?_
      rintro e w5 ⟨rfl, u5⟩
      go_upto_region 15 with (fail)
      refine wp_abs (fun W => Blk W w5.heap.size [.pointer (some ⟨tb, 0, none⟩), .int .i64 n, .slice ra L.length rc] 32 ∧ Upd [] w4 W) ⟨Blk.new w5 _ _ _ rfl, u5.alloc _⟩ ?_
      have HLT := Hd.mk (show ∀ k, k ∈ ownB (Value.slice va O.length vc) → k ≠ w5.heap.size from fun k hk e => by have := HB.out.sl.lt k hk; have := u5.size; omega)
      generalize w5.heap.size = sb at HLT ⊢
      clear u5
      rintro w6 ⟨bs, u6⟩
      have HPB := Hd.mk (HPB.out.over u6)
      have HC := Hd.mk (HC.out.up u6)
      have HB := Hd.mk (HB.out.over u6)
      have HO := Hd.mk (HO.out.over u6)
      have HBS := Hd.mk bs
      have c0 := bs.cell 0
      have c1 := bs.cell 1
      have c2 := bs.cell 2
      simp only [List.getElem?_cons_zero, List.getElem?_cons_succ] at c0 c1 c2
      clear bs u6
      have hsl := HB.out.sl
      go_wp2_with (at_builtin; refine wpList_append_row rfl (.tmp 52) (.tmp 54) 39 rfl rfl 32 (.agg #[.pointer none, .int .i64 0, .slice none 0 0]) 3 40 Tryd.underlying39 (by kernel_rfl) rfl _ _ _ rfl hsl [.pointer (some ⟨tb, 0, none⟩), .int .i64 n, .slice ra L.length rc] rfl rfl rfl (by omega) (by omega) ?_)
      intro v7 w7 s7 u7 o7
      have hown : ∀ k, k ∈ ownB (Value.slice va O.length vc) → ∀ cs t, t ≠ 32 → ¬ Blk w6 k cs t := fun k hk cs t ht => hsl.other ht k hk cs
      have hf := hsl.fgnS
      have HC := Hd.mk (show Hol w7 hb (.pointer (some ⟨tb, 0, none⟩)) (.slice ra L.length rc) n L from ⟨u7.blk HC.out.blk (fun hk => hown _ hk _ _ (by decide) HC.out.blk), HC.out.sn.upd u7 hf⟩)
      have HO := Hd.mk ((HO.out.updF u7 hf).snoc (s := ⟨tb, n, ra, rc, L⟩) HC.out.sn)
      have HBS := Hd.mk (u7.blk HBS.out (fun hk => HLT.out _ hk rfl))
      have HPS := Hd.mk (HPB.out.sl.updF u7 hf)
      have HB := Hd.mk (show Bld w2 w7 32 3 v7 (O ++ [(⟨tb, n, ra, rc, L⟩ : Sp)]).length ((O ++ [(⟨tb, n, ra, rc, L⟩ : Sp)]).flatMap Sp.cells) from by
        rw [List.length_append, List.flatMap_append, List.flatMap_singleton]
        exact HB.out.app s7 u7 o7)
      obtain ⟨va7, vc7, rfl⟩ := s7.form
      have HUV := Hd.mk (HU.out.trans HB.out.upd (by simp))
      have hO1 : (O ++ [(⟨tb, n, ra, rc, L⟩ : Sp)]).length = O.length + 1 := by simp
      generalize hOO : O ++ [(⟨tb, n, ra, rc, L⟩ : Sp)] = O1 at HO HB hO1
      clear hOO hown hf hsl s7 u7 o7 c0 c1 c2 HPB HLT
      by_cases hc0 : c = 0
      · subst hc0
        go_upto_region 16 with (fail)
        go_wp2_with fail
        refine (HSWP.out w7 _ _ HC.out (HT.out.upd HUV.out)).mono ?_
        rintro e w8 (⟨h, -⟩ | ⟨-, rfl, tv2, rv2, hh, u8⟩)
        · exact absurd rfl h
        obtain ⟨tb2, rfl⟩ := hh.sn.ptr
        obtain ⟨ra2, rc2, rfl⟩ := hh.sn.rs.form
        simp only at hh ⊢
        have hfh : ∀ k ∈ [hb], Fgn w7 k := fun k hk => (List.mem_singleton.1 hk) ▸ holder_fgn HC.out.blk
        have hsb : sb ∉ [hb] := fun e => by
          rw [List.mem_singleton] at e
          exact absurd (HBS.out.uniq (e ▸ HC.out.blk)).2 (by decide)
        have HPS := Hd.mk (HPS.out.updF u8 hfh)
        have HO := Hd.mk (HO.out.overH HC.out.blk u8)
        have HB := Hd.mk (HB.out.overH HC.out.blk (by decide) u8 HGE.out)
        have HBS := Hd.mk (u8.blk HBS.out hsb)
        have HC := Hd.mk hh
        have HUV := Hd.mk (HU.out.trans HB.out.upd (by simp))
        have hcast : ((n + 1 : Nat) : Int) = (n : Int) + 1 := by omega
        rw [hcast]
        clear hh u8 hfh hsb HSWP
        go_wp2_with fail
        refine (load_ok hb (n + 1) _ _ M w8 HC.out).mono ?_
        rintro e w9 ⟨rfl, u9⟩
        rw [hcast]
        go_upto_region 18 with (fail)
        refine wp_abs (fun W => Blk W w9.heap.size [.pointer (some ⟨tb2, 0, none⟩), .int .i64 ((n : Int) + 1), .slice ra2 M.length rc2] 32 ∧ Upd [] w8 W) ⟨Blk.new w9 _ _ _ rfl, u9.alloc _⟩ ?_
        generalize w9.heap.size = nb
        clear u9
        rintro w10 ⟨bn, u10⟩
        have HPS := Hd.mk (HPS.out.upd u10 (by simp))
        have HO := Hd.mk (HO.out.over u10)
        have HB := Hd.mk (HB.out.over u10)
        have HC := Hd.mk (HC.out.up u10)
        have HBS := Hd.mk (u10.blk HBS.out (by simp))
        have HBN := Hd.mk bn
        have d0 := bn.cell 0
        have d1 := bn.cell 1
        have d2 := bn.cell 2
        simp only [List.getElem?_cons_zero, List.getElem?_cons_succ] at d0 d1 d2
        clear bn u10
        go_wp2_with fail
        refine (Tr.len _ M w10 HC.out.sn.tr).mono ?_
        rintro e w11 ⟨rfl, hw⟩
        have hw := hw.symm
        subst hw
        go_upto_region 27 with (fail)
        obtain ⟨gq, hgq⟩ : ∃ gq, gq = gk - 1 := ⟨_, rfl⟩
        have HG := Hd.mk (show gq + (O.length + 1) = T.length ∧ gq < gk by have := HG.out; omega)
        have HON := Hd.mk hO1
        clear hgq d0 d1 d2 hO1
        go_loopg [16, 115] M.length (fun g s16 ii wq => ∃ q : Nat, g + q = M.length ∧ ii = .int .i64 q ∧ Hd (Upd [] w10 wq))
        case atStart => exact ⟨0, by omega, rfl, Hd.mk (Upd.refl _ _)⟩
        case round =>
          obtain ⟨q, hq, rfl, HQ⟩ := hrel
          have HGQ := Hd.mk hq
          clear hq
          by_cases hqm : q < M.length
          · obtain ⟨b2, o2, cp2, hv, -, -, hc⟩ := (HC.out.sn.rs.upd HQ.out (by simp)).some (by omega)
            simp only [Value.slice.injEq, true_and] at hv
            obtain ⟨rfl, rfl⟩ := hv
            obtain ⟨b3, o3, cp3, hv, -, -, hc'⟩ := (HPS.out.upd HQ.out (by simp)).some (by omega)
            simp only [Value.slice.injEq, true_and] at hv
            obtain ⟨rfl, rfl⟩ := hv
            have k0 := hc (q * 3) (by omega)
            have k1 := hc (q * 3 + 1) (by omega)
            have k2 := hc (q * 3 + 2) (by omega)
            have l0 := hc' (q * 3) (by omega)
            have l1 := hc' (q * 3 + 1) (by omega)
            have l2 := hc' (q * 3 + 2) (by omega)
            have e0 := flat_cells M q 0 hqm (by omega)
            have e1 := flat_cells M q 1 hqm (by omega)
            have e2 := flat_cells M q 2 hqm (by omega)
            rw [Nat.add_zero] at e0
            rw [e0] at k0 l0
            rw [e1, ← Nat.add_assoc] at k1 l1
            rw [e2, ← Nat.add_assoc] at k2 l2
            generalize M[q] = r at k0 k1 k2 l0 l1 l2
            obtain ⟨rm, rp, rh⟩ := r
            obtain ⟨mb, hm, -, -⟩ := S_ex rm
            obtain ⟨pb, hp, -, -⟩ := S_ex rp
            obtain ⟨hhb, hh, -, -⟩ := S_ex rh
            simp only [Rt.cells, List.getElem?_cons_zero, List.getElem?_cons_succ, hm, hp, hh] at k0 k1 k2 l0 l1 l2
            have eqr := eq_route
            have bn := HQ.out.blk HBN.out (by simp)
            have d0 := bn.cell 0
            have d1 := bn.cell 1
            have d2 := bn.cell 2
            simp only [List.getElem?_cons_zero, List.getElem?_cons_succ] at d0 d1 d2
            clear bn hc hc' e0 e1 e2 hm hp hh
            go_upto_region 29 with (fail)
            refine wp_region_quiet_lit (by kernel_rfl) (by kernel_rfl) ?_
            repeat (go_big_quiet_step (fail))
            refine wpQuiet_nil ?_
            (intro _ hw'; obtain ⟨nq, hw''⟩ := hw'; subst hw'')
            go_wp2_with fail
            go_roundg (gk - 1)
            case measure => have := HGQ.out; omega
            case rel => exact ⟨q + 1, by have := HGQ.out; omega, by go_num, Hd.mk (HQ.out.drewN nq)⟩
          · have HC := Hd.mk (HC.out.up HQ.out)
            have HB := Hd.mk (HB.out.over HQ.out)
            have HO := Hd.mk (HO.out.over HQ.out)
            obtain rfl : q = M.length := by have := HGQ.out; omega
            clear hqm HGQ
            go_wp2_with fail
            go_roundg gq
            case measure => have := HG.out; omega
            case rel => exact ⟨O.length + 1, n + 1, _, _, _, O1, by have := HG.out; omega, by go_num, by omega, by go_num, HON.out, HC, HB, HO⟩
      · have d0 : (((c : Nat) : Int) != 0) = true := by simp; omega
        have HNE := Hd.mk hc0
        clear hc0
        go_upto_region 16 with (fail)
        go_wp2_with fail
        refine (HSWP.out w7 _ _ HC.out (HT.out.upd HUV.out)).mono ?_
        rintro e w8 (⟨-, rfl, u8⟩ | ⟨h, -⟩)
        rotate_left
        · exact absurd h HNE.out
        simp only
        have HO := Hd.mk (HO.out.over u8)
        have HB := Hd.mk (HB.out.over u8)
        have HC := Hd.mk (HC.out.up u8)
        have HBS := Hd.mk (u8.blk HBS.out (by simp))
        clear u8 HSWP
        go_wp2_with fail
        refine (load_ok hb n _ _ L w8 HC.out).mono ?_
        rintro e w9 ⟨rfl, u9⟩
        go_upto_region 18 with (fail)
        refine wp_abs (fun W => Blk W w9.heap.size [.pointer (some ⟨tb, 0, none⟩), .int .i64 n, .slice ra L.length rc] 32 ∧ Upd [] w8 W) ⟨Blk.new w9 _ _ _ rfl, u9.alloc _⟩ ?_
        generalize w9.heap.size = nb
        clear u9
        rintro w10 ⟨bn, u10⟩
        have HO := Hd.mk (HO.out.over u10)
        have HB := Hd.mk (HB.out.over u10)
        have HC := Hd.mk (HC.out.up u10)
        have bs := u10.blk HBS.out (by simp)
        have c0 := bs.cell 0
        have c1 := bs.cell 1
        have c2 := bs.cell 2
        simp only [List.getElem?_cons_zero, List.getElem?_cons_succ] at c0 c1 c2
        have d0 := bn.cell 0
        have d1 := bn.cell 1
        have d2 := bn.cell 2
        simp only [List.getElem?_cons_zero, List.getElem?_cons_succ] at d0 d1 d2
        clear bn u10 bs
        go_wp2_with fail
        go_roundg (gk - 1)
        case measure => have := HG.out; omega
        case rel => exact ⟨O.length + 1, n, _, _, _, O1, by have := HG.out; omega, by go_num, by omega, rfl, hO1, HC, HB, HO⟩
    · have hO20 : O.length ≤ 20 := by have := HG.out; omega
      have d9 : decide (O.length < T.length) = false := decide_eq_false (by omega)
      clear hi HG
      clear HC HGE HU3 HH HTX
      have HU := HUV
      go_upto_region 34 with (fail)
      clear d9
      go_loopg [17, 18, 19, 20, 21, 22, 23, 132] O.length (fun g s17 s18 s19 s20 s21 s22 s23 ii wq => ∃ j : Nat, g + j = O.length ∧ ii = .int .i64 j ∧ Hd (Upd [] wr wq))
      case atStart => exact ⟨0, by omega, rfl, Hd.mk (Upd.refl _ _)⟩
      case round =>
        obtain ⟨j, hj0, rfl, HQ⟩ := hrel
        have HG := Hd.mk hj0
        clear hj0
        have HUQ := Hd.mk (HU.out.trans HQ.out (by simp))
        by_cases hj : j < O.length
        · obtain ⟨vb, vo, vcc, hv, -, -, hc⟩ := (HB.out.sl.upd HQ.out (by simp)).some (by omega)
          simp only [Value.slice.injEq, true_and] at hv
          obtain ⟨rfl, rfl⟩ := hv
          have k0 := hc (j * 3) (by omega)
          have k1 := hc (j * 3 + 1) (by omega)
          have k2 := hc (j * 3 + 2) (by omega)
          have e0 := sp_get O j 0 hj (by omega)
          have e1 := sp_get O j 1 hj (by omega)
          have e2 := sp_get O j 2 hj (by omega)
          rw [Nat.add_zero] at e0
          rw [e0] at k0
          rw [e1, ← Nat.add_assoc] at k1
          rw [e2, ← Nat.add_assoc] at k2
          have HPV := Hd.mk (show ∀ i, j = i + 1 → ∃ m : Nat, m ≤ (O[j]).n ∧ ∀ W, Upd [] wr W → W.cell? ⟨vb, vo + i * 3 + 1, none⟩ = some (.int .i64 m) from by
            intro i e
            subst e
            refine ⟨(O[i]).n, HO.out.up i hj, fun W hW => ?_⟩
            have h1 := hc (i * 3 + 1) (by omega)
            rw [sp_get O i 1 (by omega) (by omega), ← Nat.add_assoc] at h1
            exact (hW.cell (block_lt_of_cell h1) (by simp)).trans h1)
          have HSP := Hd.mk ((HO.out.over HQ.out).ok _ (List.getElem_mem hj)).1
          generalize O[j] = s at k0 k1 k2 HPV HSP
          obtain ⟨stb, sn, sra, src, sL⟩ := s
          unfold SpOk at HSP
          simp only [Sp.cells, List.getElem?_cons_zero, List.getElem?_cons_succ] at k0 k1 k2 HPV HSP
          clear hc e0 e1 e2
          go_upto_region 36 with (fail)
          refine wp_abs (fun W => Blk W wr.heap.size [.pointer (some ⟨stb, 0, none⟩), .int .i64 sn, .slice sra sL.length src] 32 ∧ Upd [] wr W) ⟨Blk.new wr _ _ _ rfl, (Upd.refl _ _).alloc _⟩ ?_
          clear k0 k1 k2
          generalize wr.heap.size = sb
          rintro w5 ⟨bs, u5⟩
          have HSP := Hd.mk (HSP.out.up u5)
          have HUQ := Hd.mk (HUQ.out.trans u5 (by simp))
          have HWQ := Hd.mk u5
          have HBS := Hd.mk bs
          have c0 := bs.cell 0
          have c1 := bs.cell 1
          have c2 := bs.cell 2
          simp only [List.getElem?_cons_zero, List.getElem?_cons_succ] at c0 c1 c2
          clear bs u5
          obtain ⟨R, hR⟩ : ∃ R, mtL sL [71, 69, 84] p = R := ⟨_, rfl⟩
          have HR := Hd.mk hR
          have hl24 := HSP.out.len
          go_wp2_with fail
          refine (hmatch _ _ sL p w5 HSP.out.tr (HP.out.1.upd HUQ.out (by simp)) HPZ.out.1 HPZ.out.2 (by omega)).mono ?_
          rintro e w6 ⟨pa1, pn1, pc1, aa1, an1, ac1, rfl, u6⟩
          rw [hR]
          go_upto_region 37 with (fail)
          refine wp_abs (fun W => Blk W w6.heap.size [.string ⟨R.1.h.toArray⟩, .slice pa1 pn1 pc1, .slice aa1 an1 ac1] 46 ∧ Upd [] w5 W) ⟨Blk.new w6 _ _ _ rfl, u6.alloc _⟩ ?_
          generalize w6.heap.size = m1
          clear u6 c0 c1 c2
          rintro w7 ⟨bm, u7⟩
          have HSP := Hd.mk (HSP.out.up u7)
          have HUQ := Hd.mk (HUQ.out.trans u7 (by simp))
          have HWQ := Hd.mk (HWQ.out.trans u7 (by simp))
          have HBS := Hd.mk (u7.blk HBS.out (by simp))
          have HM1 := Hd.mk bm
          have bs := HBS.out
          have c0 := bs.cell 0
          have c1 := bs.cell 1
          have c2 := bs.cell 2
          simp only [List.getElem?_cons_zero, List.getElem?_cons_succ] at c0 c1 c2
          clear bm u7 bs hR
          have HFX := Hd.mk (show fixL sL = sL by unfold fixL; rw [if_pos HSP.out.ok])
          go_wp2_with fail
          refine (new_ok _ sL w7 (HT.out.upd HUQ.out) HSP.out.rs (by omega) HSP.out.le).mono ?_
          rintro e w8 ⟨qb, qtv, qrv, rfl, hh, u8, hge⟩
          rw [HFX.out] at hh
          obtain ⟨qt, rfl⟩ := hh.sn.ptr
          obtain ⟨qra, qrc, rfl⟩ := hh.sn.rs.form
          have HQH := Hd.mk hh
          clear hh hge
          go_wp2_with fail
          refine (load_ok qb 1 _ _ sL w8 HQH.out).mono ?_
          rintro e w9 ⟨rfl, u9⟩
          go_upto_region 38 with (fail)
          refine wp_abs (fun W => Blk W w9.heap.size [.pointer (some ⟨qt, 0, none⟩), .int .i64 1, .slice qra sL.length qrc] 32 ∧ Upd [] w8 W) ⟨Blk.new w9 _ _ _ rfl, u9.alloc _⟩ ?_
          generalize w9.heap.size = nb
          clear u9 c0 c1 c2
          rintro w10 ⟨bn, u10⟩
          have HQS := Hd.mk (HQH.out.sn.up u10)
          have u11 := u8.trans u10 (by simp)
          have HSP := Hd.mk (HSP.out.up u11)
          have HUQ := Hd.mk (HUQ.out.trans u11 (by simp))
          have HWQ := Hd.mk (HWQ.out.trans u11 (by simp))
          have HBS := Hd.mk (u11.blk HBS.out (by simp))
          have HM1 := Hd.mk (u11.blk HM1.out (by simp))
          have d0 := bn.cell 0
          have d1 := bn.cell 1
          have d2 := bn.cell 2
          simp only [List.getElem?_cons_zero, List.getElem?_cons_succ] at d0 d1 d2
          clear bn u10 u11 u8
          go_wp2_with fail
          refine (hmatch _ _ sL p w10 HQS.out.tr (HP.out.1.upd HUQ.out (by simp)) HPZ.out.1 HPZ.out.2 (by omega)).mono ?_
          rintro e w12 ⟨pa2, pn2, pc2, aa2, an2, ac2, rfl, u12⟩
          rw [HR.out]
          go_upto_region 39 with (fail)
          refine wp_abs (fun W => Blk W w12.heap.size [.string ⟨R.1.h.toArray⟩, .slice pa2 pn2 pc2, .slice aa2 an2 ac2] 46 ∧ Upd [] w10 W) ⟨Blk.new w12 _ _ _ rfl, u12.alloc _⟩ ?_
          generalize w12.heap.size = m2
          clear u12 d0 d1 d2
          rintro w13 ⟨bm, u13⟩
          have HSP := Hd.mk (HSP.out.up u13)
          have HUQ := Hd.mk (HUQ.out.trans u13 (by simp))
          have HWQ := Hd.mk (HWQ.out.trans u13 (by simp))
          have x1 := u13.blk HBS.out (by simp)
          have x2 := u13.blk HM1.out (by simp)
          have c0 := x1.cell 0
          have c1 := x1.cell 1
          have c2 := x1.cell 2
          simp only [List.getElem?_cons_zero, List.getElem?_cons_succ] at c0 c1 c2
          have d0 := x2.cell 0
          have d1 := x2.cell 1
          have d2 := x2.cell 2
          simp only [List.getElem?_cons_zero, List.getElem?_cons_succ] at d0 d1 d2
          have f0 := bm.cell 0
          have f1 := bm.cell 1
          have f2 := bm.cell 2
          simp only [List.getElem?_cons_zero, List.getElem?_cons_succ] at f0 f1 f2
          obtain ⟨hq, hhq⟩ : ∃ hq : ByteArray, ⟨R.1.h.toArray⟩ = hq := ⟨_, rfl⟩
          rw [hhq] at d0 f0
          have y2 := str_yes (rfl : hq = hq)
          have HLEN := Hd.mk (fun k => Tr.len _ sL (w13.drewN k) ((HSP.out.up ((Upd.refl [] w13).drewN k)).tr))
          clear x1 x2 bm u13
          cases j with
          | zero =>
            refine wp_region_quiet_lit (by kernel_rfl) (by kernel_rfl) ?_
            repeat (go_big_quiet_step ((go_at_call 10; exact Calls.quiet_of_same (HLEN.out _))))
            refine wpQuiet_nil ?_
            (intro _ hw'; obtain ⟨nq, hw''⟩ := hw'; subst hw'')
            go_wp2_with fail
            go_roundg (gk - 1)
            case measure => have := HG.out; omega
            case rel => exact ⟨1, by have := HG.out; omega, by go_num, Hd.mk ((HQ.out.trans HWQ.out (by simp)).drewN nq)⟩
          | succ j =>
            obtain ⟨m, hm, hpc⟩ := HPV.out j rfl
            have p0 := hpc _ HWQ.out
            have d5 : decide ((0 : Int) < ((j + 1 : Nat) : Int)) = true := decide_eq_true (by omega)
            have d6 : decide (sn < m) = false := decide_eq_false (by omega)
            have hjj : ((j + 1 : Nat) : Int) - 1 = j := by omega
            clear hpc
            refine wp_region_quiet_lit (by kernel_rfl) (by kernel_rfl) ?_
            repeat (go_big_quiet_step ((go_at_call 10; exact Calls.quiet_of_same (HLEN.out _))))
            refine wpQuiet_nil ?_
            (intro _ hw'; obtain ⟨nq, hw''⟩ := hw'; subst hw'')
            go_wp2_with fail
            go_roundg (gk - 1)
            case measure => have := HG.out; omega
            case rel => exact ⟨j + 1 + 1, by have := HG.out; omega, by go_num, Hd.mk ((HQ.out.trans HWQ.out (by simp)).drewN nq)⟩
        · obtain rfl : j = O.length := by have := HG.out; omega
          clear hj
          go_wp2_with fail
          go_ret
          exact ⟨rfl, HUQ.out.below _ (Nat.le_refl _) (by simp)⟩
end Go.Proofs.YtaefooandfnloaaDoor
