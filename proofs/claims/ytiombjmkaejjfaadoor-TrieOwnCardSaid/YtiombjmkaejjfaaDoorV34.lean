/- Tries: same matches; matches and routes, as the laws over Some use them. -/
import Derived.Test.YtiombjmkaejjfaaDoorV26
import Derived.Test.YtiombjmkaejjfaaDoorV31
namespace Go.Proofs.YtiombjmkaejjfaaDoor
set_option linter.unusedSimpArgs false
set_option linter.unusedVariables false
set_option linter.unnecessarySimpa false
open Go.RowKit BigFrame

theorem eq_par (k : ByteArray × ByteArray) (w : World) : (Op.equal 40 (.agg #[.string k.1, .string k.2]) (.agg #[.string k.1, .string k.2])).run Tryd.prog w = .ok true w := by
  unfold Op.equal
  show (Op.equalIn 10000 _ _ _).run _ _ = _
  go_simp
theorem ne_par (a b : ByteArray) (w : World) : (binOp .neq 40 (.agg #[.string a, .string b]) (.agg #[.string a, .string b])).run Tryd.prog w = .ok (.bool false) w := by
  have := eq_par (a, b) w
  simp [binOp, this]
set_option maxRecDepth 100000 in
set_option maxHeartbeats 2000000 in
theorem same_ok (m : Mt) (v1 v2 : Value) (w : World) (h1 : MV w v1 m) (h2 : MV w v2 m) (hz : m.P.length ≤ 1000000 ∧ m.A.length ≤ 1000000) :
    Calls Tryd.prog 18 #[v1, v2] w fun e w' => e = .returned (.bool true) ∧ Upd [] w w' := by
  obtain ⟨pv, av, rfl, hP, hA⟩ := h1
  obtain ⟨qv, bv, rfl, hQ, hB⟩ := h2
  obtain ⟨mh, P, A⟩ := m
  simp only at *
  obtain ⟨pa, pc, rfl, -⟩ := id hP
  obtain ⟨aa, ac, rfl, -⟩ := id hA
  obtain ⟨qa, qc, rfl, -⟩ := id hQ
  obtain ⟨ba, bc, rfl, -⟩ := id hB
  have HP := Hd.mk (And.intro hP hQ)
  have HA := Hd.mk (And.intro hA hB)
  obtain ⟨hz1, hz2⟩ := hz
  unfold S
  obtain ⟨hh, hhh⟩ : ∃ hh : ByteArray, (⟨mh.toArray⟩ : ByteArray) = hh := ⟨_, rfl⟩
  rw [hhh]
  clear hP hQ hA hB hhh
  go_enter Tryd.func18, Tryd.ntmps18
  go_upto_region 1 with (fail)
  refine wp_abs (fun W => Blk W w.heap.size [.string hh, .slice pa P.length pc, .slice aa A.length ac] 30 ∧ Blk W (w.heap.size + 1) [.string hh, .slice qa P.length qc, .slice ba A.length bc] 30 ∧ Upd [] w W) ⟨(Blk.new w _ _ _ rfl).alloc _, ?k2, ((Upd.refl [] w).alloc _).alloc _⟩ ?_
  case k2 =>
    have := Blk.new (w.alloc (.cells #[.string hh, .slice pa P.length pc, .slice aa A.length ac] 30)) [.string hh, .slice qa P.length qc, .slice ba A.length bc] 30 _ rfl
    rw [show (w.alloc (.cells #[.string hh, .slice pa P.length pc, .slice aa A.length ac] 30)).heap.size = w.heap.size + 1 by show (w.heap.push _).size = _; rw [Array.size_push]] at this
    exact this
  generalize w.heap.size + 1 = b2
  generalize w.heap.size = b1
  rintro w1 ⟨k1, k2, u⟩
  have HU := Hd.mk u
  have HK := Hd.mk (And.intro k1 k2)
  have c0 := k1.cell 0
  have c1 := k1.cell 1
  have c2 := k1.cell 2
  simp only [List.getElem?_cons_zero, List.getElem?_cons_succ] at c0 c1 c2
  have d0 := k2.cell 0
  have d1 := k2.cell 1
  have d2 := k2.cell 2
  simp only [List.getElem?_cons_zero, List.getElem?_cons_succ] at d0 d1 d2
  have y := str_yes (rfl : hh = hh)
  have n1 : ((P.length : Int) == P.length) = true := by simp
  have n2 : ((A.length : Int) == A.length) = true := by simp
  clear k1 k2 u
  go_upto_region 4 with (fail)
  go_loopg [5, 33] P.length (fun g s5 ii wr => ∃ i : Nat, g + i = P.length ∧ ii = .int .i64 i ∧ Hd (Upd [] w1 wr))
  case atStart => exact ⟨0, by omega, rfl, Hd.mk (Upd.refl _ _)⟩
  case round =>
    clear c0 c1 c2 d0 d1 d2 y n1 n2
    obtain ⟨i, hg, rfl, HV⟩ := hrel
    have HG := Hd.mk hg
    clear hg
    by_cases hi : i < P.length
    · have c1 := (HV.out.blk HK.out.1 (by simp)).cell 1
      have d1 := (HV.out.blk HK.out.2 (by simp)).cell 1
      simp only [List.getElem?_cons_zero, List.getElem?_cons_succ] at c1 d1
      obtain ⟨_, _, hv, hp⟩ := HP.out.1.upd (HU.out.trans HV.out (by simp))
      obtain ⟨_, _, hv2, hq⟩ := HP.out.2.upd (HU.out.trans HV.out (by simp))
      simp only [Value.slice.injEq, true_and] at hv hv2
      obtain ⟨pb, po, he, -, hp⟩ := hp (by omega)
      obtain ⟨qb, qo, he2, -, hq⟩ := hq (by omega)
      rw [← hv.1] at he
      rw [← hv2.1] at he2
      subst he he2
      obtain ⟨p0, p1⟩ := hp i hi
      obtain ⟨q0, q1⟩ := hq i hi
      obtain ⟨s1, hs1, -, -⟩ := S_ex P[i].1
      obtain ⟨s2, hs2, -, -⟩ := S_ex P[i].2
      rw [hs1] at p0 q0
      rw [hs2] at p1 q1
      have e1 := ne_par s1 s2
      clear hv hv2 hp hq hs1 hs2
      go_upto_region 6 with (fail)
      go_region
      all_goals
        go_wp2_with fail
        go_roundg (gk - 1)
        case measure => have := HG.out; omega
        case rel => exact ⟨i + 1, by have := HG.out; omega, by go_num, Hd.mk (HV.out.trans ((Upd.refl [] _).drew) (by simp))⟩
    · obtain rfl : i = P.length := by have := HG.out; omega
      have c2 := (HV.out.blk HK.out.1 (by simp)).cell 2
      have d2 := (HV.out.blk HK.out.2 (by simp)).cell 2
      simp only [List.getElem?_cons_zero, List.getElem?_cons_succ] at c2 d2
      clear hi HG
      go_upto_region 10 with (fail)
      go_loopg [6, 51] A.length (fun g s5 ii wq => ∃ i : Nat, g + i = A.length ∧ ii = .int .i64 i ∧ Hd (Upd [] w1 wq))
      case atStart => exact ⟨0, by omega, rfl, HV⟩
      case round =>
        clear c2 d2 HV
        obtain ⟨i, hg, rfl, HV⟩ := hrel
        have HG := Hd.mk hg
        clear hg
        by_cases hi : i < A.length
        · have c2 := (HV.out.blk HK.out.1 (by simp)).cell 2
          have d2 := (HV.out.blk HK.out.2 (by simp)).cell 2
          simp only [List.getElem?_cons_zero, List.getElem?_cons_succ] at c2 d2
          obtain ⟨_, _, hv, hp⟩ := HA.out.1.upd (HU.out.trans HV.out (by simp))
          obtain ⟨_, _, hv2, hq⟩ := HA.out.2.upd (HU.out.trans HV.out (by simp))
          simp only [Value.slice.injEq, true_and] at hv hv2
          obtain ⟨pb, po, he, -, hp⟩ := hp (by omega)
          obtain ⟨qb, qo, he2, -, hq⟩ := hq (by omega)
          rw [← hv.1] at he
          rw [← hv2.1] at he2
          subst he he2
          have p0 := hp i hi
          have q0 := hq i hi
          obtain ⟨s1, hs1, -, -⟩ := S_ex A[i]
          rw [hs1] at p0 q0
          have y := str_yes (rfl : s1 = s1)
          clear hv hv2 hp hq hs1
          go_upto_region 12 with (fail)
          go_region
          all_goals
            go_wp2_with fail
            go_roundg (gk - 1)
            case measure => have := HG.out; omega
            case rel => exact ⟨i + 1, by have := HG.out; omega, by go_num, Hd.mk (HV.out.trans ((Upd.refl [] _).drew) (by simp))⟩
        · obtain rfl : i = A.length := by have := HG.out; omega
          clear hi
          go_wp2_with fail
          go_ret
          exact ⟨rfl, HU.out.trans HV.out (by simp)⟩
end Go.Proofs.YtiombjmkaejjfaaDoor
namespace Go.Proofs.YtiombjmkaejjfaaDoor
set_option linter.unusedSimpArgs false
set_option linter.unusedVariables false
set_option linter.unnecessarySimpa false
open Go.RowKit BigFrame

theorem mt_len (L : List Rt) (hr : ∀ r ∈ L, Rgt r) (hk : L.length ≤ 100) (mth : Bs) (l : List Bs) (hn : l.length ≤ 12) : (mtL L mth l).1.P.length ≤ 1000000 ∧ (mtL L mth l).1.A.length ≤ 1000000 := by
  unfold mtL
  cases hq : (flatL L l).find? (byM mth) with
  | some r =>
    have h1 := flatL_mem (List.mem_of_find?_eq_some hq)
    have h2 := cands_len l _ h1.2
    have h3 : (segsL r.p).length ≤ l.length := by simpa [shp] using h2
    have h4 := parI_le (segsL r.p) l (segsL r.p).length
    refine ⟨?_, by simp⟩
    show (parI (segsL r.p) l (segsL r.p).length).length ≤ _
    omega
  | none =>
    refine ⟨by simp, ?_⟩
    show (sortL (dm (flatL L l) [])).length ≤ _
    rw [sortL_len]
    have h3 := dm_len (flatL L l) []
    have h4 := flatL_len L l
    have h5 := cands_count l
    have h6 : 2 ^ (l.length + 1) ≤ 2 ^ 13 := Nat.pow_le_pow_right (by omega) (by omega)
    have h7 : (cands l).length ≤ 8191 := by omega
    have h8 : (cands l).length * L.length ≤ 8191 * 100 := Nat.mul_le_mul h7 hk
    simp only [List.length_nil] at h3
    omega
/-- What a match tells. -/
def MM (m : Mt × Bool) (w : World) (e : Ending) (w' : World) : Prop :=
  ∃ (hh : ByteArray) (pa aa : Option Addr) (pn pc an ac : Nat), e = .returned (.tuple #[.agg #[.string hh, .slice pa pn pc, .slice aa an ac], .bool m.2]) ∧ MV w' (.agg #[.string hh, .slice pa pn pc, .slice aa an ac]) m.1 ∧ Upd [] w w'
theorem tmatch (v lv : Value) (L : List Rt) (mth : ByteArray) (l : List Bs) (w : World) (ht : Tr w v L) (hl : RdS w 1 lv l.length (l.map S)) (hz : sumB l ≤ 1000 ∧ l.length ≤ 12) (hk : L.length ≤ 100) :
    Calls Tryd.prog 12 #[v, .string mth, lv] w (MM (mtL L mth.data.toList l) w) := by
  rw [show Value.string mth = S mth.data.toList from S_of rfl]
  refine (Tr.match_ v lv L mth.data.toList l w ht hl (by rw [sumL_B]; omega) hz.2 hk).mono ?_
  rintro e w' ⟨mv, rfl, hm, hu⟩
  have hm0 := hm
  obtain ⟨pv, av, rfl, ⟨pa, pc, rfl, -⟩, ⟨aa, ac, rfl, -⟩⟩ := hm
  exact ⟨_, _, _, _, _, _, _, rfl, hm0, hu⟩
theorem with_one (v : Value) (M : List Rt) (r : Rt) (b : Nat) (w : World) (ht : Tr w v M) (hb : Blk w b r.cells 26) (hr : Rgt r) (hk : M.length ≤ 100) :
    Calls Tryd.prog 11 #[v, .slice (some ⟨b, 0, none⟩) 1 1] w fun e w' => ∃ b, e = .returned (.pointer (some ⟨b, 0, none⟩)) ∧ Tr w' (.pointer (some ⟨b, 0, none⟩)) (M ++ [r]) ∧ Upd [] w w' := by
  have hsl : Sl w 26 3 (.slice (some ⟨b, 0, none⟩) 1 1) [r].length ([r].flatMap Rt.cells) := by
    have h1 := hb.sl 3 1 rfl (by decide)
    rw [show [r].flatMap Rt.cells = r.cells by simp]
    exact h1
  exact Tr.with_ v _ M [r] w ht hsl (fun x hx => by rw [List.mem_singleton] at hx; subst hx; exact hr) (by simp; omega)
/-- A route's three texts. -/
theorem route_parts (r : Rt) : ∃ m p h : ByteArray, r.cells = [.string m, .string p, .string h] := ⟨⟨r.m.toArray⟩, ⟨r.p.toArray⟩, ⟨r.h.toArray⟩, rfl⟩
theorem route_at {w : World} {L : List Rt} {g o cap : Nat} (h : Sl w 26 3 (.slice (some ⟨g, o, none⟩) L.length cap) L.length (L.flatMap Rt.cells)) (k : Nat) (hk : k < L.length) {m p hh : ByteArray} (hr : (L[k]).cells = [.string m, .string p, .string hh]) :
    w.cell? ⟨g, o + k * 3, none⟩ = some (.string m) ∧ w.cell? ⟨g, o + k * 3 + 1, none⟩ = some (.string p) ∧ w.cell? ⟨g, o + k * 3 + 2, none⟩ = some (.string hh) := by
  have e0 := flat_cells L k 0 hk (by omega)
  have e1 := flat_cells L k 1 hk (by omega)
  have e2 := flat_cells L k 2 hk (by omega)
  have k0 := h.cell (k * 3) (by omega)
  have k1 := h.cell (k * 3 + 1) (by omega)
  have k2 := h.cell (k * 3 + 2) (by omega)
  rw [Nat.add_zero] at e0
  rw [e0, hr] at k0
  rw [e1, hr, ← Nat.add_assoc] at k1
  rw [e2, hr, ← Nat.add_assoc] at k2
  exact ⟨k0, k1, k2⟩
end Go.Proofs.YtiombjmkaejjfaaDoor
