/- Tries: Some. -/
import Derived.Test.YtiombjmkaejjfaaDoorV31
import Derived.Test.YtiombjmkaejjfaaDoorQm
namespace Go.Proofs.YtiombjmkaejjfaaDoor
set_option linter.unusedSimpArgs false
set_option linter.unusedVariables false
set_option linter.unnecessarySimpa false
open Go.RowKit BigFrame

/-- What Some leaves. -/
def SomeQ (w : World) (e : Ending) (w' : World) : Prop := ∃ v L, e = .returned v ∧ Bld w w' 26 3 v L.length (L.flatMap Rt.cells) ∧ SomeOk L
set_option maxRecDepth 100000 in
set_option maxHeartbeats 2000000 in
theorem some_ok (M : List Rt) (v : Value) (w : World) (hT : HTab w) (h : RdS w 3 v M.length (M.flatMap Rt.cells)) (hn : M.length ≤ 140737488351232) (hz : ∀ r ∈ M, r.m.length ≤ 140737488351232 ∧ r.p.length ≤ 140737488351232 ∧ r.h.length ≤ 140737488351232) :
    Calls Tryd.prog 16 #[v] w (SomeQ w) := by
  obtain ⟨a, cap, rfl⟩ := h.form
  have HL := Hd.mk h
  have HZ := Hd.mk hz
  have HT := Hd.mk hT
  clear h hz hT
  go_enter Tryd.func16, Tryd.ntmps16
  go_upto_region 3 with (fail)
  go_loopg [3, 5, 8] M.length (fun g s3 s5 ii wr => ∃ (k : Nat) (L : List Rt), g + k = M.length ∧ ii = .int .i64 k ∧ Hd (Bld w wr 26 3 s3 L.length (L.flatMap Rt.cells)) ∧ Hd (SomeOk L))
  case atStart => exact ⟨0, [], by omega, rfl, Hd.mk (Bld.nil (Upd.refl _ _) _ _), Hd.mk SomeOk.nil⟩
  case round =>
    obtain ⟨k, L, hg, rfl, HS, HK⟩ := hrel
    have HG := Hd.mk hg
    clear hg
    obtain ⟨va, vc, rfl⟩ := HS.out.sl.form
    by_cases hk : k < M.length
    · obtain ⟨b, off, cap, hv, -, -, hc⟩ := (HL.out.upd HS.out.upd (by simp)).some (by omega)
      simp only [Value.slice.injEq, true_and] at hv
      obtain ⟨rfl, rfl⟩ := hv
      have k0 := hc (k * 3) (by omega)
      have k1 := hc (k * 3 + 1) (by omega)
      have k2 := hc (k * 3 + 2) (by omega)
      have e0 := flat_cells M k 0 hk (by omega)
      have e1 := flat_cells M k 1 hk (by omega)
      have e2 := flat_cells M k 2 hk (by omega)
      rw [Nat.add_zero] at e0
      rw [e0] at k0
      rw [e1, ← Nat.add_assoc] at k1
      rw [e2, ← Nat.add_assoc] at k2
      have hz := HZ.out _ (List.getElem_mem hk)
      generalize M[k] = r at k0 k1 k2 hz
      obtain ⟨rm, rp, rh⟩ := r
      simp only [Rt.cells, List.getElem?_cons_zero, List.getElem?_cons_succ] at k0 k1 k2 hz
      obtain ⟨m, hm, hmx, hmz⟩ := S_ex rm
      obtain ⟨p, hp, hpx, hpz⟩ := S_ex rp
      obtain ⟨hh, hhh, hhx, hhz⟩ := S_ex rh
      have HR := Hd.mk (show (⟨rm, rp, rh⟩ : Rt).cells = [.string m, .string p, .string hh] by rw [← hm, ← hp, ← hhh]; rfl)
      have HRL := Hd.mk (And.intro hmz hpz)
      rw [hm] at k0
      rw [hp] at k1
      rw [hhh] at k2
      rw [← hmz, ← hpz] at hz
      clear hc e0 e1 e2 hm hp hhh hmx hpx hhx hmz hpz hhz
      go_upto_region 5 with (fail)
      refine wp_abs (fun W => Blk W wr.heap.size [.string m, .string p, .string hh] 26 ∧ Upd [] wr W) ⟨Blk.new wr _ _ _ rfl, (Upd.refl [] wr).alloc _⟩ ?_
      clear k0 k1 k2
      generalize wr.heap.size = rb
      rintro w3 ⟨br, u3⟩
      have HS := Hd.mk (HS.out.over u3)
      have HBR := Hd.mk br
      have c0 := br.cell 0
      have c1 := br.cell 1
      have c2 := br.cell 2
      simp only [List.getElem?_cons_zero, List.getElem?_cons_succ] at c0 c1 c2
      clear br u3
      by_cases c24 : L.length < 24
      rotate_left
      · have d0 : decide ((L.length : Int) < 24) = false := decide_eq_false (by omega)
        go_region
        all_goals
          go_wp2_with fail
          go_roundg (gk - 1)
          case measure => have := HG.out; omega
          case rel => exact ⟨k + 1, L, by have := HG.out; omega, by go_num, Hd.mk (HS.out.over ((Upd.refl [] _).drew)), HK⟩
      have d0 : decide ((L.length : Int) < 24) = true := decide_eq_true (by omega)
      by_cases c200 : m.size + p.size < 200
      rotate_left
      · have d1 : decide ((m.size : Int) + p.size < 200) = false := decide_eq_false (by omega)
        go_region
        all_goals
          go_wp2_with fail
          go_roundg (gk - 1)
          case measure => have := HG.out; omega
          case rel => exact ⟨k + 1, L, by have := HG.out; omega, by go_num, Hd.mk (HS.out.over ((Upd.refl [] _).drew)), HK⟩
      have d1 : decide ((m.size : Int) + p.size < 200) = true := decide_eq_true (by omega)
      obtain ⟨fa, hfull, hfsl, hfown⟩ := run_full_sl (P := Tryd.prog) 24 26 3 Tryd.underlying24 (by kernel_rfl) w3 _ L.length _ HS.out.sl
      have HF := Hd.mk hfsl
      clear hfsl hfown
      obtain ⟨w4, hw4⟩ : ∃ w4, w3.drew = w4 := ⟨_, rfl⟩
      have UD := (Upd.refl [] w3).drew
      rw [hw4] at UD
      have b4 := UD.blk HBR.out (by simp)
      have UA : Upd [] w3 (w4.alloc (.cells #[.string m, .string p, .string hh] 26)) := UD.alloc _
      have b5 := UA.blk HBR.out (by simp)
      have HUA := Hd.mk UA
      have HF := Hd.mk (HF.out.upd UA (by simp))
      have hsz : w4.heap.size = w3.heap.size := by rw [← hw4]; rfl
      have HBW := Hd.mk (Blk.new w4 [.string m, .string p, .string hh] 26 _ rfl)
      refine wp_mk_tail (fun X => X = w4 ∨ X = w4.alloc (.cells #[.string m, .string p, .string hh] 26)) 21 22 _ (fun _ => by rw [hw4]) (by kernel_rfl) (by kernel_rfl) (by decide) rfl (by decide +kernel) (fun _ => ?_)
      have x0 : ∀ x : Cls (fun X => X = w4 ∨ X = w4.alloc (.cells #[.string m, .string p, .string hh] 26)), x.w.cell? ⟨rb, 0, none⟩ = some (.string m) := by
        rintro ⟨_, rfl | rfl⟩
        · exact b4.cell 0
        · exact b5.cell 0
      have x1 : ∀ x : Cls (fun X => X = w4 ∨ X = w4.alloc (.cells #[.string m, .string p, .string hh] 26)), x.w.cell? ⟨rb, 1, none⟩ = some (.string p) := by
        rintro ⟨_, rfl | rfl⟩
        · exact b4.cell 1
        · exact b5.cell 1
      have x2 : ∀ x : Cls (fun X => X = w4 ∨ X = w4.alloc (.cells #[.string m, .string p, .string hh] 26)), x.w.cell? ⟨rb, 2, none⟩ = some (.string hh) := by
        rintro ⟨_, rfl | rfl⟩
        · exact b4.cell 2
        · exact b5.cell 2
      rw [hw4]
      clear hw4 UD b4 UA b5 c0 c1 c2
      simp only [List.take_succ_cons, List.take_zero, List.drop_succ_cons, List.drop_zero]
      repeat (go_big_quiet_step (fail))
      refine wpQuiet_nil ?_
      refine ⟨.slice (some ⟨w3.heap.size, 0, none⟩) 1 1, by go_simp, by go_simp, ?_⟩
      refine wpQuiet_nil ?_
      rw [hsz] at HBW
      clear x0 x1 x2
      go_wp2_with (at_builtin; refine wpList_append_fullw (.tmp 31) (.tmp 33) 24 rfl 26 (.agg #[.string ⟨#[]⟩, .string ⟨#[]⟩, .string ⟨#[]⟩]) 3 48 Tryd.underlying24 (by kernel_rfl) rfl fa L.length (L.flatMap Rt.cells) HF.out w3.heap.size 1 1 [.string m, .string p, .string hh] (HBW.out.sl 3 1 rfl (by decide)) rfl (by omega) (by omega) (by omega) (by go_simp) (by go_simp) (by go_simp) ?_)
      intro g9 o9 k9 w9 s9 u9 h9
      have HRC := Hd.mk (show (L ++ [(⟨rm, rp, rh⟩ : Rt)]).flatMap Rt.cells = L.flatMap Rt.cells ++ [.string m, .string p, .string hh] by
        rw [List.flatMap_append, ← HR.out]
        simp)
      have hln : (L ++ [(⟨rm, rp, rh⟩ : Rt)]).length = L.length + 1 := by simp
      have HCK := Hd.mk (check_ok (L ++ [(⟨rm, rp, rh⟩ : Rt)]) (.slice (some ⟨g9, o9, none⟩) (L.length + 1) k9) w9 (HT.out.upd (HS.out.upd.trans (HUA.out.trans u9 (by simp)) (by simp))) (by rw [hln, HRC.out]; exact s9) (by rw [hln]; omega) (by
        intro r hr
        rcases List.mem_append.1 hr with h | h
        · have := (HK.out.right r h).2
          omega
        · rw [List.mem_singleton] at h
          subst h
          have h1 := HRL.out
          simp only at h1 ⊢
          omega))
      have HS := Hd.mk (HS.out.over (HUA.out.trans u9 (by simp)))
      have HBR := Hd.mk ((HUA.out.trans u9 (by simp)).blk HBR.out (by simp))
      have HSN := Hd.mk (fun hc => HK.out.snoc (r := ⟨rm, rp, rh⟩) (by have h1 := HRL.out; simp only at h1 ⊢; omega) hc)
      clear s9 u9 h9 hln d0 d1 hfull HF HBW hsz HUA
      go_wp2_with fail
      refine HCK.out.mono ?_
      rintro e w10 ⟨rfl, u10⟩
      have HS := Hd.mk (HS.out.over u10)
      have HBR := Hd.mk (u10.blk HBR.out (by simp))
      have br := HBR.out
      have c0 := br.cell 0
      have c1 := br.cell 1
      have c2 := br.cell 2
      simp only [List.getElem?_cons_zero, List.getElem?_cons_succ] at c0 c1 c2
      clear br u10 HCK
      by_cases hc : chk (L ++ [(⟨rm, rp, rh⟩ : Rt)]) = 0
      · have hc2 := HSN.out hc
        rw [hc]
        have HSN := Hd.mk hc2
        clear hc hc2
        have hsl := HS.out.sl
        go_wp2_with (at_builtin; refine wpList_append_row rfl (.tmp 38) (.tmp 40) 24 rfl rfl 26 (.agg #[.string ⟨#[]⟩, .string ⟨#[]⟩, .string ⟨#[]⟩]) 3 48 Tryd.underlying24 (by kernel_rfl) rfl _ _ _ rfl hsl [.string m, .string p, .string hh] rfl rfl rfl (by omega) (by omega) ?_)
        intro v12 w12 s12 u12 o12
        have HS := Hd.mk (HS.out.app s12 u12 o12)
        obtain ⟨a12, c12, rfl⟩ := s12.form
        clear s12 u12 o12 hsl
        go_wp2_with fail
        go_roundg (gk - 1)
        case measure => have := HG.out; omega
        case rel => exact ⟨k + 1, L ++ [⟨rm, rp, rh⟩], by have := HG.out; omega, by go_num, Hd.mk (by
          rw [HRC.out, List.length_append]
          exact HS.out), HSN⟩
      · have hq : ((chk (L ++ [(⟨rm, rp, rh⟩ : Rt)]) : Int) == 0) = false := by rw [beq_eq_false_iff_ne]; omega
        generalize chk (L ++ [(⟨rm, rp, rh⟩ : Rt)]) = ck at hq hc ⊢
        go_wp2_with fail
        go_roundg (gk - 1)
        case measure => have := HG.out; omega
        case rel => exact ⟨k + 1, L, by have := HG.out; omega, by go_num, HS, HK⟩
    · obtain rfl : k = M.length := by have := HG.out; omega
      clear hk
      go_wp2_with fail
      go_ret
      exact ⟨_, L, rfl, HS.out, HK.out⟩
end Go.Proofs.YtiombjmkaejjfaaDoor
