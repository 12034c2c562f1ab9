/- Tries: Match. -/
import Derived.Test.YtndlbkiogagnaaaGreatDoorV16
namespace Go.Proofs.YtndlbkiogagnaaaGreatDoor
set_option linter.unusedSimpArgs false
set_option linter.unusedVariables false
set_option linter.unnecessarySimpa false
open Go.RowKit BigFrame

/-- What Match leaves: the first route of the method; or the methods of all that the path has, sorted. -/
def MtQ (w : World) (F : List Rt) (mth : Bs) (l : List Bs) (e : Ending) (w' : World) : Prop :=
  (∃ r pv, F.find? (byM mth) = some r ∧ e = .returned (.tuple #[.agg #[S r.h, pv, .slice none 0 0], .bool true]) ∧ Bld w w' 94 2 pv (parL (segsL r.p) l).length (pcells (parL (segsL r.p) l))) ∨
  ∃ av, F.find? (byM mth) = none ∧ e = .returned (.tuple #[.agg #[.string ⟨#[]⟩, .slice none 0 0, av], .bool false]) ∧ RdL w' av (sortL (dm F [])) ∧ Upd [] w w'
theorem le_sum_of_mem {L : List Nat} {a : Nat} (h : a ∈ L) : a ≤ L.sum := by
  induction L with
  | nil => cases h
  | cons b L ih => rw [List.sum_cons]; rcases List.mem_cons.mp h with rfl | h; · omega
                   · have := ih h; omega
set_option maxRecDepth 100000 in
set_option maxHeartbeats 2000000 in
theorem match_ok (v lv : Value) (n : T) (sz : Nat) (mth : Bs) (l : List Bs) (w : World) (ht : TrV w v n sz) (ho : Ok n) (hl : RdS w 1 lv l.length (l.map S)) (hz : sumL l ≤ 4503599627370496) (hg : ∀ en ∈ visit n l, ∀ r ∈ en, Gd l r) (hb : (visit n l).flatten.length ≤ 900000) :
    Calls Tryz.prog 31 #[v, S mth, lv] w (MtQ w (visit n l).flatten mth l) := by
  obtain ⟨la, lc, rfl⟩ := hl.form
  have HL := Hd.mk hl
  have HT := Hd.mk ht
  have HO := Hd.mk ho
  have HGD := Hd.mk hg
  have HBB := Hd.mk hb
  clear hl ht ho hg hb
  go_enter Tryz.func31, Tryz.ntmps31
  go_upto_region 2 with (fail)
  have hsm : Sm w w.heap.size (w.heap.size + 1) (w.heap.size + 3) (w.heap.size + 2) mth (.slice la l.length lc) [] ((((w.alloc (.cells #[S mth] 9)).alloc (.cells #[.slice la l.length lc] 22)).alloc (.cells zMatch.toArray 33)).alloc (.cells zMatch.toArray 33)) := by
    have hu : Upd [] w ((((w.alloc (.cells #[S mth] 9)).alloc (.cells #[.slice la l.length lc] 22)).alloc (.cells zMatch.toArray 33)).alloc (.cells zMatch.toArray 33)) := ((((Upd.refl _ _).alloc _).alloc _).alloc _).alloc _
    refine ⟨hu, (((Blk.new w [S mth] _ _ rfl).alloc _).alloc _).alloc _, ((Blk.new (w.alloc _) [.slice la l.length lc] _ _ (by simp)).alloc _).alloc _, (Blk.new ((w.alloc _).alloc _) zMatch _ _ (by simp)).alloc _, none, 0, Blk.new (((w.alloc _).alloc _).alloc _) zMatch _ _ (by simp), Bld.nil hu _ _, by simp [ownB]⟩
  refine wp_abs (fun W => Sm w w.heap.size (w.heap.size + 1) (w.heap.size + 3) (w.heap.size + 2) mth (.slice la l.length lc) [] W) hsm ?_
  clear hsm
  have HM := Hd.mk (show w.heap.size ≤ w.heap.size + 3 ∧ w.heap.size + 3 ≠ w.heap.size + 2 by omega)
  generalize hm3 : w.heap.size + 3 = mb at HM ⊢
  generalize hm2 : w.heap.size + 2 = rsb at HM ⊢
  have HRB := Hd.mk (show w.heap.size ≤ rsb by omega)
  generalize w.heap.size + 1 = lbx
  obtain ⟨mbx, hmbx⟩ : ∃ q, w.heap.size = q := ⟨_, rfl⟩
  rw [hmbx]
  clear hmbx hm2 hm3
  rintro w1 s1
  have HS := Hd.mk s1
  have HRS := Hd.mk s1.rs
  obtain ⟨av0, ac0, hmb0, -, -⟩ := s1.al
  have HMB0 := Hd.mk hmb0
  have r0 := s1.rs.cell 0
  have r1 := s1.rs.cell 1
  have r2 := s1.rs.cell 2
  have q0 := s1.rs.free 0
  have q1 := s1.rs.free 1
  have q2 := s1.rs.free 2
  simp only [zMatch, List.getElem?_cons_zero, List.getElem?_cons_succ] at r0 r1 r2
  rcases HT.out with ⟨rfl, hn, -⟩ | ⟨tb, rv, rfl, htb, hnd⟩
  · subst hn
    obtain ⟨ma, mc, hmm, hma, -⟩ := s1.al
    have m0 := hmm.cell 0
    have m1 := hmm.cell 1
    have m2 := hmm.cell 2
    simp only [List.getElem?_cons_zero, List.getElem?_cons_succ, dm, List.length_nil] at m0 m1 m2
    clear s1 hmb0 hmm hma
    go_wp2_with fail
    exact bodyPost_ret (results_cell_tmp _ _ _ 6 7 33 rsb [.string ⟨#[]⟩, .slice none 0 0, .slice ma 0 mc] 33 rfl rfl (((HRS.out.set 0 _).set 1 _).set 2 _) (by kernel_rfl) (by kernel_rfl)) rfl (by
      rw [visit_nil]
      exact .inr ⟨_, rfl, rfl, ⟨ma, mc, by simp [sortL, dm], fun h => absurd h (by simp [sortL, dm])⟩, ((HS.out.upd.trans ((Upd.refl [rsb] _).set _ _ (by simp)) (fun k hk e => by rw [List.mem_singleton] at e; have := HRB.out; omega)).trans ((Upd.refl [rsb] _).set _ _ (by simp)) (fun k hk e => by rw [List.mem_singleton] at e; have := HRB.out; omega)).trans ((Upd.refl [rsb] _).set _ _ (by simp)) (fun k hk e => by rw [List.mem_singleton] at e; have := HRB.out; omega)⟩)
  · obtain ⟨rp, rfl⟩ := hnd.form
    have t0 := (s1.upd.blk htb (by simp)).cell 0
    simp only [List.getElem?_cons_zero] at t0
    have HND := Hd.mk hnd
    cases rp with
    | none =>
      have hn : n = .nil := by
        cases n with
        | nil => rfl
        | node => simp only [NdV] at hnd; obtain ⟨b, _, _, _, _, _, _, _, h, _⟩ := hnd; cases h
      subst hn
      clear htb hnd
      obtain ⟨ma, mc, hmm, hma, -⟩ := s1.al
      have m0 := hmm.cell 0
      have m1 := hmm.cell 1
      have m2 := hmm.cell 2
      simp only [List.getElem?_cons_zero, List.getElem?_cons_succ, dm, List.length_nil] at m0 m1 m2
      clear s1 hmb0 hmm hma
      go_wp2_with fail
      exact bodyPost_ret (results_cell_tmp _ _ _ 6 7 33 rsb [.string ⟨#[]⟩, .slice none 0 0, .slice ma 0 mc] 33 rfl rfl (((HRS.out.set 0 _).set 1 _).set 2 _) (by kernel_rfl) (by kernel_rfl)) rfl (by
        rw [visit_nil]
        exact .inr ⟨_, rfl, rfl, ⟨ma, mc, by simp [sortL, dm], fun h => absurd h (by simp [sortL, dm])⟩, ((HS.out.upd.trans ((Upd.refl [rsb] _).set _ _ (by simp)) (fun k hk e => by rw [List.mem_singleton] at e; have := HRB.out; omega)).trans ((Upd.refl [rsb] _).set _ _ (by simp)) (fun k hk e => by rw [List.mem_singleton] at e; have := HRB.out; omega)).trans ((Upd.refl [rsb] _).set _ _ (by simp)) (fun k hk e => by rw [List.mem_singleton] at e; have := HRB.out; omega)⟩)
    | some qq =>
      clear hmb0 htb hnd r0 r1 r2 q0 q1 q2
      have HXL := Hd.mk (show l.length ≤ 4503599627370496 ∧ ∀ x ∈ l, x.length ≤ 4503599627370496 from ⟨Nat.le_trans (Nat.le_add_left _ _) hz, fun x hx => Nat.le_trans (Nat.le_trans (le_sum_of_mem (List.mem_map_of_mem hx)) (Nat.le_add_right _ _)) hz⟩)
      have l0 := s1.l1.cell 0
      simp only [List.getElem?_cons_zero] at l0
      have HZ := Hd.mk hz
      clear s1 hz
      go_upto_region 4 with (fail)
      refine wp_quiet_tail 6 (by kernel_rfl) (by kernel_rfl) ?_
      simp only [List.take_succ_cons, List.take_zero, List.drop_succ_cons, List.drop_zero]
      repeat (go_big_quiet_step (fail))
      refine wpQuiet_nil ?_
      (intro _ hw'; obtain ⟨nq, hw''⟩ := hw'; subst hw'')
      go_wp2_with fail
      refine (find_ok w 55 #[.pointer (some ⟨mbx, 0, none⟩), .pointer (some ⟨lbx, 0, none⟩), .pointer (some ⟨mb, 0, none⟩)] (Gd l) mth _ _ (yield_ok w mbx lbx mb rsb mth l (.slice la l.length lc) HL.out HZ.out HM.out.1 HM.out.2) l n (.pointer (some qq)) (.slice la l.length lc) [] (w1.drewN nq) HXL.out.1 HXL.out.2 HND.out HO.out HL.out HGD.out (by simpa using HBB.out) (HS.out.up ((Upd.refl _ _).drewN nq))).mono ?_
      clear t0 l0
      rintro e w2 h
      rcases h with ⟨h1, rfl, h2⟩ | ⟨r, h1, rfl, h2⟩
      · have HF := Hd.mk h1
        have HS2 := Hd.mk h2
        obtain ⟨ma, mc, hmm, hma, -⟩ := h2.al
        have m2 := hmm.cell 2
        simp only [List.getElem?_cons_zero, List.getElem?_cons_succ] at m2
        have HMM := Hd.mk (And.intro hmm hma)
        clear h1 h2 hmm hma
        go_wp2_with fail
        refine (sort_ok _ _ w2 HMM.out.2.sl (Nat.le_trans (dm_len _ _) (by simp only [List.nil_append, List.length_nil, Nat.zero_add]; exact Nat.le_trans HBB.out (by omega)))).mono ?_
        rintro e w3 ⟨rfl, h3, u3⟩
        have HR3 := Hd.mk h3
        have HU3 := Hd.mk u3
        have hq3 := u3.blk HMM.out.1 (fun e => HMM.out.2.sl.other (t := 33) (by decide) _ e _ HMM.out.1)
        have hr3 := u3.blk HS2.out.rs (fun e => HMM.out.2.sl.other (t := 33) (by decide) _ e _ HS2.out.rs)
        have HUW := Hd.mk (show Upd [] w w3 from HS2.out.upd.trans u3 (fun k hk e => by have := HMM.out.2.own k e; omega))
        have HR3 := Hd.mk h3
        have HRS3 := Hd.mk hr3
        have q0 := hq3.cell 0
        have q1 := hq3.cell 1
        have q2 := hq3.cell 2
        have r0 := hr3.cell 0
        have r1 := hr3.cell 1
        have r2 := hr3.cell 2
        have f0 := hr3.free 0
        have f1 := hr3.free 1
        have f2 := hr3.free 2
        simp only [zMatch, List.getElem?_cons_zero, List.getElem?_cons_succ] at q0 q1 q2 r0 r1 r2
        clear m2 h3 u3 hq3 hr3
        go_wp2_with fail
        exact bodyPost_ret (results_cell_tmp _ _ _ 6 7 33 rsb [.string ⟨#[]⟩, .slice none 0 0, .slice ma (dm (visit n l).flatten []).length mc] 33 rfl rfl (((HRS3.out.set 0 _).set 1 _).set 2 _) (by kernel_rfl) (by kernel_rfl)) rfl (by
          have hu : ∀ W (p : Addr) (v : Value), p.block = rsb → Upd [] w W → Upd [] w (W.setCell p v) := fun W p v hp h => h.trans ((Upd.refl [rsb] _).set _ _ (by rw [hp]; simp)) (fun k hk e => by rw [List.mem_singleton] at e; have := HRB.out; omega)
          have hw : Upd [rsb] w3 (((w3.setCell ⟨rsb, 0, none⟩ (.string ⟨#[]⟩)).setCell ⟨rsb, 1, none⟩ (.slice none 0 0)).setCell ⟨rsb, 2, none⟩ (.slice ma (dm (visit n l).flatten []).length mc)) := (((Upd.refl _ _).set _ _ (by simp)).set _ _ (by simp)).set _ _ (by simp)
          refine .inr ⟨_, HF.out, rfl, ?_, hu _ _ _ rfl (hu _ _ _ rfl (hu _ _ _ rfl HUW.out))⟩
          refine HR3.out.upd' hw (fun k hk e => ?_)
          rw [List.mem_singleton] at e
          subst e
          exact HMM.out.2.sl.other (t := 33) (by decide) _ hk _ HS2.out.rs)
      · have HF := Hd.mk h1
        have HF2 := Hd.mk h2
        obtain ⟨pv, hmm, hpv⟩ := h2.fin
        obtain ⟨pa, pc, rfl⟩ := hpv.sl.form
        have m2 := hmm.cell 2
        simp only [List.getElem?_cons_zero, List.getElem?_cons_succ] at m2
        have HMM := Hd.mk (And.intro hmm hpv)
        clear h1 h2 hmm hpv
        go_wp2_with fail
        refine (sort_ok [] (.slice none 0 0) w2 (Sl.nil _ _ _) (by simp)).mono ?_
        rintro e w3 ⟨rfl, h3, u3⟩
        have hq3 := u3.blk HMM.out.1 (by simp [ownB])
        have hr3 := u3.blk HF2.out.rs (by simp [ownB])
        have HRS3 := Hd.mk hr3
        have HU3 := Hd.mk (show Upd [] w2 w3 from u3)
        have q0 := hq3.cell 0
        have q1 := hq3.cell 1
        have q2 := hq3.cell 2
        have r0 := hr3.cell 0
        have r1 := hr3.cell 1
        have r2 := hr3.cell 2
        have f0 := hr3.free 0
        have f1 := hr3.free 1
        have f2 := hr3.free 2
        simp only [zMatch, S, List.getElem?_cons_zero, List.getElem?_cons_succ] at q0 q1 q2 r0 r1 r2
        clear m2 h3 u3 hq3 hr3
        go_wp2_with fail
        exact bodyPost_ret (results_cell_tmp _ _ _ 6 7 33 rsb [S r.h, .slice pa (parL (segsL r.p) l).length pc, .slice none 0 0] 33 rfl rfl (((HRS3.out.set 0 _).set 1 _).set 2 _) (by kernel_rfl) (by kernel_rfl)) rfl (by
          have hu : ∀ W (p : Addr) (v : Value), p.block = rsb → Upd [] w W → Upd [] w (W.setCell p v) := fun W p v hp h => h.trans ((Upd.refl [rsb] _).set _ _ (by rw [hp]; simp)) (fun k hk e => by rw [List.mem_singleton] at e; have := HRB.out; omega)
          have hw : Upd [rsb] w3 (((w3.setCell ⟨rsb, 0, none⟩ (S r.h)).setCell ⟨rsb, 1, none⟩ (.slice pa (parL (segsL r.p) l).length pc)).setCell ⟨rsb, 2, none⟩ (.slice none 0 0)) := (((Upd.refl _ _).set _ _ (by simp)).set _ _ (by simp)).set _ _ (by simp)
          have hb3 := HMM.out.2.over HU3.out
          exact .inl ⟨r, _, HF.out, rfl, hb3.sl.upd hw (fun k hk e => by rw [List.mem_singleton] at e; subst e; exact hb3.sl.other (t := 33) (by decide) _ hk _ HRS3.out), hb3.own, hu _ _ _ rfl (hu _ _ _ rfl (hu _ _ _ rfl hb3.upd))⟩)
end Go.Proofs.YtndlbkiogagnaaaGreatDoor
