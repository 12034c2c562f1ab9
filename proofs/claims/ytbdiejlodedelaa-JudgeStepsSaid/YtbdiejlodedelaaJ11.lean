/- JudgeSteps: a step tells whether an op is answered so, and what keys have behind it. -/
import Derived.Test.YtbdiejlodedelaaJ7
namespace Go.Proofs.Ytbdiejlodedelaa
set_option linter.unusedSimpArgs false
set_option linter.unusedVariables false
set_option linter.unnecessarySimpa false
open Go.RowKit BigFrame

section
variable {κ : Type} [DecidableEq κ]
theorem nodup_le : ∀ {l r : List κ}, l.Nodup → (∀ x ∈ l, x ∈ r) → l.length ≤ r.length
  | [], r, _, _ => by simp
  | a :: l, r, hn, hs => by
    simp only [List.nodup_cons] at hn
    have ha := hs a (by simp)
    have := nodup_le (l := l) (r := r.erase a) hn.2 (fun x hx => (List.mem_erase_of_ne (fun e : x = a => hn.1 (e ▸ hx))).2 (hs x (by simp [hx])))
    rw [List.length_erase_of_mem ha] at this
    have := List.length_pos_of_mem ha
    simp
    omega
theorem len_of_get {L M : List (κ × Value × Nat)} (hL : (L.map (·.1)).Nodup) (hM : (M.map (·.1)).Nodup) (h : ∀ k, (get L k).isSome = (get M k).isSome) : L.length = M.length := by
  have h1 := nodup_le hL (fun k hk => get_isSome.1 ((h k).symm.trans (get_isSome.2 hk)))
  have h2 := nodup_le hM (fun k hk => get_isSome.1 ((h k).trans (get_isSome.2 hk)))
  simp at h1 h2
  omega
end
theorem MS.len_eq {w w' : World} {r r' n n' : Nat} {m : St} (h : MS w r m n) (h' : MS w' r' m n') : n = n' := by
  obtain ⟨L, h1, h2, rfl⟩ := h
  obtain ⟨L', h3, h4, rfl⟩ := h'
  exact len_of_get h1.nodup h3.nodup (fun k => by rw [h2, h4])
theorem MS.put {w : World} {r n : Nat} {m : St} (h : MS w r m n) (k v : ByteArray) : ∃ w' n', (Instr.mapUpdate 34 (.map (some r)) (.string k) (.string v)).run Try.prog w = .ok () w' ∧ MS w' r (m.put k v) n' ∧ Upd [r] w w' ∧ n' = (if (m k).isSome then n else n + 1) := by
  obtain ⟨L, h1, h2, rfl⟩ := h
  obtain ⟨c, w', hr, h3, h4⟩ := run_update_mp (P := Try.prog) (keyLaw_string (kt := 9) Try.underlying9) 34 Try.underlying34 h1 k (.string v)
  refine ⟨w', _, hr, ⟨_, h3, fun q => ?_, rfl⟩, h4, ?_⟩
  · rw [get_put, h2 q]
    unfold St.put
    split <;> rfl
  · rw [put_len, h2]
    cases m k <;> simp
theorem MS.len {w : World} {r n : Nat} {m : St} (h : MS w r m n) (ty : TypeId) : (Builtin.len_ #[34] ty #[.map (some r)]).run Try.prog w = .ok (.int .i64 n) w := by
  obtain ⟨L, h1, -, rfl⟩ := h
  exact run_len_mp Try.underlying34 h1
theorem MS.putLen {w w' : World} {r r' n n' : Nat} {m : St} {k v : ByteArray} (h : MS w r m n) (h' : MS w' r' (m.put k v) n') : n' = if (m k).isSome then n else n + 1 := by
  obtain ⟨w2, n2, -, h2, -, h3⟩ := h.put k v
  rw [← h3]
  exact h'.len_eq h2
theorem MS.delLen {w w' : World} {r r' n n' : Nat} {m : St} {k : ByteArray} (h : MS w r m n) (h' : MS w' r' (m.del k) n') : n' + (if (m k).isSome then 1 else 0) = n := by
  obtain ⟨L, h1, h2, rfl⟩ := h
  obtain ⟨w2, hr, h3, h4⟩ := run_delete_mp (P := Try.prog) (keyLaw_string (kt := 9) Try.underlying9) 34 9 0 Try.underlying34 h1 k
  have h5 : MS w2 r (m.del k) (del L k).length := ⟨_, h3, fun q => by rw [get_del, h2 q]; unfold St.del; split <;> rfl, rfl⟩
  rw [h'.len_eq h5]
  have := _root_.Go.Proofs.Ytbdiejlodedelaa.del_len L h1.nodup k
  rw [h2] at this
  cases hm : m k with
  | none => rw [hm] at this; simpa using this
  | some x => rw [hm] at this; simpa using this

/-- map[bool]int{true: 1, false: 0} -/
theorem bmap (w : World) : ∃ w1 w2, (Instr.mapUpdate 40 (.map (some w.heap.size)) (.bool true) (.int .i64 1)).run Try.prog (w.alloc (.map #[] 0)) = .ok () w1 ∧ (Instr.mapUpdate 40 (.map (some w.heap.size)) (.bool false) (.int .i64 0)).run Try.prog w1 = .ok () w2 ∧
    (Instr.lookup 40 (.map (some w.heap.size)) (.bool true) false).run Try.prog w2 = .ok (.int .i64 1) w2 ∧ (Instr.lookup 40 (.map (some w.heap.size)) (.bool false) false).run Try.prog w2 = .ok (.int .i64 0) w2 ∧ Upd [] w w2 := by
  have K := keyLaw_bool (P := Try.prog) (kt := 4) Try.underlying4
  obtain ⟨c1, w1, h1, m1, u1⟩ := run_update_mp (P := Try.prog) K 40 Try.underlying40 (Mp.new w (fun k : Bool => Value.bool k)) true (.int .i64 1)
  obtain ⟨c2, w2, h2, m2, u2⟩ := run_update_mp (P := Try.prog) K 40 Try.underlying40 m1 false (.int .i64 0)
  refine ⟨w1, w2, h1, h2, ?_, ?_, ((((Upd.refl [] w).alloc _).trans u1 (fun k hk e => by simp at e; omega)).trans u2 (fun k hk e => by simp at e; omega))⟩
  · rw [run_lookup_mp (P := Try.prog) K 40 Try.underlying40 (.int .i64 0) (fun W => by kernel_rfl) m2 true false, get_put, get_put]
    simp
  · rw [run_lookup_mp (P := Try.prog) K 40 Try.underlying40 (.int .i64 0) (fun W => by kernel_rfl) m2 false false, get_put]
    simp

def putAll (O : Nat → Op) (i : Nat) : St := (List.range i).foldl (fun m j => m.put (O j).key (O j).val) St.none
theorem putAll_succ (O : Nat → Op) (i : Nat) : putAll O (i + 1) = (putAll O i).put (O i).key (O i).val := by
  unfold putAll
  rw [List.range_succ, List.foldl_append]
  rfl

/-- Step, answered so or not. -/
def StepAny (w : World) (r : Nat) (m : St) (o : Op) (e : Ending) (w' : World) : Prop :=
  ∃ nx n', e = .returned (.tuple #[nx, .bool (o.told m)]) ∧ ((o.told m = false ∧ nx = .map none) ∨ (o.told m = true ∧ ∃ r', nx = .map (some r') ∧ (r' = r ∨ w.heap.size ≤ r') ∧ MS w' r' (o.after m) n')) ∧ Upd [] w w'
theorem step_any (r n : Nat) (m : St) (o : Op) (w : World) (h : MS w r m n) : Calls Try.prog 13 #[.map (some r), .agg o.cells.toArray] w (StepAny w r m o) := by
  cases ht : o.told m with
  | false => exact (step_no r n m o w h ht).mono fun e w' ⟨h1, h2⟩ => ⟨.map none, 0, by rw [h1, ht], .inl ⟨ht, rfl⟩, h2⟩
  | true =>
    refine (step_yes r n m o w h ht).mono fun e w' ⟨r', n', h1, h2, h3, h4⟩ => ⟨.map (some r'), n', by rw [h1, ht], .inr ⟨ht, r', rfl, h2, h3⟩, h4⟩

set_option maxRecDepth 100000 in
set_option maxHeartbeats 4000000 in
theorem steps_walk (a : Option Addr) (n cap : Nat) (O : Nat → Op) (o : Op) (w : World) (h : Rd w a n O) (hn : n ≤ maxLen) (hsh : Short O n) (ho : o.key.size ≤ 140737488351232 ∧ o.val.size ≤ 140737488351232) :
    Calls Try.prog 5 #[.slice a n cap, .agg o.cells.toArray] w fun e w' => e = .returned (.bool true) ∧ Upd [] w w' := by
  have HR := Hd.mk h
  have HSH := Hd.mk hsh
  have HN := Hd.mk hn
  have HO := Hd.mk ho
  clear h hsh ho
  unfold maxLen at hn
  have hmm := @run_makeMap Try.prog
  unfold Op.cells
  go_enter Try.func5, Try.ntmps5
  go_upto_region 1 with (fail)
  refine wp_abs (fun W => Upd [] w W ∧ Blk W w.heap.size o.cells 31) ⟨(Upd.refl _ _).alloc _, Blk.new w o.cells 31 _ rfl⟩ ?_
  rintro w1 ⟨u1, b1⟩
  obtain ⟨cb, hcb⟩ : ∃ cb, cb = w.heap.size := ⟨_, rfl⟩
  have HCB := Hd.mk (Nat.le_of_eq hcb.symm)
  rw [← hcb] at b1 ⊢
  have HB := Hd.mk b1
  clear hcb b1
  go_wp2_with fail
  refine (fit_ok _).mono ?_
  rintro e w2 ⟨rfl, u2⟩
  have U2 := Hd.mk (u1.trans u2 (by simp))
  have B2 := Hd.mk (u2.blk HB.out (by simp))
  clear u1 u2
  go_wp2_with fail
  refine (light_ok a n cap O w2 (HR.out.upd U2.out) HN.out HSH.out).mono ?_
  rintro e w3 ⟨rfl, u3⟩
  have U3 := Hd.mk (U2.out.trans u3 (by simp))
  have B3 := Hd.mk (u3.blk B2.out (by simp))
  clear u3 U2 B2
  cases hl : lightB O n with
  | false =>
    clear hl hmm
    go_wp2_with fail
    go_ret
    exact ⟨rfl, U3.out⟩
  | true =>
    have h20 : n ≤ 20 := by
      unfold lightB at hl
      simp at hl
      exact hl.2
    clear hl
    have tb := B3.out
    have c0 := tb.cell 0
    have c1 := tb.cell 1
    have c2 := tb.cell 2
    have c3 := tb.cell 3
    have c4 := tb.cell 4
    have c5 := tb.cell 5
    simp only [Op.cells, List.getElem?_cons_zero, List.getElem?_cons_succ] at c0 c1 c2 c3 c4 c5
    clear tb
    go_wp2_with fail
    have b1 := Blk.new w3 ([o].flatMap Op.cells) 31 _ rfl
    have R1 := Hd.mk (Rd.of_blk b1 (show 1 ≤ maxLen by unfold maxLen; omega))
    clear b1
    refine (light_ok (some ⟨w3.heap.size, 0, none⟩) 1 1 (opsOf [o]) _ R1.out (by unfold maxLen; omega) (fun i hi => by
      have : i = 0 := by omega
      subst this
      exact HO.out)).mono ?_
    rintro e w4 ⟨rfl, u4⟩
    have U4 := Hd.mk ((U3.out.trans ((Upd.refl [] w3).alloc _) (by simp)).trans u4 (by simp))
    have B4 := Hd.mk (u4.blk (B3.out.alloc _) (by simp))
    clear u4 R1 c0 c1 c2 c3 c4 c5
    cases hl : lightB (opsOf [o]) 1 with
    | false =>
      clear hl hmm
      go_wp2_with fail
      go_ret
      exact ⟨rfl, U4.out⟩
    | true =>
    clear hl
    go_upto_region 6 with (fail)
    have m1 := Mp.new w4 (fun k : ByteArray => Value.string k)
    have m2 := Mp.new (w4.alloc (.map #[] 0)) (fun k : ByteArray => Value.string k)
    refine wp_abs (fun W => (Upd [] w W ∧ Blk W cb o.cells 31) ∧ MS W w4.heap.size St.none 0 ∧ MS W (w4.heap.size + 1) St.none 0) ⟨⟨(U4.out.alloc _).alloc _, (B4.out.alloc _).alloc _⟩, ⟨[], m1.upd ((Upd.refl [] _).alloc _) (by simp), fun k => rfl, rfl⟩, ⟨[], by simpa using m2, fun k => rfl, rfl⟩⟩ ?_
    have MB := Hd.mk U4.out.size
    clear m1 m2 hmm U4 B4 U3 B3
    generalize w4.heap.size = mb at *
    rintro w5 ⟨⟨u5, b5⟩, m5, z5⟩
    have HI := Hd.mk (And.intro (And.intro u5 b5) (And.intro m5 z5))
    clear u5 b5 m5 z5
    go_wp2_with fail
    go_loopg [35] n (fun g ii wr => ∃ (i k : Nat), ii = .int .i64 i ∧ g + i = n ∧ k ≤ i ∧ (Upd [] w wr ∧ Blk wr cb o.cells 31) ∧ MS wr mb (putAll O i) k ∧ MS wr (mb + 1) (putAll O i) k)
    case atStart => exact ⟨0, 0, rfl, by omega, by omega, HI.out.1, HI.out.2.1, HI.out.2.2⟩
    case round =>
      clear HI
      obtain ⟨i, k, rfl, hg, hki, ⟨u, tb⟩, mr, zr⟩ := hrel
      by_cases hlt : i < n
      · obtain ⟨b, off, rfl, hb, c0, c1, c2, c3, c4, c5⟩ := (HR.out.upd u).at i hlt
        have HI := Hd.mk (And.intro (And.intro u tb) (And.intro mr zr))
        have HG := Hd.mk hg
        clear u tb mr zr hg
        go_upto_region 9 with (fail)
        have al := (Upd.refl [] wr).alloc (.cells (O i).cells.toArray 31)
        refine wp_abs (fun W => ((Upd [] w W ∧ Blk W cb o.cells 31) ∧ MS W mb (putAll O i) k ∧ MS W (mb + 1) (putAll O i) k) ∧ Blk W wr.heap.size (O i).cells 31) ⟨⟨⟨HI.out.1.1.alloc _, HI.out.1.2.alloc _⟩, HI.out.2.1.upd al (by simp), HI.out.2.2.upd al (by simp)⟩, Blk.new wr (O i).cells 31 _ rfl⟩ ?_
        clear c0 c1 c2 c3 c4 c5 HI al
        generalize wr.heap.size = db at *
        rintro w6 ⟨hi6, tb⟩
        have HI := Hd.mk hi6
        have c0 := tb.cell 0
        have c1 := tb.cell 1
        have c2 := tb.cell 2
        have c3 := tb.cell 3
        have c4 := tb.cell 4
        have c5 := tb.cell 5
        simp only [Op.cells, List.getElem?_cons_zero, List.getElem?_cons_succ] at c0 c1 c2 c3 c4 c5
        have HTB := Hd.mk tb
        clear hi6 tb
        obtain ⟨w7, k7, hup7, m7, u7, hk7⟩ := (HI.out.2.1.upd (Upd.refl [] w6).drew (by simp)).put (O i).key (O i).val
        have z6 : MS w7 (mb + 1) (putAll O i) k := (HI.out.2.2.upd (Upd.refl [] w6).drew (by simp)).upd u7 (by simp)
        obtain ⟨w8, k8, hup8, z8, u8, hk8⟩ := z6.put (O i).key (O i).val
        have hk71 : k7 ≤ i + 1 := by rw [hk7]; split <;> omega
        have HF := Hd.mk (show (Upd [] w w8 ∧ Blk w8 cb o.cells 31) ∧ MS w8 mb (putAll O (i + 1)) k7 ∧ MS w8 (mb + 1) (putAll O (i + 1)) k7 from by
          have hmb := MB.out
          obtain ⟨L1, p1, -⟩ := HI.out.2.1
          obtain ⟨L2, p2, -⟩ := HI.out.2.2
          refine ⟨⟨(HI.out.1.1.drew.trans u7 (fun q hq e => by simp at e; omega)).trans u8 (fun q hq e => by simp at e; omega), u8.blk (u7.blk HI.out.1.2.drew (by simp; exact fun e => p1.other _ _ (e ▸ HI.out.1.2))) (by simp; exact fun e => p2.other _ _ (e ▸ HI.out.1.2))⟩, ?_, ?_⟩
          · rw [putAll_succ]; exact m7.upd u8 (by simp)
          · rw [putAll_succ, hk7, ← hk8]; exact z8)
        obtain ⟨L1, p1, -⟩ := HI.out.2.1
        have tb7 := u7.blk HTB.out.drew (by simp; exact fun e => p1.other _ _ (e ▸ HTB.out))
        have y0 := tb7.cell 0
        have y1 := tb7.cell 1
        have y2 := tb7.cell 2
        have y3 := tb7.cell 3
        have y4 := tb7.cell 4
        have y5 := tb7.cell 5
        simp only [Op.cells, List.getElem?_cons_zero, List.getElem?_cons_succ] at y0 y1 y2 y3 y4 y5
        clear m7 u7 hk7 z6 z8 u8 hk8 p1 tb7
        go_region
        go_wp2_with fail
        go_roundg (gk - 1)
        case measure => have := HG.out; omega
        case rel => exact ⟨i + 1, k7, by go_num, by have := HG.out; omega, hk71, HF.out.1, HF.out.2.1, HF.out.2.2⟩
      · obtain rfl : i = n := by omega
        have f0 := tb.free 0
        have c0 := tb.cell 0
        have c1 := tb.cell 1
        have c2 := tb.cell 2
        have c3 := tb.cell 3
        have c4 := tb.cell 4
        have c5 := tb.cell 5
        simp only [Op.cells, List.getElem?_cons_zero, List.getElem?_cons_succ] at c0 c1 c2 c3 c4 c5
        have HI := Hd.mk (And.intro (And.intro u tb) (And.intro mr zr))
        clear u tb mr zr hlt hg
        go_upto_region 12 with (fail)
        have us : Upd [cb] wr (wr.setCell ⟨cb, 0, none⟩ (.int .i64 (o.kind % 256 % 3))) := (Upd.refl _ _).set _ _ (by simp)
        refine wp_abs (fun W => (Upd [] w W ∧ Blk W cb { o with kind := o.kind % 256 % 3 }.cells 31) ∧ MS W mb (putAll O i) k ∧ MS W (mb + 1) (putAll O i) k) ?_ ?_
        · obtain ⟨L1, p1, -⟩ := HI.out.2.1
          obtain ⟨L2, p2, -⟩ := HI.out.2.2
          exact ⟨⟨HI.out.1.1.trans us (fun q hq e => by simp at e; have := HCB.out; omega), (HI.out.1.2.set 0 _).as rfl⟩, HI.out.2.1.upd us (by simp; exact fun e => p1.other _ _ (e ▸ HI.out.1.2)), HI.out.2.2.upd us (by simp; exact fun e => p2.other _ _ (e ▸ HI.out.1.2))⟩
        · clear HI us f0 c0 c1 c2 c3 c4 c5 wr
          intro w6 hi6
          have hk3 : o.kind % 256 % 3 = 0 ∨ o.kind % 256 % 3 = 1 ∨ o.kind % 256 % 3 = 2 := by omega
          obtain ⟨o', ho'⟩ : ∃ o' : Op, { o with kind := o.kind % 256 % 3 } = o' := ⟨_, rfl⟩
          have hk' : o'.kind = 0 ∨ o'.kind = 1 ∨ o'.kind = 2 := by rw [← ho']; exact hk3
          rw [ho'] at hi6
          clear hk3 ho'
          have HI := Hd.mk hi6
          have HK := Hd.mk hk'
          have tb := hi6.1.2
          have c0 := tb.cell 0
          have c1 := tb.cell 1
          have c2 := tb.cell 2
          have c3 := tb.cell 3
          have c4 := tb.cell 4
          have c5 := tb.cell 5
          simp only [Op.cells, List.getElem?_cons_zero, List.getElem?_cons_succ] at c0 c1 c2 c3 c4 c5
          obtain ⟨L, mL, gL, -⟩ := hi6.2.1
          have hlk := look_ss mL o'.key (gL o'.key)
          obtain ⟨v, hv⟩ : ∃ v, (putAll O i) o'.key = v := ⟨_, rfl⟩
          rw [hv] at hlk
          have HV := Hd.mk hv
          clear tb hi6 mL gL hv hk'
          go_wp2_with fail
          -- what Step left, whichever it was
          refine (step_any mb k _ o' w6 HI.out.2.1).mono ?_
          rintro e w7 ⟨nx, n7, rfl, hnx, u7⟩
          have HI7 := Hd.mk (show (Upd [] w w7 ∧ Blk w7 cb o'.cells 31) ∧ MS w7 mb (putAll O i) k ∧ MS w7 (mb + 1) (putAll O i) k from ⟨⟨HI.out.1.1.trans u7 (by simp), u7.blk HI.out.1.2 (by simp)⟩, HI.out.2.1.upd u7 (by simp), HI.out.2.2.upd u7 (by simp)⟩)
          have HNX := Hd.mk hnx
          clear u7 hlk c0 c1 c2 c3 c4 c5 hnx
          go_upto_region 14 with (fail)
          go_cut [13] (fun s W => s = .bool (o'.told (putAll O i)) ∧ W = w7)
          case first =>
            have tb := HI7.out.1.2
            have c0 := tb.cell 0
            have c1 := tb.cell 1
            have c2 := tb.cell 2
            have c3 := tb.cell 3
            have c4 := tb.cell 4
            have c5 := tb.cell 5
            simp only [Op.cells, List.getElem?_cons_zero, List.getElem?_cons_succ] at c0 c1 c2 c3 c4 c5
            clear tb
            have HT : Hd (o'.told (putAll O i) = (v.isSome == o'.there && (o'.kind != 0 || decide (v.getD ⟨#[]⟩ = o'.val)))) := Hd.mk (by unfold Op.told; rw [HV.out])
            by_cases e1 : v.isSome = o'.there
            · by_cases e2 : o'.kind = 0
              · by_cases e3 : v.getD ⟨#[]⟩ = o'.val
                · have hs := str_yes e3
                  have HT := Hd.mk (show o'.told (putAll O i) = true by rw [HT.out, e1, e2]; simp [e3])
                  clear e3
                  go_wp2_with fail
                  go_meet
                  case rel => exact ⟨by rw [HT.out], rfl⟩
                · have hs := str_no e3
                  have HT := Hd.mk (show o'.told (putAll O i) = false by rw [HT.out, e1, e2]; simp [e3])
                  clear e3
                  go_wp2_with fail
                  go_meet
                  case rel => exact ⟨by rw [HT.out], rfl⟩
              · have e2' : (o'.kind != 0) = true := by simpa using e2
                have HT := Hd.mk (show o'.told (putAll O i) = true by rw [HT.out, e1, e2']; simp)
                go_wp2_with fail
                go_meet
                case rel => exact ⟨by rw [HT.out], rfl⟩
            · have e1' : (v.isSome == o'.there) = false := by simpa using e1
              have HT := Hd.mk (show o'.told (putAll O i) = false by rw [HT.out, e1']; rfl)
              go_wp2_with fail
              go_meet
              case rel => exact ⟨by rw [HT.out], rfl⟩
          case rest =>
            obtain ⟨rfl, rfl⟩ := hcut
            obtain ⟨tl, htl⟩ : ∃ tl, o'.told (putAll O i) = tl := ⟨_, rfl⟩
            rw [htl] at HNX ⊢
            have HTL := Hd.mk htl
            have HI8 := Hd.mk (show (Upd [] w wc ∧ MS wc (mb + 1) (putAll O i) k) from ⟨HI7.out.1.1, HI7.out.2.2⟩)
            have ln1 := fun ty => HI7.out.2.1.len ty
            have ln2 := fun ty => HI7.out.2.2.len ty
            obtain ⟨L2, q2, g2, -⟩ := HI7.out.2.2
            obtain ⟨w8, hrg, r8, u8⟩ := run_range_mp (P := Try.prog) Try.underlying34 q2
            obtain ⟨it, hit⟩ : ∃ it, it = wc.heap.size := ⟨_, rfl⟩
            have ITB := Hd.mk (show mb + 1 < it ∧ w.heap.size ≤ it ∧ cb < it ∧ (∀ r', nx = .map (some r') → r' < it) from by
              have h1 := HI7.out.2.2.lt
              have h2 := HI7.out.1.1.size
              have h3 := HI7.out.1.2.lt
              refine ⟨by omega, by omega, by omega, fun r' e => ?_⟩
              rcases HNX.out with ⟨-, h⟩ | ⟨-, r2, h, -, h4⟩
              · rw [h] at e; cases e
              · rw [h] at e
                simp only [Value.map.injEq, Option.some.injEq] at e
                subst e
                have := h4.lt
                omega)
            rw [← hit] at hrg r8
            have HG2 := Hd.mk g2
            have HW := Hd.mk (show Upd [] wc w8 from u8)
            have HRG := Hd.mk r8
            clear htl hit q2 r8 u8
            clear g2
            go_wp2_with fail
            clear hrg ln1 ln2
            go_loopg [] L2.length (fun g wr => ∃ F, Hd (g = F.length) ∧ Rng wr it (mb + 1) (fun k : ByteArray => .string k) L2 F ∧ Upd [it] w8 wr)
            case atStart => exact ⟨L2, Hd.mk rfl, HRG.out, Upd.refl _ _⟩
            case round =>
              obtain ⟨F, HGh, rr, ur⟩ := hrel
              rcases run_next_mp (P := Try.prog) rr with ⟨rfl, hrun⟩ | ⟨x, w9, hx, hrun, r9, u9, hen⟩
              · have UW := Hd.mk ((HW.out.mono (T := [it]) (by simp)).trans ur (by simp))
                have MR := Hd.mk (HI7.out.2.1.upd UW.out (by have := ITB.out.1; simp; omega))
                have UR := Hd.mk (HI7.out.1.1.trans UW.out (by intro q hq e; simp at e; have := ITB.out.2.1; omega))
                have BR := Hd.mk (UW.out.blk HI7.out.1.2 (by have := ITB.out.2.2.1; simp; omega))
                have ln1 := fun ty => MR.out.len ty
                clear ur rr HI8 HW HRG
                cases tl with
                | false =>
                  obtain ⟨-, hnx⟩ | ⟨h, -⟩ := HNX.out
                  rotate_left
                  · cases h
                  subst hnx
                  clear ITB HNX
                  go_wp2_with fail
                  go_ret
                  exact ⟨rfl, UR.out⟩
                | true =>
                  obtain ⟨h, -⟩ | ⟨-, r', hnx, -, mn⟩ := HNX.out
                  · cases h
                  subst hnx
                  have MN := Hd.mk (mn.upd UW.out (by have := ITB.out.2.2.2 r' rfl; simp; omega))
                  have ln2 := fun ty => MN.out.len ty
                  have tb := BR.out
                  have c0 := tb.cell 0
                  have c1 := tb.cell 1
                  have c2 := tb.cell 2
                  have c3 := tb.cell 3
                  have c4 := tb.cell 4
                  have c5 := tb.cell 5
                  simp only [Op.cells, List.getElem?_cons_zero, List.getElem?_cons_succ] at c0 c1 c2 c3 c4 c5
                  obtain ⟨L3, q3, g3, -⟩ := MN.out
                  have hlk := look_ss q3 o'.key (g3 o'.key)
                  clear tb ITB HNX mn q3 g3
                  cases v with
                  | none =>
                    obtain hk | hk | hk := HK.out
                    · have e1 : o'.after (putAll O i) = putAll O i := by unfold Op.after; rw [if_pos (.inl hk)]
                      have hn7 : n7 = k := by have h := MN.out; rw [e1] at h; exact h.len_eq MR.out
                      subst hn7
                      rw [e1, HV.out] at hlk
                      clear e1
                      go_wp2_with fail
                      go_ret
                      exact ⟨rfl, UR.out⟩
                    · have e1 : o'.after (putAll O i) = (putAll O i).put o'.key o'.val := by unfold Op.after; rw [if_neg (by simp [hk]), if_pos hk]
                      have hn7 : n7 = k + 1 := by have h := MN.out; rw [e1] at h; have := MR.out.putLen h; rw [HV.out] at this; simpa using this
                      subst hn7
                      rw [e1, show (putAll O i).put o'.key o'.val o'.key = some o'.val by unfold St.put; simp] at hlk
                      clear e1
                      go_wp2_with fail
                      go_ret
                      exact ⟨rb (by simp; try omega), UR.out⟩
                    · have e1 : o'.after (putAll O i) = putAll O i := by unfold Op.after; rw [if_pos (.inr ⟨hk, by rw [HV.out]; rfl⟩)]
                      have hn7 : n7 = k := by have h := MN.out; rw [e1] at h; exact h.len_eq MR.out
                      subst hn7
                      rw [e1, HV.out] at hlk
                      clear e1
                      have hmm := @run_makeMap Try.prog
                      obtain ⟨x1, x2, hb1, hb2, hb3, hb4, ub⟩ := bmap wr
                      have UB := Hd.mk (UR.out.trans ub (by simp))
                      clear ub
                      go_wp2_with fail
                      go_ret
                      exact ⟨rb (by simp; try omega), UB.out⟩
                  | some x =>
                    obtain hk | hk | hk := HK.out
                    · have e1 : o'.after (putAll O i) = putAll O i := by unfold Op.after; rw [if_pos (.inl hk)]
                      have hn7 : n7 = k := by have h := MN.out; rw [e1] at h; exact h.len_eq MR.out
                      subst hn7
                      rw [e1, HV.out] at hlk
                      have hs := str_yes (rfl : x = x)
                      clear e1
                      go_wp2_with fail
                      go_ret
                      exact ⟨rfl, UR.out⟩
                    · have e1 : o'.after (putAll O i) = (putAll O i).put o'.key o'.val := by unfold Op.after; rw [if_neg (by simp [hk]), if_pos hk]
                      have hn7 : n7 = k := by have h := MN.out; rw [e1] at h; have := MR.out.putLen h; rw [HV.out] at this; simpa using this
                      subst hn7
                      rw [e1, show (putAll O i).put o'.key o'.val o'.key = some o'.val by unfold St.put; simp] at hlk
                      clear e1
                      go_wp2_with fail
                      go_ret
                      exact ⟨rb (by simp; try omega), UR.out⟩
                    · have e1 : o'.after (putAll O i) = (putAll O i).del o'.key := by unfold Op.after; rw [if_neg (by simp [hk, HV.out]), if_neg (by simp [hk])]
                      have hn7 : k = n7 + 1 := by have h := MN.out; rw [e1] at h; have := MR.out.delLen h; rw [HV.out] at this; simpa using this.symm
                      subst hn7
                      rw [e1, show (putAll O i).del o'.key o'.key = none by unfold St.del; simp] at hlk
                      clear e1
                      have hmm := @run_makeMap Try.prog
                      obtain ⟨x1, x2, hb1, hb2, hb3, hb4, ub⟩ := bmap wr
                      have UB := Hd.mk (UR.out.trans ub (by simp))
                      clear ub
                      go_wp2_with fail
                      go_ret
                      exact ⟨rb (by simp; try omega), UB.out⟩
              · have hxL := rr.sub x hx
                obtain ⟨y, hy, hm⟩ : ∃ y, x.2.1 = .string y ∧ putAll O i x.1 = some y := by
                  have := HG2.out x.1
                  rw [get_of_mem rr.mp.nodup hxL] at this
                  cases hm : putAll O i x.1 with
                  | none => rw [hm] at this; cases this
                  | some v => rw [hm] at this; exact ⟨v, by simpa using this, rfl⟩
                rw [hy] at hrun hen
                have UW := Hd.mk (((HW.out.mono (T := [it]) (by simp)).trans ur (by simp)).trans u9 (by simp))
                obtain ⟨L3, q3, g3, -⟩ := HI7.out.2.1.upd UW.out (by have := ITB.out.1; simp; omega)
                have hlk := look_ss q3 x.1 (g3 x.1)
                rw [hm] at hlk
                have HR9 := Hd.mk r9
                have HUR := Hd.mk (ur.trans u9 (by simp))
                have HSH9 := Hd.mk (filter_short hx)
                clear ur u9 q3 g3 r9 rr hm hy
                go_wp2_with fail
                go_roundg (F.filter fun y => decide (y.1 ≠ x.1)).length
                case measure => have := HGh.out; have := HSH9.out; omega
                case rel => exact ⟨_, Hd.mk rfl, HR9.out, HUR.out⟩

theorem steps_row (a : Option Addr) (len cap : Nat) (cs : Array Value) (w : World) (hz : Leaf.ok w (.sl [.int .i64, .int .i64, .int .i64, .str, .str, .bool]) (.slice a len cap)) (ho : Leaf.oks w [.int .i64, .int .i64, .int .i64, .str, .str, .bool] cs.toList) :
    Calls Try.prog 5 #[.slice a len cap, .agg cs] w fun e w' => e = .returned (.bool true) ∧ Below w.heap.size w w' := by
  obtain ⟨O, h1, h2, h3, -⟩ := leaf_rd hz
  obtain ⟨o, h4, h5, h6, -⟩ := leaf_op ho
  have : cs = o.cells.toArray := by rw [← h4]
  subst this
  exact (steps_walk a len cap O o w h1 h3 h2 ⟨h5, h6⟩).mono fun _ _ h => ⟨h.1, h.2.nil_below⟩
end Go.Proofs.Ytbdiejlodedelaa
