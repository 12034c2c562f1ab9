/- JudgeMakes: what was done one behind the other has an order. -/
import Derived.Test.YtbdiejlodedelaaJ9
import Derived.Test.YtbdiejlodedelaaArgs
namespace Go.Proofs.Ytbdiejlodedelaa
set_option linter.unusedSimpArgs false
set_option linter.unusedVariables false
set_option linter.unnecessarySimpa false
open Go.RowKit BigFrame

theorem okOp_in {o : Op} (h0 : 0 ≤ o.kind) (h1 : o.kind ≤ 2) (h2 : o.b ≤ o.e) : okOp o = true := by
  unfold okOp
  simp
  omega
def stL (l : List Op) : St := l.foldl (fun m o => o.after m) St.none
theorem stL_snoc (l : List Op) (o : Op) : stL (l ++ [o]) = o.after (stL l) := by simp [stL]
/-- Ops that were done one behind the other. -/
def Good (l : List Op) : Prop := ∀ i, i < l.length → (0 ≤ (opsOf l i).kind ∧ (opsOf l i).kind ≤ 2) ∧ (opsOf l i).b ≤ 10 * i ∧ 10 * i + 5 ≤ (opsOf l i).e ∧ (opsOf l i).told (stL (l.take i)) = true
theorem Good.nil : Good [] := by intro i hi; simp at hi
theorem Good.snoc {l : List Op} (h : Good l) {o : Op} (h0 : 0 ≤ o.kind) (h1 : o.kind ≤ 2) (h2 : o.b ≤ 10 * l.length) (h3 : 10 * (l.length : Int) + 5 ≤ o.e) (h4 : o.told (stL l) = true) : Good (l ++ [o]) := by
  intro i hi
  by_cases e : i = l.length
  · subst e
    have : opsOf (l ++ [o]) l.length = o := by simp [opsOf]
    rw [this, List.take_left]
    exact ⟨⟨h0, h1⟩, h2, h3, h4⟩
  · have hi' : i < l.length := by simp at hi; omega
    have : opsOf (l ++ [o]) i = opsOf l i := by simp [opsOf, List.getElem?_append_left hi']
    rw [this, List.take_append_of_le_length (by omega)]
    exact h i hi'
theorem stL_take (l : List Op) : ∀ i, i ≤ l.length → stL (l.take i) = stAt (opsOf l) St.none (List.range i) := by
  intro i
  induction i with
  | zero => intro _; rfl
  | succ i ih =>
    intro hi
    rw [List.take_add_one, List.getElem?_eq_getElem (by omega), List.range_succ, stAt_snoc, ← ih (by omega)]
    simp only [Option.toList_some, stL_snoc]
    congr 1
    simp [opsOf, List.getElem?_eq_getElem (show i < l.length by omega)]
theorem Good.fits {l : List Op} (h : Good l) : ∀ d i, i + d = l.length → fits (opsOf l) (stAt (opsOf l) St.none (List.range i)) (List.range' i d) = true := by
  intro d
  induction d with
  | zero => intro i _; rfl
  | succ d ih =>
    intro i hi
    obtain ⟨_, h2, h3, h4⟩ := h i (by omega)
    rw [List.range'_succ, Go.Proofs.Ytbdiejlodedelaa.fits]
    simp only [Bool.and_eq_true, List.all_eq_true]
    refine ⟨⟨fun j hj => ?_, ?_⟩, ?_⟩
    · have hj' := List.mem_range'_1.1 hj
      obtain ⟨_, g2, g3, _⟩ := h j (by omega)
      simp
      omega
    · rw [← stL_take l i (by omega)]; exact h4
    · have := ih (i + 1) (by omega)
      rw [List.range_succ, stAt_snoc] at this
      exact this
theorem Good.order {l : List Op} (h : Good l) (h12 : l.length ≤ 12) : ∃ r, ordRes (opsOf l) l.length = some r ∧ r.Perm (List.range l.length) ∧ Go.Proofs.Ytbdiejlodedelaa.fits (opsOf l) St.none r = true := by
  have hr : rightB (opsOf l) l.length = true := by
    rw [right_yes (fun i hi => okOp_in (h i hi).1.1 (h i hi).1.2 (by have := (h i hi).2.1; have := (h i hi).2.2.1; omega))]
    simpa using h12
  have hl0 : left l.length 0 = List.range l.length := by
    unfold left
    rw [List.filter_eq_self]
    simp
  have hs := srch_perms (opsOf l) l.length l.length 0 St.none (Nat.two_pow_pos _) (left_zero _)
  rw [hl0] at hs
  have hid : List.range l.length ∈ perms l.length (List.range l.length) := perms_all _ _ _ (by simp) (List.Perm.refl _)
  have hf := h.fits l.length 0 (by omega)
  rw [← List.range_eq_range'] at hf
  have hsome : ((perms l.length (List.range l.length)).find? (Go.Proofs.Ytbdiejlodedelaa.fits (opsOf l) St.none)).isSome = true := by
    rw [List.find?_isSome]
    exact ⟨_, hid, hf⟩
  obtain ⟨r, hr2⟩ := Option.isSome_iff_exists.1 hsome
  refine ⟨r, ?_, perms_perm _ _ _ (by simp) (List.mem_of_find?_eq_some hr2), List.find?_some hr2⟩
  unfold ordRes
  rw [hr, if_pos rfl, hs, hr2]

def knd (o : Op) : Int := o.kind % 256 % 3
def mk0 (m : St) (o : Op) (i : Nat) (lo hi : Int) : Op := ⟨knd o, 10 * i - lo, 10 * i + 5 + hi, o.key, o.val, (m o.key).isSome⟩
def mk (m : St) (o : Op) (i : Nat) (lo hi : Int) : Op := { mk0 m o i lo hi with val := if knd o = 0 then (m o.key).getD ⟨#[]⟩ else o.val }
theorem mk_told (m : St) (o : Op) (i : Nat) (lo hi : Int) : (mk m o i lo hi).told m = true := by
  unfold Op.told mk mk0
  simp
  by_cases h : knd o = 0
  · right; simp [h]
  · left; exact h
theorem knd_range (o : Op) : 0 ≤ knd o ∧ knd o ≤ 2 := by unfold knd; omega

/-- What a round of the law keeps: the ops so far, the keys' values, the op at hand. -/
structure Rn (w W : World) (cb mb : Nat) (v : Value) (i : Nat) (ops : List Op) (m : St) (k : Nat) (cs : List Value) : Prop where
  bld : Bld w W 31 6 v i (ops.flatMap Op.cells)
  map : MS W mb m k
  blk : Blk W cb cs 31
  own : ∀ q, q ∈ ownB v → q ≠ cb
  hcb : w.heap.size ≤ cb
theorem Rn.set {w W : World} {cb mb : Nat} {v : Value} {i : Nat} {ops : List Op} {m : St} {k : Nat} {cs : List Value} (h : Rn w W cb mb v i ops m k cs) (j : Nat) (x : Value) : Rn w (W.setCell ⟨cb, j, none⟩ x) cb mb v i ops m k (cs.set j x) where
  bld := ⟨h.bld.sl.upd ((Upd.refl [cb] W).set _ _ (by simp)) (fun q hq e => h.own q hq (by simpa using e)), h.bld.own, h.bld.upd.trans ((Upd.refl [cb] W).set _ _ (by simp)) (fun q hq e => by simp at e; have := h.hcb; omega)⟩
  map := h.map.upd ((Upd.refl [cb] W).set _ _ (by simp)) (by
    obtain ⟨L, mL, -⟩ := h.map
    simp
    exact fun e => mL.other _ _ (e ▸ h.blk))
  blk := h.blk.set _ _
  own := h.own
  hcb := h.hcb
theorem Rn.drewN {w W : World} {cb mb : Nat} {v : Value} {i : Nat} {ops : List Op} {m : St} {k : Nat} {cs : List Value} (h : Rn w W cb mb v i ops m k cs) (q : Nat) : Rn w (W.drewN q) cb mb v i ops m k cs :=
  ⟨h.bld.over ((Upd.refl _ _).drewN _), h.map.upd ((Upd.refl [] _).drewN _) (by simp), h.blk.drewN _, h.own, h.hcb⟩
theorem Rn.drew {w W : World} {cb mb : Nat} {v : Value} {i : Nat} {ops : List Op} {m : St} {k : Nat} {cs : List Value} (h : Rn w W cb mb v i ops m k cs) : Rn w W.drew cb mb v i ops m k cs :=
  ⟨h.bld.over (Upd.refl _ _).drew, h.map.upd (Upd.refl [] _).drew (by simp), h.blk.drew, h.own, h.hcb⟩
theorem Rn.mapset {w W W' : World} {cb mb : Nat} {v : Value} {i : Nat} {ops : List Op} {m m' : St} {k k' : Nat} {cs : List Value} (h : Rn w W cb mb v i ops m k cs) (hmb : w.heap.size ≤ mb) (u : Upd [mb] W W') (hm : MS W' mb m' k') : Rn w W' cb mb v i ops m' k' cs := by
  obtain ⟨L, mL, -⟩ := h.map
  have h1 : mb ∉ ownB v := h.bld.sl.notMp mL
  exact ⟨⟨h.bld.sl.upd u (fun q hq e => h1 (by simp at e; exact e ▸ hq)), h.bld.own, h.bld.upd.trans u (fun q hq e => by simp at e; omega)⟩, hm, u.blk h.blk (by simp; exact fun e => mL.other _ _ (e ▸ h.blk)), h.own, h.hcb⟩
theorem Rn.as {w W : World} {cb mb : Nat} {v : Value} {i : Nat} {ops : List Op} {m : St} {k : Nat} {cs cs' : List Value} (h : Rn w W cb mb v i ops m k cs) (e : cs = cs') : Rn w W cb mb v i ops m k cs' := e ▸ h

set_option maxRecDepth 100000 in
set_option maxHeartbeats 4000000 in
theorem makes_walk (a : Option Addr) (n cap : Nat) (O : Nat → Op) (a2 : Option Addr) (len2 cap2 : Nat) (zs : List Int) (w : World) (h : Rd w a n O) (hn : n ≤ maxLen) (hsh : Short O n) (hz : IsRow .i64 w a2 len2 cap2 zs) :
    Calls Try.prog 4 #[.slice a n cap, .slice a2 len2 cap2] w fun e w' => e = .returned (.bool true) ∧ Upd [] w w' := by
  have HR := Hd.mk h
  have HSH := Hd.mk hsh
  have HN := Hd.mk hn
  have HZ := Hd.mk (fun (h : 0 < len2) => hz.open h)
  clear h hsh hz
  unfold maxLen at hn
  have hmm := @run_makeMap Try.prog
  go_enter Try.func4, Try.ntmps4
  go_wp2_with fail
  refine (fit_ok w).mono ?_
  rintro e w1 ⟨rfl, u1⟩
  go_wp2_with fail
  refine (light_ok a n cap O w1 (HR.out.upd u1) HN.out HSH.out).mono ?_
  rintro e w2 ⟨rfl, u2⟩
  have U2 := Hd.mk (u1.trans u2 (by simp))
  clear u1 u2
  cases hl : lightB O n with
  | false =>
    clear hl hmm
    go_wp2_with fail
    go_ret
    exact ⟨rfl, U2.out⟩
  | true =>
    have h20 : n ≤ 20 := by
      unfold lightB at hl
      simp at hl
      exact hl.2
    clear hl
    by_cases h40 : 40 < len2
    · have d40 : decide ((40 : Int) < len2) = true := by simp; omega
      clear hmm
      go_wp2_with fail
      go_ret
      exact ⟨rfl, U2.out⟩
    have d40 : decide ((40 : Int) < len2) = false := by simp; omega
    go_upto_region 6 with (fail)
    have m2 := Mp.new w2 (fun k : ByteArray => Value.string k)
    refine wp_abs (fun W => Upd [] w W ∧ MS W w2.heap.size St.none 0) ⟨U2.out.alloc _, ⟨[], m2, fun k => rfl, rfl⟩⟩ ?_
    have MB := Hd.mk U2.out.size
    clear m2 hmm U2
    generalize w2.heap.size = mb at MB ⊢
    rintro w3 ⟨u3, m3⟩
    have HU3 := Hd.mk u3
    have HM3 := Hd.mk m3
    clear u3 m3
    go_upto_block 0 with (fail)
    go_cut [6] (fun s6 W => ∃ ops : List Op, ops.length ≤ 12 ∧ Bld w W 31 6 s6 ops.length (ops.flatMap Op.cells) ∧ Hd (Good ops))
    case first =>
      go_wp2_with fail
      go_loopg [6, 26] n (fun g s6 ii wr => ∃ (i k : Nat) (ops : List Op), ii = .int .i64 i ∧ g + i = n ∧ i ≤ 12 ∧ ops.length = i ∧ Bld w wr 31 6 s6 i (ops.flatMap Op.cells) ∧ Hd (Good ops) ∧ MS wr mb (stL ops) k)
      case atStart => exact ⟨0, 0, [], rfl, by omega, by omega, rfl, Bld.nil HU3.out _ _, Hd.mk Good.nil, HM3.out⟩
      case round =>
        clear HU3 HM3
        obtain ⟨i, k, ops, rfl, hg, h12, hol, y, HGD, mr⟩ := hrel
        have HOL := Hd.mk hol
        have HG := Hd.mk hg
        clear hol hg
        by_cases hlt : i < n
        · obtain ⟨b, off, rfl, hb, c0, c1, c2, c3, c4, c5⟩ := (HR.out.upd y.upd).at i hlt
          have HY := Hd.mk (And.intro y mr)
          clear y mr
          go_upto_region 10 with (fail)
          have al := (Upd.refl [] wr).alloc (.cells (O i).cells.toArray 31)
          refine wp_abs (fun W => Rn w W wr.heap.size mb u6 i ops (stL ops) k (O i).cells) ⟨HY.out.1.over al, HY.out.2.upd al (by simp), Blk.new wr (O i).cells 31 _ rfl, fun q hq e => by have := HY.out.1.sl.lt q hq; omega, HY.out.1.upd.size⟩ ?_
          clear c0 c1 c2 c3 c4 c5 HY al
          generalize wr.heap.size = cb at *
          intro w5 R5
          have HRN := Hd.mk R5
          have tb := R5.blk
          by_cases hi12 : i = 12
          · subst hi12
            clear R5 tb
            go_wp2_with fail
            go_meet
            case rel => exact ⟨ops, by rw [HOL.out]; omega, by rw [HOL.out]; exact HRN.out.bld, HGD⟩
          have hi13 : ((i : Int) == 12) = false := by simp; omega
          have f0 := tb.free 0
          have c0 := tb.cell 0
          have c1 := tb.cell 1
          have c2 := tb.cell 2
          have c3 := tb.cell 3
          have c4 := tb.cell 4
          have c5 := tb.cell 5
          simp only [Op.cells, List.getElem?_cons_zero, List.getElem?_cons_succ] at c0 c1 c2 c3 c4 c5
          clear R5 tb
          go_upto_region 12 with (fail)
          refine wp_abs (fun W => Rn w W cb mb u6 i ops (stL ops) k [.int .i64 (knd (O i)), .int .i64 (O i).b, .int .i64 (O i).e, .string (O i).key, .string (O i).val, .bool (O i).there]) ((HRN.out.set 0 _).as rfl) ?_
          clear HRN f0 c0 c1 c2 c3 c4 c5 w5
          intro w6 R6
          have HRN := Hd.mk R6
          have tb := R6.blk
          have f1 := tb.free 1
          have f2 := tb.free 2
          have f5 := tb.free 5
          have c0 := tb.cell 0
          have c1 := tb.cell 1
          have c2 := tb.cell 2
          have c3 := tb.cell 3
          have c4 := tb.cell 4
          have c5 := tb.cell 5
          simp only [Op.cells, List.getElem?_cons_zero, List.getElem?_cons_succ] at c0 c1 c2 c3 c4 c5
          obtain ⟨L, mL, gL, -⟩ := R6.map
          have hlk := look_ss mL (O i).key (gL (O i).key)
          clear R6 tb mL gL
          go_upto_region 15 with (fail)
          refine wp_abs (fun W => Rn w W cb mb u6 i ops (stL ops) k (mk0 (stL ops) (O i) i 0 0).cells) ((((HRN.out.set 5 _).set 1 _).set 2 _).as (by simp [mk0, Op.cells])) ?_
          clear HRN f1 f2 f5 c0 c1 c2 c3 c4 c5 hlk w6
          intro w6 R6
          have HRN := Hd.mk R6
          have HOB := Hd.mk (And.intro R6.own R6.hcb)
          have tb := R6.blk
          have f1 := tb.free 1
          have f2 := tb.free 2
          have c0 := tb.cell 0
          have c1 := tb.cell 1
          have c2 := tb.cell 2
          have c3 := tb.cell 3
          have c4 := tb.cell 4
          have c5 := tb.cell 5
          simp only [Op.cells, mk0, List.getElem?_cons_zero, List.getElem?_cons_succ] at c0 c1 c2 c3 c4 c5
          clear R6 tb
          go_upto_if 57 with (fail)
          go_cut [] (fun W => ∃ lo hi : Int, 0 ≤ lo ∧ 0 ≤ hi ∧ Rn w W cb mb u6 i ops (stL ops) k (mk0 (stL ops) (O i) i lo hi).cells)
          case first =>
            by_cases hil : i < len2
            · obtain ⟨ba, oa, rfl, hba, -, -, hca, -⟩ := HZ.out (by omega)
              have ca := hca i hil
              have ca6 : w6.cell? ⟨ba, oa + i, none⟩ = some (.int .i64 (zs.getD i 0)) := by rw [HRN.out.bld.upd.cell (p := ⟨ba, oa + i, none⟩) hba (by simp)]; exact ca
              have hne : ba ≠ cb := by have := HOB.out.2; omega
              clear hca ca
              generalize zs.getD i 0 = z at ca6
              go_wp2_with fail
              go_region
              refine wp_abs (fun W => Rn w W cb mb u6 i ops (stL ops) k (mk0 (stL ops) (O i) i (z % 32) 0).cells ∧ W.cell? ⟨ba, oa + i, none⟩ = some (.int .i64 z)) ⟨((HRN.out.set 1 _).drew).as (by simp [mk0, Op.cells]), ?_⟩ ?_
              · have := HOB.out.2
                rw [((HRN.out.set 1 (.int .i64 (10 * (i : Int) - z % 32))).drew).bld.upd.cell (p := ⟨ba, oa + i, none⟩) hba (by simp), ← HRN.out.bld.upd.cell (p := ⟨ba, oa + i, none⟩) hba (by simp)]
                exact ca6
              clear HRN f1 f2 c0 c1 c2 c3 c4 c5 ca6 w6
              rintro w7 ⟨R7, ca7⟩
              have HRN := Hd.mk R7
              have tb := R7.blk
              have f2 := tb.free 2
              have c0 := tb.cell 0
              have c1 := tb.cell 1
              have c2 := tb.cell 2
              have c3 := tb.cell 3
              have c4 := tb.cell 4
              have c5 := tb.cell 5
              simp only [Op.cells, mk0, List.getElem?_cons_zero, List.getElem?_cons_succ] at c0 c1 c2 c3 c4 c5
              clear R7 tb
              go_wp2_with fail
              go_region
              go_wp2_with fail
              go_meet
              case rel => exact ⟨z % 32, z / 32 % 32, by omega, by omega, ((HRN.out.set 2 _).drew).as (by simp [mk0, Op.cells]; try omega)⟩
            · clear f1 f2 c0 c1 c2 c3 c4 c5
              go_wp2_with fail
              go_meet
              case rel => exact ⟨0, 0, by omega, by omega, HRN.out⟩
          case rest =>
            obtain ⟨lo, hi, hlo, hhi, R7⟩ := hcut
            clear HRN f1 f2 c0 c1 c2 c3 c4 c5
            have HRN := Hd.mk R7
            have tb := R7.blk
            have f4 := tb.free 4
            have c0 := tb.cell 0
            have c1 := tb.cell 1
            have c2 := tb.cell 2
            have c3 := tb.cell 3
            have c4 := tb.cell 4
            have c5 := tb.cell 5
            simp only [Op.cells, mk0, List.getElem?_cons_zero, List.getElem?_cons_succ] at c0 c1 c2 c3 c4 c5
            clear R7 tb
            obtain ⟨kd, hkd⟩ : ∃ kd, knd (O i) = kd := ⟨_, rfl⟩
            have HKD := Hd.mk hkd
            rw [hkd] at c0
            have hk3 : kd = 0 ∨ kd = 1 ∨ kd = 2 := by have := knd_range (O i); omega
            clear hkd
            go_upto_block 2 with (fail)
            go_cut [] (fun W => ∃ k', Rn w W cb mb u6 i ops ((mk (stL ops) (O i) i lo hi).after (stL ops)) k' (mk (stL ops) (O i) i lo hi).cells)
            case first =>
              rcases hk3 with rfl | rfl | rfl
              · clear c1 c2 c3 c5
                go_wp2_with fail
                go_meet
                case rel =>
                  refine ⟨k, ⟨(HRN.out.set 4 _).bld, ?_, ((HRN.out.set 4 _).blk).as ?_, HRN.out.own, HRN.out.hcb⟩⟩
                  · have := (HRN.out.set 4 (.string ((stL ops (O i).key).getD ⟨#[]⟩))).map
                    rw [show (mk (stL ops) (O i) i lo hi).after (stL ops) = stL ops by unfold Op.after mk mk0; rw [HKD.out]; simp]
                    exact this
                  · unfold mk mk0 Op.cells
                    rw [HKD.out]
                    simp
              · obtain ⟨L, mL, gL, -⟩ := HRN.out.map
                obtain ⟨c, w8, hup, m8, u8⟩ := run_update_mp (P := Try.prog) (keyLaw_string (kt := 9) Try.underlying9) 34 Try.underlying34 mL (O i).key (.string (O i).val)
                have HR8 := Hd.mk (show ∃ k', Rn w w8 cb mb u6 i ops ((stL ops).put (O i).key (O i).val) k' (mk0 (stL ops) (O i) i lo hi).cells from ⟨_, HRN.out.mapset MB.out u8 ⟨_, m8, fun q => by rw [get_put, gL q]; exact (show _ = ((stL ops).put (O i).key (O i).val q).map Value.string by unfold St.put; split <;> rfl), rfl⟩⟩)
                clear mL gL m8 u8
                go_wp2_with fail
                go_meet
                case rel =>
                  obtain ⟨k', hk'⟩ := HR8.out
                  refine ⟨k', ?_⟩
                  have e1 : (mk (stL ops) (O i) i lo hi).after (stL ops) = (stL ops).put (O i).key (O i).val := by unfold Op.after mk mk0; rw [HKD.out]; simp
                  have e2 : (mk (stL ops) (O i) i lo hi).cells = (mk0 (stL ops) (O i) i lo hi).cells := by unfold mk mk0 Op.cells; rw [HKD.out]; simp
                  rw [e1, e2]
                  exact hk'
              · obtain ⟨L, mL, gL, -⟩ := HRN.out.map
                obtain ⟨w8, hup, m8, u8⟩ := run_delete_mp (P := Try.prog) (keyLaw_string (kt := 9) Try.underlying9) 34 9 0 Try.underlying34 mL (O i).key
                have HR8 := Hd.mk (show ∃ k', Rn w w8 cb mb u6 i ops ((stL ops).del (O i).key) k' (mk0 (stL ops) (O i) i lo hi).cells from ⟨_, HRN.out.mapset MB.out u8 ⟨_, m8, fun q => by rw [get_del, gL q]; exact (show _ = ((stL ops).del (O i).key q).map Value.string by unfold St.del; split <;> rfl), rfl⟩⟩)
                clear mL gL m8 u8
                go_wp2_with fail
                go_meet
                case rel =>
                  obtain ⟨k', hk'⟩ := HR8.out
                  refine ⟨k', ?_⟩
                  have e1 : (mk (stL ops) (O i) i lo hi).after (stL ops) = (stL ops).del (O i).key := by
                    unfold Op.after mk mk0
                    rw [HKD.out]
                    simp
                    intro hno
                    funext q
                    unfold St.del
                    by_cases e : q = (O i).key
                    · subst e; simp [hno]
                    · simp [e]
                  have e2 : (mk (stL ops) (O i) i lo hi).cells = (mk0 (stL ops) (O i) i lo hi).cells := by unfold mk mk0 Op.cells; rw [HKD.out]; simp
                  rw [e1, e2]
                  exact hk'
            case rest =>
              obtain ⟨k', R8⟩ := hcut
              clear HRN f4 c0 c1 c2 c3 c4 c5 HKD hk3
              have HRN := Hd.mk R8
              have tb := R8.blk
              have hsl := R8.bld.sl
              have HGD2 := Hd.mk (HGD.out.snoc (o := mk (stL ops) (O i) i lo hi) (knd_range (O i)).1 (knd_range (O i)).2 (by rw [HOL.out]; show 10 * (i : Int) - lo ≤ _; omega) (by rw [HOL.out]; show _ ≤ 10 * (i : Int) + 5 + hi; omega) (mk_told _ _ _ _ _))
              obtain ⟨om, hom⟩ : ∃ om, mk (stL ops) (O i) i lo hi = om := ⟨_, rfl⟩
              rw [hom] at tb HRN HGD2
              clear hom R8
              have c0 := tb.cell 0
              have c1 := tb.cell 1
              have c2 := tb.cell 2
              have c3 := tb.cell 3
              have c4 := tb.cell 4
              have c5 := tb.cell 5
              simp only [Op.cells, List.getElem?_cons_zero, List.getElem?_cons_succ] at c0 c1 c2 c3 c4 c5
              clear tb
              go_wp2_with (at_builtin; refine wpList_append_row rfl (.tmp 93) (.tmp 95) 22 rfl rfl 31 (.agg Op.zero.cells.toArray) 6 64 Try.underlying22 (by kernel_rfl) rfl _ _ _ rfl hsl om.cells rfl rfl rfl (by omega) (by omega) ?_)
              intro v' w9 s9 u9 o9
              have HF := Hd.mk (show Bld w w9 31 6 v' (i + 1) ((ops ++ [om]).flatMap Op.cells) ∧ MS w9 mb (stL (ops ++ [om])) k' from ⟨by
                rw [List.flatMap_append]
                simpa using HRN.out.bld.app s9 u9 o9, by
                rw [stL_snoc]
                refine HRN.out.map.upd u9 ?_
                obtain ⟨L, mL, -⟩ := HRN.out.map
                exact HRN.out.bld.sl.notMp mL⟩)
              clear s9 u9 o9 hsl c0 c1 c2 c3 c4 c5
              go_wp2_with fail
              go_roundg (gk - 1)
              case measure => have := HG.out; omega
              case rel => exact ⟨i + 1, k', ops ++ [om], by go_num, by have := HG.out; omega, by omega, by simp [HOL.out], HF.out.1, HGD2, HF.out.2⟩
        · obtain rfl : i = n := by have := HG.out; omega
          have HY := Hd.mk y
          clear y mr hlt
          go_wp2_with fail
          go_meet
          case rel => exact ⟨ops, by rw [HOL.out]; omega, by rw [HOL.out]; exact HY.out, HGD⟩
    case rest =>
      obtain ⟨ops, h12, y, HGD⟩ := hcut
      clear HU3 HM3
      obtain ⟨a6, c6, rfl⟩ := y.sl.form
      have HR6 := Hd.mk (Rd.of_sl y.sl)
      have HY := Hd.mk y
      clear y
      obtain ⟨r, h1, h2, h3⟩ := HGD.out.order h12
      have H1 := Hd.mk h1
      have H2 := Hd.mk (And.intro h2 h3)
      clear h1 h2 h3
      go_wp2_with fail
      refine (order_ok a6 ops.length c6 _ _ HR6.out (by unfold maxLen; omega)).mono ?_
      rintro e w8 (⟨l, v, h, rfl, hbl⟩ | ⟨h, -⟩)
      · rw [H1.out] at h
        simp only [Option.some.injEq] at h
        subst h
        have HB := Hd.mk hbl
        obtain ⟨a7, c7, rfl⟩ := hbl.sl.form
        clear hbl
        go_wp2_with fail
        refine (valid_ok a6 ops.length c6 _ _ r _ w8 (HR6.out.upd HB.out.upd) h12 HB.out H2.out.1 H2.out.2).mono ?_
        rintro e w9 ⟨rfl, u9⟩
        have U9 := Hd.mk ((HY.out.upd.trans HB.out.upd (by simp)).trans u9 (by simp))
        clear u9
        go_wp2_with fail
        go_ret
        exact ⟨rfl, U9.out⟩
      · rw [H1.out] at h
        cases h

theorem makes_row (a : Option Addr) (len cap : Nat) (a1 : Option Addr) (len1 cap1 : Nat) (zs : List Int) (w : World) (hz : Leaf.ok w (.sl [.int .i64, .int .i64, .int .i64, .str, .str, .bool]) (.slice a len cap)) (h1 : IsRow .i64 w a1 len1 cap1 zs) :
    Calls Try.prog 4 #[.slice a len cap, .slice a1 len1 cap1] w fun e w' => e = .returned (.bool true) ∧ Below w.heap.size w w' := by
  obtain ⟨O, g1, g2, g3, -⟩ := leaf_rd hz
  exact (makes_walk a len cap O a1 len1 cap1 zs w g1 g3 g2 h1).mono fun _ _ h => ⟨h.1, h.2.nil_below⟩
end Go.Proofs.Ytbdiejlodedelaa
