/- StoreRuns: call by call keys have their values, by their tags, as many as may be. -/
import Derived.Test.YtncahmodmgbacaaDoorS15
import Derived.Test.YtncahmodmgbacaaDoorCq2
namespace Go.Proofs.YtncahmodmgbacaaDoor
set_option linter.unusedSimpArgs false
set_option linter.unusedVariables false
set_option linter.unnecessarySimpa false
open Go.RowKit BigFrame

set_option maxRecDepth 100000 in
set_option maxHeartbeats 4000000 in
theorem runs_walk (a : Option Addr) (N cap : Nat) (C : Nat → Cl) (w : World) (hR : Rdc w a N C) (hN : N ≤ 140737488351232) (hsh : Shortc C N) (hT : Tb w) :
    Calls Tryd.prog 8 #[.slice a N cap] w fun e w' => e = .returned (.bool true) ∧ Upd [] w w' := by
  have HT := Hd.mk hT
  have HR := Hd.mk hR
  have HSH := Hd.mk hsh
  clear hT hR hsh
  go_enter Tryd.func8, Tryd.ntmps8
  go_wp2_with fail
  refine (fit_ok w HT.out).mono ?_
  rintro e w1 ⟨rfl, u1⟩
  have HU := Hd.mk u1
  have HR := Hd.mk (HR.out.upd u1)
  have HT := Hd.mk (HT.out.upd u1)
  clear u1
  go_wp2_with fail
  refine (light_ok a N cap C w1 HR.out hN HSH.out).mono ?_
  rintro e w2 ⟨b, rfl, hb, u2⟩
  have HR := Hd.mk (HR.out.upd u2)
  have HU := Hd.mk (HU.out.trans u2 (by simp))
  have HT := Hd.mk (HT.out.upd u2)
  clear u2
  cases b with
  | false =>
    clear hb
    go_wp2_with fail
    go_ret
    exact ⟨rfl, HU.out⟩
  | true =>
    obtain ⟨hN2, hz⟩ := hb rfl
    have HZ := Hd.mk hz
    clear hb hz
    go_wp2_with fail
    refine (new_ok w2).mono ?_
    rintro e w3 ⟨p, r, rfl, S3⟩
    have HS := Hd.mk S3
    clear S3
    have hmm := @run_makeMap Tryd.prog
    go_upto_region 9 with (fail)
    clear hmm
    have HRX := Hd.mk (show Rx w2 ((w3.alloc (.map #[] 0)).alloc (.cells (ccells (fun _ => 0)).toArray 45)) p r w3.heap.size (w3.heap.size + 1) (fun _ => 0) (fun _ => none) (fun _ => 0) from
        ⟨HS.out.up (((Upd.refl [] w3).alloc _).alloc _), MO.upd (S := []) ⟨[], Mp.new w3 _, fun _ => rfl⟩ ((Upd.refl [] _).alloc _) (by simp), fun e => by have := HS.out.foot_lt _ e; omega, HS.out.upd.size, Blk.new _ _ _ _ (by simp), by have := HS.out.upd.size; omega, fun _ _ => by omega, (fun k v h => by cases h), fun _ _ => rfl⟩)
    refine wp_abs (fun W => Rx w2 W p r w3.heap.size (w3.heap.size + 1) (fun _ => 0) (fun _ => none) (fun _ => 0)) HRX.out ?_
    clear HRX HS
    generalize w3.heap.size + 1 = cb
    generalize w3.heap.size = mb
    rintro w4 hrx
    have HRX := Hd.mk hrx
    clear hrx
    go_loopg [38] N (fun g ii wr => ∃ (i : Nat) (m : St) (n : Nat → Nat), g + i = N ∧ ii = .int .i64 i ∧ Hd (Rx w2 wr p r mb cb (fun _ => 0) m n))
    case atStart => exact ⟨0, _, _, by omega, rfl, HRX⟩
    case round =>
      clear HRX
      obtain ⟨i, m, n, hg, rfl, HRX⟩ := hrel
      by_cases hi : i < N
      · obtain ⟨b, off, rfl, hb, c0, c1, c2, c3, c4, c5⟩ := (HR.out.upd HRX.out.sto.upd).at hi
        obtain ⟨z1, z2, z3, z4⟩ := HSH.out i hi
        have hz5 := HZ.out i hi
        have HG := Hd.mk hg
        clear hg
        obtain ⟨c, hc⟩ : ∃ c, C i = c := ⟨_, rfl⟩
        rw [hc] at c0 c1 c2 c3 c4 c5 z1 z2 z3 z4 hz5
        clear hc
        go_upto_region 11 with (fail)
        refine wp_abs (fun W => Rx w2 W p r mb cb (fun _ => 0) m n ∧ Blk W wr.heap.size c.cells 52) ⟨HRX.out.up ((Upd.refl [] wr).alloc _), Blk.new wr c.cells 52 _ rfl⟩ ?_
        clear c0 c1 c2 c3 c4 c5 HRX hb
        generalize wr.heap.size = xb
        rintro w5 ⟨l5, b5⟩
        have HRX := Hd.mk l5
        have HB := Hd.mk b5
        have c0 := b5.cell 0
        have c1 := b5.cell 1
        have c2 := b5.cell 2
        have c3 := b5.cell 3
        have c4 := b5.cell 4
        have c5 := b5.cell 5
        simp only [Cl.cells, List.getElem?_cons_zero, List.getElem?_cons_succ] at c0 c1 c2 c3 c4 c5
        clear l5 b5
        go_wp2_with fail
        refine (lshard_ok c.key w5 z1).mono ?_
        rintro e w6 ⟨rfl, hw6⟩
        subst hw6
        obtain ⟨q, hq⟩ : ∃ q, shd c.key = q := ⟨_, rfl⟩
        rw [show shdL c.key.data.toList = q from hq]
        have HQ := Hd.mk hq
        have hq4 : q < 4 := by rw [← hq]; exact shd_lt c.key
        clear hq
        go_upto_region 12 with (fail)
        obtain ⟨R, hR⟩ : ∃ R : World → Prop, R = fun W => Rx w2 W p r mb cb (fun _ => 0) m n ∧ Blk W xb c.cells 52 := ⟨_, rfl⟩
        have hRW : ∀ W, R W → Rx w2 W p r mb cb (fun _ => 0) m n ∧ Blk W xb c.cells 52 := fun W h => by rw [hR] at h; exact h
        have hR0 : R w6.drew := by rw [hR]; exact ⟨HRX.out.up (Upd.refl [] w6).drew, HB.out⟩
        have hup : ∀ (x : Cls R) w', Upd [] x.w w' → R w' := fun x w' hu => by rw [hR]; exact ⟨(hRW _ x.ok).1.up hu, hu.blk (hRW _ x.ok).2 (by simp)⟩
        have HRW := Hd.mk hRW
        obtain ⟨rk, hrk⟩ : ∃ rk, rightK c.key = rk := ⟨_, rfl⟩
        have HRK := Hd.mk hrk
        go_cut [65] (fun s65 W => s65 = .bool false ∧ R W)
        case first => as_aux_lemma =>
          clear c0 c1 c2 c3 c4 c5
          have c3 : ∀ x : Cls R, x.w.cell? ⟨xb, 3, none⟩ = some (.string c.key) := fun x => (hRW _ x.ok).2.cell 3
          have HD1 := Hd.mk (show ∀ x : Cls R, Calls Tryd.prog 12 #[.string c.key] x.w fun e w'' => e = .returned (.int .i64 q) ∧ ∃ y : Cls R, w'' = y.w from fun x => Calls.cls (shard_ok c.key x.w z1) (fun e w' h => ⟨h.1.trans (by rw [show shdL c.key.data.toList = q from HQ.out]), hup x w' h.2⟩))
          have HD2 := Hd.mk (show ∀ x : Cls R, Calls Tryd.prog 14 #[.string c.key] x.w fun e w'' => e = .returned (.bool rk) ∧ ∃ y : Cls R, w'' = y.w from fun x => Calls.cls (right_ok c.key x.w) (fun e w' h => ⟨h.1.trans (by rw [hrk]), by rw [h.2]; exact x.ok⟩))
          have hrd : rk = decide (0 < c.key.size ∧ c.key.size ≤ 40) := by rw [← hrk]; rfl
          have e0 : ((q : Int) != (q : Int)) = false := by simp
          clear hrk hup hRW hR
          by_cases h1 : 1 ≤ c.key.size
          · have d1 : decide ((1 : Int) ≤ c.key.size) = true := decide_eq_true (by omega)
            by_cases h2 : c.key.size ≤ 40
            · have d2 : decide ((c.key.size : Int) ≤ 40) = true := decide_eq_true (by omega)
              obtain rfl : rk = true := by rw [hrd]; exact decide_eq_true ⟨by omega, h2⟩
              clear hrd
              refine wp_region_cls R hR0 (by kernel_rfl) (by kernel_rfl) (fun _ => ?_)
              repeat (go_big_quiet_step (first | (go_at_call 12; rename_i x; with_reducible exact HD1.out x) | (go_at_call 14; rename_i x; with_reducible exact HD2.out x)))
              refine wpQuiet_nil ?_
              intro _ hw'
              obtain ⟨nq, hw''⟩ := hw'
              subst hw''
              have hok := nq.ok
              generalize nq.w = w7 at hok ⊢
              clear c3 HD1 HD2
              go_wp2_with fail
              go_meet
              case rel => exact ⟨rfl, hok⟩
            · have d2 : decide ((c.key.size : Int) ≤ 40) = false := decide_eq_false (by omega)
              obtain rfl : rk = false := by rw [hrd]; exact decide_eq_false (fun e => h2 e.2)
              clear hrd
              refine wp_region_cls R hR0 (by kernel_rfl) (by kernel_rfl) (fun _ => ?_)
              repeat (go_big_quiet_step (first | (go_at_call 12; rename_i x; with_reducible exact HD1.out x) | (go_at_call 14; rename_i x; with_reducible exact HD2.out x)))
              refine wpQuiet_nil ?_
              intro _ hw'
              obtain ⟨nq, hw''⟩ := hw'
              subst hw''
              have hok := nq.ok
              generalize nq.w = w7 at hok ⊢
              clear c3 HD1 HD2
              go_wp2_with fail
              go_meet
              case rel => exact ⟨rfl, hok⟩
          · have d1 : decide ((1 : Int) ≤ c.key.size) = false := decide_eq_false (by omega)
            obtain rfl : rk = false := by rw [hrd]; exact decide_eq_false (fun e => h1 (by omega))
            clear hrd
            refine wp_region_cls R hR0 (by kernel_rfl) (by kernel_rfl) (fun _ => ?_)
            repeat (go_big_quiet_step (first | (go_at_call 12; rename_i x; with_reducible exact HD1.out x) | (go_at_call 14; rename_i x; with_reducible exact HD2.out x)))
            refine wpQuiet_nil ?_
            intro _ hw'
            obtain ⟨nq, hw''⟩ := hw'
            subst hw''
            have hok := nq.ok
            generalize nq.w = w7 at hok ⊢
            clear c3 HD1 HD2
            go_wp2_with fail
            go_meet
            case rel => exact ⟨rfl, hok⟩
        case rest =>
          obtain ⟨rfl, hcut⟩ := hcut
          obtain ⟨hrx, hb⟩ := HRW.out _ hcut
          have HRX := Hd.mk hrx
          have HB := Hd.mk hb
          clear hrx hb hcut c0 c1 c2 c3 c4 c5 hRW hR0 hup HRW hR hrk
          go_upto_region 14 with (fail)
          go_upto_block 2 with (fail)
          go_cut [9, 66] (fun s9 s66 W => Rx w2 W p r mb cb (upto 4 7) m n ∧ Blk W xb c.cells 52)
          case first => as_aux_lemma =>
            obtain ⟨gq, hgq⟩ : ∃ gq, gq = gk - 1 := ⟨_, rfl⟩
            have HGQ := Hd.mk (And.intro hgq HG.out)
            clear hgq
            go_wp2_with fail
            go_loopg [9, 66] 4 (fun g s9 jj wq => ∃ j : Nat, g + j = 4 ∧ jj = .int .i64 j ∧ Hd (Rx w2 wq p r mb cb (upto j 7) m n ∧ Blk wq xb c.cells 52))
            case atStart => exact ⟨0, rfl, rfl, Hd.mk ⟨by rw [upto_zero]; exact HRX.out, HB.out⟩⟩
            case round =>
              clear HRX HB
              obtain ⟨j, hg, rfl, HRX⟩ := hrel
              by_cases hj : j < 4
              · go_wp2_with fail
                refine (lock_yes HRX.out.1.sto 7 j (upto_free j 7 hj (by decide))).mono ?_
                rintro e w7 ⟨rfl, S7, u7'⟩
                rw [upto_succ] at S7
                have HR7 := Hd.mk (And.intro (HRX.out.1.locked u7' S7) (u7'.blk HRX.out.2 (fun e => by rw [List.mem_singleton] at e; exact HRX.out.1.sto.notBlk HRX.out.2 (by decide) (by rw [e]; simp [foot]))))
                clear S7 u7' HRX
                go_wp2_with fail
                go_roundg (gk - 1)
                case measure => omega
                case rel => exact ⟨j + 1, by omega, by go_num, HR7⟩
              · obtain rfl : j = 4 := by omega
                go_wp2_with fail
                go_meet
                case rel => exact HRX.out
          case rest =>
            obtain ⟨hrx, hb⟩ := hcut
            have HRX := Hd.mk hrx
            have HB := Hd.mk hb
            clear hrx hb
            obtain ⟨x, hx⟩ : ∃ x, m c.key = x := ⟨_, rfl⟩
            have hlk := HRX.out.map.look c.key hx
            have HX := Hd.mk hx
            have HXV := Hd.mk (show ∀ v, x = some v → v.size ≤ 1000 from fun v e => HRX.out.val c.key v (by rw [hx, e]))
            have HXR := Hd.mk (show rk = false → x = none from fun e => by rw [← hx]; exact HRX.out.right c.key (HRK.out.trans e))
            have b5 := HB.out
            have c0 := b5.cell 0
            have c1 := b5.cell 1
            have c2 := b5.cell 2
            have c3 := b5.cell 3
            have c4 := b5.cell 4
            have c5 := b5.cell 5
            simp only [Cl.cells, List.getElem?_cons_zero, List.getElem?_cons_succ] at c0 c1 c2 c3 c4 c5
            clear hx b5
            go_upto_region 22 with (fail)
            go_upto_block 4 with (fail)
            clear hlk c0 c1 c2 c3 c4 c5
            obtain ⟨td, htd⟩ : ∃ td, c.tag % 4 = td := ⟨_, rfl⟩
            rw [htd]
            have HTD := Hd.mk htd
            clear htd
            obtain ⟨ov, hov⟩ : ∃ ov, x.getD ⟨#[]⟩ = ov := ⟨_, rfl⟩
            rw [hov]
            have HOV := Hd.mk hov
            have hovz : ov.size ≤ 1000 := by
              rw [← hov]
              cases x with
              | none => decide
              | some v => exact HXV.out v rfl
            clear hov
            obtain ⟨th, hth⟩ : ∃ th, x.isSome = th := ⟨_, rfl⟩
            rw [hth]
            have HTH := Hd.mk hth
            clear hth
            have hts := tag_size ov (by omega)
            obtain ⟨tg, htg⟩ : ∃ tg, lawTag td x = tg := ⟨_, rfl⟩
            have HTG := Hd.mk htg
            have HTG2 := Hd.mk (show tg = if td = 1 then tagS ov else if td = 2 then tagS ov ++ ⟨#[120]⟩ else ⟨#[]⟩ by rw [← htg]; unfold lawTag; rw [HOV.out])
            clear htg
            go_cut [12, 84, 88] (fun s12 s84 s88 W => s12 = .string tg ∧ Rx w2 W p r mb cb (upto 4 7) m n ∧ Blk W xb c.cells 52)
            case first => as_aux_lemma =>
              by_cases t1 : td = 1
              · have d1 : (td == 1) = true := by simpa using t1
                have HTG2 := Hd.mk (show tg = tagS ov by rw [HTG2.out, if_pos t1])
                clear t1
                go_wp2_with fail
                refine (tag_ok ov _ (by omega) (HT.out.upd HRX.out.sto.upd)).mono ?_
                rintro e w7 ⟨rfl, u7'⟩
                have HR7 := Hd.mk (And.intro (HRX.out.up u7') (u7'.blk HB.out (by simp)))
                clear u7'
                rw [show (⟨(tagL ov.data.toList).toArray⟩ : ByteArray) = tg from HTG2.out.symm]
                go_wp2_with fail
                go_meet
                case rel => exact ⟨rfl, HR7.out⟩
              · have d1 : (td == 1) = false := by simpa using t1
                by_cases t2 : td = 2
                · have d2 : (td == 2) = true := by simpa using t2
                  have s1 : ¬ 9223372036854775807 < (tagS ov).size + 1 := by omega
                  have HTG2 := Hd.mk (show tagS ov ++ ⟨#[120]⟩ = tg by rw [HTG2.out, if_neg t1, if_pos t2])
                  clear t1 t2
                  go_wp2_with fail
                  refine (tag_ok ov _ (by omega) (HT.out.upd HRX.out.sto.upd)).mono ?_
                  rintro e w7 ⟨rfl, u7'⟩
                  have HR7 := Hd.mk (And.intro (HRX.out.up u7') (u7'.blk HB.out (by simp)))
                  clear u7'
                  rw [show (⟨(tagL ov.data.toList).toArray⟩ : ByteArray) = tagS ov from rfl]
                  go_wp2_with fail
                  go_meet
                  case rel => exact ⟨congrArg Value.string HTG2.out, HR7.out⟩
                · have d2 : (td == 2) = false := by simpa using t2
                  go_wp2_with fail
                  go_meet
                  case rel => exact ⟨congrArg Value.string (by rw [HTG2.out, if_neg t1, if_neg t2]), HRX.out, HB.out⟩
            case rest =>
              clear HRX HB
              obtain ⟨rfl, hrx, hb⟩ := hcut
              have HRX := Hd.mk hrx
              have HB := Hd.mk hb
              clear hrx hb HTG2 hts
              obtain ⟨tk, htk⟩ : ∃ tk, tagOk x tg = tk := ⟨_, rfl⟩
              have HTK := Hd.mk htk
              have hdec := lawTag_ok td x
              rw [HTG.out, htk, HTH.out] at hdec
              have HDEC := Hd.mk hdec
              have b5 := HB.out
              have c0 := b5.cell 0
              have c1 := b5.cell 1
              have c2 := b5.cell 2
              have c3 := b5.cell 3
              have c4 := b5.cell 4
              have c5 := b5.cell 5
              simp only [Cl.cells, List.getElem?_cons_zero, List.getElem?_cons_succ] at c0 c1 c2 c3 c4 c5
              clear b5 htk hdec
              go_upto_region 27 with (fail)
              go_cut [13] (fun s13 W => s13 = .bool tk ∧ W = wc)
              case first => as_aux_lemma =>
                have HDEC := Hd.mk (show tk = (decide (tg.size = 0) || (th && decide (td = 1))) from HDEC.out)
                by_cases h0 : tg.size = 0
                · have y := str_eq0 (size0 h0)
                  have HX2 := Hd.mk (show tk = true by rw [HDEC.out, decide_eq_true h0]; rfl)
                  clear h0
                  go_wp2_with fail
                  go_meet
                  case rel => exact ⟨congrArg Value.bool (by rw [HX2.out]), rfl⟩
                · have y := str_ne0 (a := tg) (fun e => h0 (by rw [e]; rfl))
                  have HX2 := Hd.mk (show tk = (th && decide (td = 1)) by rw [HDEC.out, decide_eq_false h0]; rfl)
                  clear h0
                  cases th with
                  | false =>
                    go_wp2_with fail
                    go_meet
                    case rel => exact ⟨congrArg Value.bool (by rw [HX2.out]; rfl), rfl⟩
                  | true =>
                    by_cases t1 : td = 1
                    · have d1 : (c.tag % 4 == 1) = true := by rw [HTD.out]; simpa using t1
                      have HX3 := Hd.mk (show tk = true by rw [HX2.out, decide_eq_true t1]; rfl)
                      clear t1
                      go_wp2_with fail
                      go_meet
                      case rel => exact ⟨congrArg Value.bool (by rw [HX3.out]), rfl⟩
                    · have d1 : (c.tag % 4 == 1) = false := by rw [HTD.out]; simpa using t1
                      have HX3 := Hd.mk (show tk = false by rw [HX2.out, decide_eq_false t1]; rfl)
                      clear t1
                      go_wp2_with fail
                      go_meet
                      case rel => exact ⟨congrArg Value.bool (by rw [HX3.out]), rfl⟩
              case rest =>
                obtain ⟨rfl, hwc⟩ := hcut
                subst hwc
                obtain ⟨kd, hkd⟩ : ∃ kd : Int, (wrap64 (Int.tmod c.kind 6 + 6)).tmod 6 = kd := ⟨_, rfl⟩
                have HKD := Hd.mk (show 0 ≤ kd ∧ kd < 6 by rw [← hkd, kind6w]; omega)
                go_upto_region 28 with (fail)
                go_upto_block 5 with (fail)
                clear hkd
                have HKZ := Hd.mk (show c.key.size ≤ 140737488351232 from z1)
                have HXV2 := Hd.mk (show ∀ v, x = some v → v.size ≤ 1000000 from fun v e => by have := HXV.out v e; omega)
                have HTW := Hd.mk (show Tb w2 from HT.out)
                have HQ' := Hd.mk HQ.out
                go_cut [14, 15, 16, 17, 18, 19, 20, 21, 22, 23, 24, 25, 26, 27, 28, 160, 183, 211, 193, 198, 201, 121, 126, 129] (fun s14 s15 s16 s17 s18 s19 s20 s21 s22 s23 s24 s25 s26 s27 s28 s160 s183 s211 s193 s198 s201 s121 s126 s129 W => ∃ (m : St) (n : Nat → Nat), Hd (Rx w2 W p r mb cb (upto 4 7) m n))
                case first =>
                  by_cases k3 : kd = 3
                  · as_aux_lemma =>
                    have d3 : (kd == 3) = true := by simpa using k3
                    clear k3
                    cases rk with
                    | false =>
                      obtain rfl : x = none := HXR.out rfl
                      obtain rfl : th = false := HTH.out.symm
                      obtain rfl : ov = ⟨#[]⟩ := HOV.out.symm
                      go_wp2_with fail
                      refine (get_bad HRX.out.sto 7 c.key HKZ.out (mine_bad 7 c.key HRK.out) (by decide)).mono ?_
                      rintro e w7 ⟨rfl, u7'⟩
                      have HB := Hd.mk (u7'.blk HB.out (by simp))
                      have HRX := Hd.mk (HRX.out.up u7')
                      clear u7'
                      have b5 := HB.out
                      clear c0 c1 c2 c3 c4 c5
                      have c0 := b5.cell 0
                      have c1 := b5.cell 1
                      have c2 := b5.cell 2
                      have c3 := b5.cell 3
                      have c4 := b5.cell 4
                      have c5 := b5.cell 5
                      simp only [Cl.cells, List.getElem?_cons_zero, List.getElem?_cons_succ] at c0 c1 c2 c3 c4 c5
                      clear b5
                      go_wp2_with fail
                      refine (right_ok c.key _).mono ?_
                      rintro e w8 ⟨rfl, hw⟩
                      subst hw
                      rw [HRK.out]
                      go_wp2_with fail
                      go_meet
                      case rel => exact ⟨m, n, HRX⟩
                    | true =>
                      go_wp2_with fail
                      refine (get_good HRX.out.sto 7 c.key HKZ.out (mine_all 7 c.key (by decide) HRK.out) HX.out).mono ?_
                      rintro e w7 ⟨rfl, u7'⟩
                      have HB := Hd.mk (u7'.blk HB.out (by simp))
                      have HRX := Hd.mk (HRX.out.up u7')
                      clear u7'
                      have b5 := HB.out
                      clear c0 c1 c2 c3 c4 c5
                      have c0 := b5.cell 0
                      have c1 := b5.cell 1
                      have c2 := b5.cell 2
                      have c3 := b5.cell 3
                      have c4 := b5.cell 4
                      have c5 := b5.cell 5
                      simp only [Cl.cells, List.getElem?_cons_zero, List.getElem?_cons_succ] at c0 c1 c2 c3 c4 c5
                      clear b5
                      rw [HOV.out]
                      have y := str_yes (rfl : ov = ov)
                      cases x with
                      | none =>
                        obtain rfl : th = false := HTH.out.symm
                        simp only [getE, Option.isSome_none, Bool.false_eq_true, if_false]
                        go_wp2_with fail
                        refine (right_ok c.key _).mono ?_
                        rintro e w8 ⟨rfl, hw⟩
                        subst hw
                        rw [HRK.out]
                        go_wp2_with fail
                        go_meet
                        case rel => exact ⟨m, n, HRX⟩
                      | some v =>
                        obtain rfl : th = true := HTH.out.symm
                        simp only [getE, Option.isSome_some, if_true]
                        go_wp2_with fail
                        refine (right_ok c.key _).mono ?_
                        rintro e w8 ⟨rfl, hw⟩
                        subst hw
                        rw [HRK.out]
                        go_wp2_with fail
                        go_meet
                        case rel => exact ⟨m, n, HRX⟩
                  have d3 : (kd == 3) = false := by simpa using k3
                  by_cases k4 : kd = 4
                  · as_aux_lemma =>
                    have d4 : (kd == 4) = true := by simpa using k4
                    clear k3 k4
                    cases rk with
                    | false =>
                      obtain rfl : x = none := HXR.out rfl
                      obtain rfl : th = false := HTH.out.symm
                      go_wp2_with fail
                      refine (right_ok c.key _).mono ?_
                      rintro e w7 ⟨rfl, hw⟩
                      subst hw
                      rw [HRK.out]
                      go_wp2_with fail
                      refine (del_bad HRX.out.sto 7 c.key tg HKZ.out (mine_bad 7 c.key HRK.out) (by decide)).mono ?_
                      rintro e w8 ⟨rfl, u7'⟩
                      have HRX := Hd.mk (HRX.out.up u7')
                      clear u7'
                      go_wp2_with fail
                      go_meet
                      case rel => exact ⟨m, n, HRX⟩
                    | true =>
                      have HMI := Hd.mk (mine_all 7 c.key (by decide) HRK.out)
                      cases x with
                      | none =>
                        obtain rfl : th = false := HTH.out.symm
                        go_wp2_with fail
                        refine (right_ok c.key _).mono ?_
                        rintro e w7 ⟨rfl, hw⟩
                        subst hw
                        rw [HRK.out]
                        go_wp2_with fail
                        refine (del_no HRX.out.sto HTW.out 7 c.key tg HKZ.out HMI.out HX.out HXV2.out (c := 5) rfl (by decide)).mono ?_
                        rintro e w8 ⟨rfl, u7'⟩
                        have HRX := Hd.mk (HRX.out.up u7')
                        clear u7'
                        go_wp2_with fail
                        go_meet
                        case rel => exact ⟨m, n, HRX⟩
                      | some v =>
                        obtain rfl : th = true := HTH.out.symm
                        cases tk with
                        | false =>
                          go_wp2_with fail
                          refine (right_ok c.key _).mono ?_
                          rintro e w7 ⟨rfl, hw⟩
                          subst hw
                          rw [HRK.out]
                          go_wp2_with fail
                          refine (del_no HRX.out.sto HTW.out 7 c.key tg HKZ.out HMI.out HX.out HXV2.out (c := 6) (by unfold delE; rw [HTK.out]; rfl) (by decide)).mono ?_
                          rintro e w8 ⟨rfl, u7'⟩
                          have HRX := Hd.mk (HRX.out.up u7')
                          clear u7'
                          go_wp2_with fail
                          go_meet
                          case rel => exact ⟨m, n, HRX⟩
                        | true =>
                          obtain ⟨wa, hdel, hmo, uA⟩ := HRX.out.map.drop c.key
                          obtain ⟨sA, bA⟩ := HRX.out.map_put uA
                          have hpos := HRX.out.sto.pos HX.out
                          rw [HQ.out] at hpos
                          obtain ⟨cn, hcn⟩ : ∃ cn : Nat, (n q : Int) - 1 = cn := ⟨n q - 1, by omega⟩
                          have HCN := Hd.mk hcn
                          have HLE := Hd.mk (HRX.out.le q hq4)
                          have hS := cnt_set sA bA HRX.out.cnew hmo hq4 cn
                          have HS := Hd.mk hS
                          have hcl := (bA.cell q).trans (ccells_at n q hq4)
                          have hfz := bA.free q
                          have hbx : Blk wa xb c.cells 52 := uA.blk HB.out (fun e => HRX.out.map.notBlk HB.out (by rw [List.mem_singleton] at e; exact e.symm))
                          have HB2 := Hd.mk (hbx.set_ne ⟨cb, q, none⟩ (.int .i64 cn) (fun e => by
                            have e : xb = cb := e
                            rw [e] at hbx
                            have := (hbx.uniq bA).2
                            exact absurd this (by decide)))
                          have HNQ := Hd.mk (show n (shd c.key) - 1 = cn by rw [HQ.out]; omega)
                          obtain ⟨nq, hnq⟩ : ∃ nq, n q = nq := ⟨_, rfl⟩
                          rw [hnq] at hcl hcn hpos
                          have hwr : IntKind.i64.wrap ((nq : Int) - 1) = (cn : Int) := by rw [IntKind.wrap_i64]; have := HLE.out; omega
                          clear hS hbx sA bA hmo uA hcn
                          have hle8 : nq ≤ 8 := by rw [← hnq]; exact HLE.out
                          have c3b := HB2.out.cell 3
                          simp only [Cl.cells, List.getElem?_cons_zero, List.getElem?_cons_succ] at c3b
                          clear hnq
                          go_wp2_with fail
                          refine (right_ok c.key _).mono ?_
                          rintro e w7 ⟨rfl, hw⟩
                          subst hw
                          rw [HRK.out]
                          go_wp2_with fail
                          refine (del_yes HS.out.1 HTW.out 7 c.key tg HKZ.out HMI.out HX.out HXV2.out (by unfold delE; rw [HTK.out]; rfl)).mono ?_
                          rintro e w9 ⟨rfl, u9, S9⟩
                          rw [HNQ.out] at S9
                          have HR9 := Hd.mk (HRX.out.step c.key none cn (by rw [HQ.out]; exact HS.out.2.2) HS.out.2.1 u9 S9 (by have := HLE.out; have := HCN.out; omega) none_le HRK.out)
                          clear u9 S9
                          go_wp2_with fail
                          go_meet
                          case rel => exact ⟨_, _, HR9⟩
                  have d4 : (kd == 4) = false := by simpa using k4
                  by_cases k5 : kd = 5
                  · as_aux_lemma =>
                    have d5 : (kd == 5) = true := by simpa using k5
                    clear k3 k4 k5
                    obtain ⟨gq, hgq⟩ : ∃ gq, gq = gk - 1 := ⟨_, rfl⟩
                    have HGQ := Hd.mk (And.intro hgq HG.out)
                    clear hgq
                    go_wp2_with fail
                    refine (list_ok HRX.out.sto HRX.out.le 7 c.key (heldN_all 7 (by decide))).mono ?_
                    rintro e w7 ⟨v, ks, rfl, R5, u5, L5, A5⟩
                    obtain ⟨a2, cap2, rfl, hr2⟩ := R5.form
                    have HRX := Hd.mk (HRX.out.up u5)
                    have HB := Hd.mk (u5.blk HB.out (by simp))
                    obtain ⟨LB, hLB, hgB⟩ := HRX.out.map
                    have HCK := Hd.mk (count_mo L5 hLB hgB)
                    have HK := Hd.mk (And.intro L5 A5)
                    have HR2 := Hd.mk hr2
                    have hk32 : ks.length ≤ 32 := by have := L5.len; omega
                    obtain ⟨w8, hrun, r8, u8⟩ := run_range_mp (P := Tryd.prog) Tryd.underlying50 hLB
                    have HRN := Hd.mk r8
                    have HU8 := Hd.mk u8
                    clear R5 u5 L5 A5 hgB hr2 r8 u8 hLB c0 c1 c2 c3 c4 c5
                    obtain ⟨it, hit⟩ : ∃ it, w7.heap.size = it := ⟨_, rfl⟩
                    rw [hit] at hrun HRN
                    have HIT := Hd.mk hit
                    clear hit
                    go_upto_region 67 with (fail)
                    go_loopg [20, 21] LB.length (fun g s20 s21 wr => ∃ (F : List (ByteArray × Value × Nat)) (cc : Nat), Hd (g = F.length) ∧ Rng wr it mb (fun k => .string k) LB F ∧ s20 = .int .i64 cc ∧ Hd (cc + F.countP (fun x => pre c.key x.1) = ks.length) ∧ Hd (Upd [] w7 wr))
                    case atStart => exact ⟨LB, 0, Hd.mk rfl, HRN.out, rfl, Hd.mk (by rw [Nat.zero_add]; exact HCK.out), HU8⟩
                    case round =>
                      clear HRN HU8 hrun
                      obtain ⟨F, cc, HGh, rr, rfl, HC, HU8⟩ := hrel
                      rcases run_next_mp (P := Tryd.prog) rr with ⟨rfl, hrun⟩ | ⟨x, w9, hx, hrun, r9, u9, hen⟩
                      · have hcn : cc = ks.length := by have := HC.out; simpa using this
                        subst hcn
                        clear rr HGh HC
                        go_wp2_with fail
                        obtain ⟨wo, hwo⟩ : ∃ wo, wr = wo := ⟨_, rfl⟩
                        rw [hwo] at HU8 ⊢
                        clear hwo hrun
                        go_loopg [22, 23, 24, 25, 246] ks.length (fun g s22 s23 s24 s25 ii wq => ∃ i : Nat, g + i = ks.length ∧ ii = .int .i64 i ∧ Hd (Upd [] w7 wq))
                        case atStart => exact ⟨0, by omega, rfl, HU8⟩
                        case round =>
                          clear HU8
                          obtain ⟨i, hg, rfl, HU8⟩ := hrel
                          have HGI := Hd.mk hg
                          clear hg
                          by_cases hi : i < ks.length
                          · obtain ⟨b, off, rfl, hbw, hc⟩ := HR2.out.upd HU8.out (by omega)
                            have hc0 := hc i hi
                            have hm := (HK.out.1.mem ks[i]).1 (List.getElem_mem hi)
                            have HC0 := Hd.mk hc
                            generalize hxx : ks[i] = x at hc0 hm
                            have HXX := Hd.mk hxx
                            obtain ⟨e1, e2⟩ := pre_yes hm.2.1
                            have e4 := str_yes e2
                            obtain ⟨v, hv⟩ := Option.isSome_iff_exists.1 hm.1
                            have hlk := (HRX.out.up HU8.out).map.look x hv
                            simp only [Option.isSome_some, Option.getD_some] at hlk
                            have b5 := HU8.out.blk HB.out (by simp)
                            have c3 := b5.cell 3
                            simp only [Cl.cells, List.getElem?_cons_zero, List.getElem?_cons_succ] at c3
                            have e3 : decide ((x.size : Int) < c.key.size) = false := decide_eq_false (by omega)
                            have e5 : decide (x.size < c.key.size) = false := decide_eq_false (by omega)
                            clear hc hxx hm hbw e2 hv b5
                            by_cases h0 : i = 0
                            · subst h0
                              rw [Nat.add_zero] at hc0
                              go_upto_region 75 with (fail)
                              refine wp_region_quiet_lit (by kernel_rfl) (by kernel_rfl) ?_
                              repeat (go_big_quiet_step (fail))
                              refine wpQuiet_nil ?_
                              (intro _ hw'; obtain ⟨nq, hw''⟩ := hw'; subst hw'')
                              go_wp2_with fail
                              go_roundg (gk - 1)
                              case measure => have := HGI.out; omega
                              case rel => exact ⟨1, by have := HGI.out; omega, rfl, Hd.mk (HU8.out.drewN _)⟩
                            · obtain ⟨j, rfl⟩ : ∃ j, i = j + 1 := ⟨i - 1, by omega⟩
                              have hj : j < ks.length := by omega
                              have hc1 := HC0.out j hj
                              have hls := less_of HK.out.2 HK.out.1.nodup (Nat.lt_succ_self j) hi hj
                              rw [HXX.out] at hls
                              have hwr : IntKind.i64.wrap (((j + 1 : Nat) : Int) - 1) = (j : Int) := by rw [IntKind.wrap_i64]; omega
                              have hgt : decide ((0 : Int) < ((j + 1 : Nat) : Int)) = true := decide_eq_true (by omega)
                              go_upto_region 75 with (fail)
                              refine wp_region_quiet_lit (by kernel_rfl) (by kernel_rfl) ?_
                              repeat (go_big_quiet_step (fail))
                              refine wpQuiet_nil ?_
                              (intro _ hw'; obtain ⟨nq, hw''⟩ := hw'; subst hw'')
                              go_wp2_with fail
                              go_roundg (gk - 1)
                              case measure => have := HGI.out; omega
                              case rel => exact ⟨j + 1 + 1, by have := HGI.out; omega, by go_num, Hd.mk (HU8.out.drewN _)⟩
                          · obtain rfl : i = ks.length := by have := HGI.out; omega
                            have e0 : (((ks.length : Nat) : Int) != (ks.length : Int)) = false := by simp
                            go_wp2_with fail
                            go_meet
                            case rel => exact ⟨m, n, Hd.mk (HRX.out.up HU8.out)⟩
                      · have HU9 := Hd.mk (HU8.out.trans u9 (fun k hk e => by rw [List.mem_singleton] at e; have := HIT.out; omega))
                        have HR9 := Hd.mk r9
                        have HSHT := Hd.mk (filter_short hx)
                        have HCX := Hd.mk (count_step rr hx (fun k => pre c.key k))
                        have hc32 : cc ≤ 32 := by have := HC.out; omega
                        have b5 := HU9.out.blk HB.out (by simp)
                        have c3 := b5.cell 3
                        simp only [Cl.cells, List.getElem?_cons_zero, List.getElem?_cons_succ] at c3
                        clear rr hx r9 u9 HU8 b5
                        obtain ⟨xk, xv, xb2⟩ := x
                        simp only at hrun hen HCX HR9 HSHT
                        cases hp : pre c.key xk with
                        | true =>
                          obtain ⟨e1, e2⟩ := pre_yes hp
                          have e3 : decide (c.key.size ≤ xk.size) = true := decide_eq_true (by omega)
                          have e4 := str_yes e2
                          rw [hp, if_pos rfl] at HCX
                          clear hp e2
                          go_upto_region 69 with (fail)
                          refine wp_region_quiet_lit (by kernel_rfl) (by kernel_rfl) ?_
                          repeat (go_big_quiet_step (fail))
                          refine wpQuiet_nil ?_
                          (intro _ hw'; obtain ⟨nq, hw''⟩ := hw'; subst hw'')
                          go_wp2_with fail
                          go_roundg (F.filter fun y => decide (y.1 ≠ xk)).length
                          case measure => have := HGh.out; have := HSHT.out; omega
                          case rel => exact ⟨_, cc + 1, Hd.mk rfl, HR9.out.upd ((Upd.refl [] _).drewN nq) (by simp) (by simp), by go_num, Hd.mk (by have := HC.out; have := HCX.out; omega), Hd.mk (HU9.out.drewN nq)⟩
                        | false =>
                          rw [hp, if_neg Bool.false_ne_true] at HCX
                          by_cases e1 : c.key.size ≤ xk.size
                          · have e3 : decide (c.key.size ≤ xk.size) = true := decide_eq_true (by omega)
                            have e4 := str_no (a := xk.extract 0 c.key.size) (b := c.key) (fun e => by rw [pre_of e] at hp; cases hp)
                            clear hp
                            go_upto_region 69 with (fail)
                            refine wp_region_quiet_lit (by kernel_rfl) (by kernel_rfl) ?_
                            repeat (go_big_quiet_step (fail))
                            refine wpQuiet_nil ?_
                            (intro _ hw'; obtain ⟨nq, hw''⟩ := hw'; subst hw'')
                            go_wp2_with fail
                            go_roundg (F.filter fun y => decide (y.1 ≠ xk)).length
                            case measure => have := HGh.out; have := HSHT.out; omega
                            case rel => exact ⟨_, cc, Hd.mk rfl, HR9.out.upd ((Upd.refl [] _).drewN nq) (by simp) (by simp), rfl, Hd.mk (by have := HC.out; have := HCX.out; omega), Hd.mk (HU9.out.drewN nq)⟩
                          · have e3 : decide (c.key.size ≤ xk.size) = false := decide_eq_false (by omega)
                            clear hp
                            go_upto_region 69 with (fail)
                            refine wp_region_quiet_lit (by kernel_rfl) (by kernel_rfl) ?_
                            repeat (go_big_quiet_step (fail))
                            refine wpQuiet_nil ?_
                            (intro _ hw'; obtain ⟨nq, hw''⟩ := hw'; subst hw'')
                            go_wp2_with fail
                            go_roundg (F.filter fun y => decide (y.1 ≠ xk)).length
                            case measure => have := HGh.out; have := HSHT.out; omega
                            case rel => exact ⟨_, cc, Hd.mk rfl, HR9.out.upd ((Upd.refl [] _).drewN nq) (by simp) (by simp), rfl, Hd.mk (by have := HC.out; have := HCX.out; omega), Hd.mk (HU9.out.drewN nq)⟩
                  · as_aux_lemma =>
                    have d5 : (kd == 5) = false := by simpa using k5
                    clear k3 k4 k5
                    cases rk with
                    | false =>
                      obtain rfl : x = none := HXR.out rfl
                      obtain rfl : th = false := HTH.out.symm
                      go_wp2_with fail
                      refine (right_ok c.key _).mono ?_
                      rintro e w7 ⟨rfl, hw⟩
                      subst hw
                      rw [HRK.out]
                      go_wp2_with fail
                      refine (put_bad HRX.out.sto 7 c.key c.val tg HKZ.out (mine_bad 7 c.key HRK.out) (by decide)).mono ?_
                      rintro e w8 ⟨rfl, u7'⟩
                      have HRX := Hd.mk (HRX.out.up u7')
                      clear u7'
                      go_wp2_with fail
                      go_meet
                      case rel => exact ⟨m, n, HRX⟩
                    | true =>
                      have HMI := Hd.mk (mine_all 7 c.key (by decide) HRK.out)
                      cases tk with
                      | false =>
                        have HPE := Hd.mk (show putE x tg (n (shd c.key)) = 6 by unfold putE; rw [if_pos HTK.out])
                        go_wp2_with fail
                        refine (right_ok c.key _).mono ?_
                        rintro e w7 ⟨rfl, hw⟩
                        subst hw
                        rw [HRK.out]
                        go_wp2_with fail
                        refine (put_no HRX.out.sto HTW.out 7 c.key c.val tg HKZ.out HMI.out HX.out HXV2.out (c := 6) HPE.out (by decide)).mono ?_
                        rintro e w8 ⟨rfl, u7'⟩
                        have HRX := Hd.mk (HRX.out.up u7')
                        clear u7'
                        cases th with
                        | false =>
                          go_wp2_with fail
                          go_meet
                          case rel => exact ⟨m, n, HRX⟩
                        | true =>
                          go_wp2_with fail
                          go_meet
                          case rel => exact ⟨m, n, HRX⟩
                      | true =>
                        have HVZ := Hd.mk (show c.val.size ≤ 1000 by omega)
                        have HLE := Hd.mk (HRX.out.le q hq4)
                        cases x with
                        | none =>
                          obtain rfl : th = false := HTH.out.symm
                          have hcl := HRX.out.cell hq4
                          by_cases h8 : n q = 8
                          · have HPE := Hd.mk (show putE none tg (n (shd c.key)) = 4 by unfold putE; rw [if_neg (by rw [HTK.out]; decide), if_pos ⟨rfl, by rw [HQ.out]; exact h8⟩])
                            rw [h8] at hcl
                            clear h8
                            go_wp2_with fail
                            refine (right_ok c.key _).mono ?_
                            rintro e w7 ⟨rfl, hw⟩
                            subst hw
                            rw [HRK.out]
                            go_wp2_with fail
                            refine (put_no HRX.out.sto HTW.out 7 c.key c.val tg HKZ.out HMI.out HX.out HXV2.out (c := 4) HPE.out (by decide)).mono ?_
                            rintro e w8 ⟨rfl, u7'⟩
                            have HRX := Hd.mk (HRX.out.up u7')
                            clear u7'
                            go_wp2_with fail
                            go_meet
                            case rel => exact ⟨m, n, HRX⟩
                          · have HPE := Hd.mk (show putE none tg (n (shd c.key)) = 0 by unfold putE; rw [if_neg (by rw [HTK.out]; decide), if_neg (fun e => h8 (by rw [← HQ.out]; exact e.2))])
                            obtain ⟨sA, mA, bA⟩ := HRX.out.count hq4 (n q + 1)
                            obtain ⟨wB, hup, hmo, uB⟩ := mA.put c.key c.val
                            have HSB := Hd.mk (show Sto w2 wB p r (upto 4 7) m n from sA.beside1 uB HRX.out.mne HRX.out.mnew)
                            have HBB := Hd.mk (show Blk wB cb (ccells (setN n q (n q + 1))) 45 from uB.blk bA (fun e => mA.notBlk bA (by rw [List.mem_singleton] at e; exact e.symm)))
                            have HMB := Hd.mk hmo
                            have hxa : Blk _ xb c.cells 52 := HB.out.set_ne ⟨cb, q, none⟩ (.int .i64 ((n q + 1 : Nat) : Int)) (fun e => by
                              have e : xb = cb := e
                              have h5 := HB.out
                              rw [e] at h5
                              have := (h5.uniq HRX.out.cnt).2
                              exact absurd this (by decide))
                            have hxb : Blk wB xb c.cells 52 := uB.blk hxa (fun e => mA.notBlk hxa (by rw [List.mem_singleton] at e; exact e.symm))
                            have a3 := hxa.cell 3
                            have a4 := hxa.cell 4
                            have b3 := hxb.cell 3
                            have b4 := hxb.cell 4
                            simp only [Cl.cells, List.getElem?_cons_zero, List.getElem?_cons_succ] at a3 a4 b3 b4
                            have hfz := HRX.out.cnt.free q
                            have HNQ := Hd.mk (show n (shd c.key) + 1 = n q + 1 by rw [HQ.out])
                            have hle8 := HLE.out
                            clear sA mA bA hmo uB hxa hxb
                            obtain ⟨nq, hnq⟩ : ∃ nq, n q = nq := ⟨_, rfl⟩
                            rw [hnq] at hcl h8 HNQ HBB hup a3 a4 hle8
                            rw [show ((nq + 1 : Nat) : Int) = (nq : Int) + 1 by omega] at hup a3 a4
                            clear hnq
                            have e8 : ((nq : Int) == 8) = false := by rw [beq_eq_false_iff_ne]; omega
                            have HE8 := Hd.mk (show nq ≤ 7 by omega)
                            clear h8
                            go_wp2_with fail
                            refine (right_ok c.key _).mono ?_
                            rintro e w7 ⟨rfl, hw⟩
                            subst hw
                            rw [HRK.out]
                            go_wp2_with fail
                            refine (put_yes HSB.out HTW.out 7 c.key c.val tg HKZ.out HMI.out HX.out HXV2.out HPE.out).mono ?_
                            rintro e w9 ⟨rfl, u9, S9⟩
                            simp only [Option.isSome_none, Bool.false_eq_true, if_false] at S9
                            rw [HNQ.out] at S9
                            have HR9 := Hd.mk (HRX.out.step c.key (some c.val) (nq + 1) (by rw [HQ.out]; exact HBB.out) HMB.out u9 S9 (by have := HE8.out; omega) (some_le HVZ.out) HRK.out)
                            clear u9 S9
                            simp only [Option.isSome_none]
                            go_wp2_with fail
                            go_meet
                            case rel => exact ⟨_, _, HR9⟩
                        | some v =>
                          obtain rfl : th = true := HTH.out.symm
                          have HPE := Hd.mk (show putE (some v) tg (n (shd c.key)) = 0 from putE_some HTK.out)
                          obtain ⟨wB, hup, hmo, uB⟩ := HRX.out.map.put c.key c.val
                          have HSB := Hd.mk (show Sto w2 wB p r (upto 4 7) m n from HRX.out.sto.beside1 uB HRX.out.mne HRX.out.mnew)
                          have HBB := Hd.mk (show Blk wB cb (ccells n) 45 from uB.blk HRX.out.cnt (fun e => HRX.out.map.notBlk HRX.out.cnt (by rw [List.mem_singleton] at e; exact e.symm)))
                          have HMB := Hd.mk hmo
                          have hxb : Blk wB xb c.cells 52 := uB.blk HB.out (fun e => HRX.out.map.notBlk HB.out (by rw [List.mem_singleton] at e; exact e.symm))
                          have b3 := hxb.cell 3
                          have b4 := hxb.cell 4
                          simp only [Cl.cells, List.getElem?_cons_zero, List.getElem?_cons_succ] at b3 b4
                          clear hmo uB hxb
                          go_wp2_with fail
                          refine (right_ok c.key _).mono ?_
                          rintro e w7 ⟨rfl, hw⟩
                          subst hw
                          rw [HRK.out]
                          go_wp2_with fail
                          refine (put_yes HSB.out HTW.out 7 c.key c.val tg HKZ.out HMI.out HX.out HXV2.out HPE.out).mono ?_
                          rintro e w9 ⟨rfl, u9, S9⟩
                          have HR9 := Hd.mk (HRX.out.step c.key (some c.val) (n (shd c.key)) (by rw [setN_same]; exact HBB.out) HMB.out u9 S9 (by rw [HQ.out]; exact HLE.out) (some_le HVZ.out) HRK.out)
                          clear u9 S9
                          simp only [Option.isSome_some]
                          go_wp2_with fail
                          go_meet
                          case rel => exact ⟨_, _, HR9⟩
                case rest => as_aux_lemma =>
                  clear HRX HB c0 c1 c2 c3 c4 c5 HTK HTG HDEC HTH HOV HXR HXV HX
                  obtain ⟨m, n, HRX⟩ := hcut
                  go_wp2_with fail
                  refine (unlock_ok HRX.out.sto 7).mono ?_
                  rintro e w7 ⟨rfl, S7, u7'⟩
                  rw [unl_all 7 (by decide)] at S7
                  have HR7 := Hd.mk (HRX.out.locked u7' S7)
                  clear S7 u7'
                  go_wp2_with fail
                  go_roundg (gk - 1)
                  case measure => have := HG.out; omega
                  case rel => exact ⟨i + 1, m, n, by have := HG.out; omega, by go_num, HR7⟩
      · go_wp2_with fail
        go_ret
        exact ⟨rfl, HU.out.trans HRX.out.sto.upd (by simp)⟩
theorem runs_row (a : Option Addr) (len cap : Nat) (w : World) (hT : Tb w) (hz : Leaf.ok w (.sl [.int .i64, .int .i64, .int .i64, .str, .str, .int .i64]) (.slice a len cap)) :
    Calls Tryd.prog 8 #[.slice a len cap] w fun e w' => e = .returned (.bool true) ∧ Below w.heap.size w w' := by
  obtain ⟨C, hR, hsh, hn⟩ := leaf_rdc hz
  exact (runs_walk a len cap C w hR hn hsh hT).mono fun _ _ h => ⟨h.1, h.2.nil_below⟩
end Go.Proofs.YtncahmodmgbacaaDoor
