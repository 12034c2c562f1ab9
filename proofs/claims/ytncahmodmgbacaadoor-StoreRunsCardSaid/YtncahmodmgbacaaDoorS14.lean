/- StoreLocks: shards are one owner's at a time; who does not have a key's shard does nothing to it. -/
import Derived.Test.YtncahmodmgbacaaDoorS13
import Derived.Deep.DeepCutAuto
import Derived.Deep.CutBlock
namespace Go.Proofs.YtncahmodmgbacaaDoor
set_option linter.unusedSimpArgs false
set_option linter.unusedVariables false
set_option linter.unnecessarySimpa false
open Go.RowKit BigFrame

def ocells (o : Nat → Int) : List Value := [.int .i64 (o 0), .int .i64 (o 1), .int .i64 (o 2), .int .i64 (o 3)]
theorem ocells_set (o : Nat → Int) (q : Nat) (x : Int) (hq : q < 4) : (ocells o).set q (.int .i64 x) = ocells (setO o q x) := by
  rcases (by omega : q = 0 ∨ q = 1 ∨ q = 2 ∨ q = 3) with e | e | e | e <;> subst e <;> rfl
theorem ocells_at (o : Nat → Int) (q : Nat) (hq : q < 4) : (ocells o)[q]? = some (.int .i64 (o q)) := by
  rcases (by omega : q = 0 ∨ q = 1 ∨ q = 2 ∨ q = 3) with e | e | e | e <;> subst e <;> rfl
/-- What the law has: the store, its own list of owners. -/
structure Lo (w1 w : World) (p : Nat) (r : Nat → Nat) (ob : Nat) (o : Nat → Int) (m : St) (n : Nat → Nat) : Prop where
  sto : Sto w1 w p r o m n
  own : Blk w ob (ocells o) 45
  onew : w1.heap.size ≤ ob
  le : ∀ i, i < 4 → n i ≤ 8
  val : ∀ k v, m k = some v → v.size ≤ 1000000
theorem Lo.up {w1 w w' : World} {p ob : Nat} {r : Nat → Nat} {o : Nat → Int} {m : St} {n : Nat → Nat} (h : Lo w1 w p r ob o m n) (hu : Upd [] w w') : Lo w1 w' p r ob o m n :=
  ⟨h.sto.up hu, hu.blk h.own (by simp), h.onew, h.le, h.val⟩
theorem Lo.cell {w1 w : World} {p ob : Nat} {r : Nat → Nat} {o : Nat → Int} {m : St} {n : Nat → Nat} (h : Lo w1 w p r ob o m n) {q : Nat} (hq : q < 4) : w.cell? ⟨ob, q, none⟩ = some (.int .i64 (o q)) :=
  (h.own.cell q).trans (ocells_at o q hq)
theorem Sto.beside1 {w0 w w' : World} {p b : Nat} {r : Nat → Nat} {o : Nat → Int} {m : St} {n : Nat → Nat} (h : Sto w0 w p r o m n) (hu : Upd [b] w w') (h1 : b ∉ foot p r) (h2 : w0.heap.size ≤ b) : Sto w0 w' p r o m n :=
  h.beside hu (fun k hk => by rw [List.mem_singleton] at hk; subst hk; exact ⟨h1, h2⟩)
/-- The law writes down an owner. -/
theorem own_set {w0 w : World} {p ob : Nat} {r : Nat → Nat} {o o2 : Nat → Int} {m : St} {n : Nat → Nat} (h : Sto w0 w p r o m n) (hb : Blk w ob (ocells o2) 45) (hn : w0.heap.size ≤ ob) (j : Nat) (hj : j < 4) (x : Int) :
    Sto w0 (w.setCell ⟨ob, j, none⟩ (.int .i64 x)) p r o m n ∧ Blk (w.setCell ⟨ob, j, none⟩ (.int .i64 x)) ob (ocells (setO o2 j x)) 45 := by
  refine ⟨h.beside1 ((Upd.refl [ob] _).set _ _ (by simp)) (h.notBlk hb (by decide)) hn, ?_⟩
  have := hb.set j (.int .i64 x)
  rw [ocells_set o2 j x hj] at this
  exact this
theorem own_lock {w0 w w' : World} {p ob : Nat} {r : Nat → Nat} {o o2 : Nat → Int} {m : St} {n : Nat → Nat} (h : Sto w0 w p r o m n) (hb : Blk w ob (ocells o2) 45) (hu : Upd [p] w w') : Blk w' ob (ocells o2) 45 :=
  hu.blk hb (fun e => by rw [List.mem_singleton] at e; exact h.notBlk hb (by decide) (by rw [e]; simp [foot]))
theorem own_put {w0 w w' : World} {p ob : Nat} {r : Nat → Nat} {o o2 : Nat → Int} {m : St} {n : Nat → Nat} (h : Sto w0 w p r o m n) (hb : Blk w ob (ocells o2) 45) {k : ByteArray} (hu : Upd [r (shd k)] w w') : Blk w' ob (ocells o2) 45 :=
  hu.blk hb (fun e => by rw [List.mem_singleton] at e; exact h.notBlk hb (by decide) (by rw [e]; exact shd_foot p r k))
theorem Lo.put {w1 w w' : World} {p ob : Nat} {r : Nat → Nat} {o : Nat → Int} {m : St} {n : Nat → Nat} (h : Lo w1 w p r ob o m n) {k : ByteArray} {x : Option ByteArray} {c : Nat} (hu : Upd [r (shd k)] w w') (hs : Sto w1 w' p r o (setM m k x) (setN n (shd k) c)) (hc : c ≤ 8) (hx : ∀ v, x = some v → v.size ≤ 1000000) : Lo w1 w' p r ob o (setM m k x) (setN n (shd k) c) := by
  refine ⟨hs, own_put h.sto h.own hu, h.onew, fun i hi => ?_, fun k' v hv => ?_⟩
  · unfold setN
    split
    · exact hc
    · exact h.le i hi
  · unfold setM at hv
    split at hv
    · exact hx v hv
    · exact h.val k' v hv
theorem mine_yes {o : Nat → Int} {ow : Int} {k : ByteArray} (hr : rightK k = true) (h : decide (0 < ow ∧ o (shd k) = ow) = true) : mineE o ow k = 0 := by
  unfold mineE
  rw [hr, if_neg (by decide), if_pos (of_decide_eq_true h)]
theorem mine_not {o : Nat → Int} {ow : Int} {k : ByteArray} (hr : rightK k = true) (h : decide (0 < ow ∧ o (shd k) = ow) = false) : mineE o ow k = 7 := by
  unfold mineE
  rw [hr, if_neg (by decide), if_neg (of_decide_eq_false h)]
theorem index_ow (o : Nat → Int) (i : Nat) (hi : i < 4) (W : World) : (Instr.index 45 (.agg #[.int .i64 (o 0), .int .i64 (o 1), .int .i64 (o 2), .int .i64 (o 3)]) (.int .i64 i)).run Tryd.prog W = .ok (.int .i64 (o i)) W := by
  rcases (by omega : i = 0 ∨ i = 1 ∨ i = 2 ∨ i = 3) with e | e | e | e <;> subst e <;> kernel_rfl
theorem kind3 (k : Int) : Int.tmod (Int.tmod k 3 + 3) 3 = k % 3 := by
  have h := Int.tmod_eq_emod_of_nonneg (a := Int.tmod k 3 + 3) (b := 3) (by have := Int.lt_tmod_of_pos k (show (0 : Int) < 3 by omega); omega)
  rw [h]
  rw [Int.tmod_def]
  omega
theorem unl_law (o : Nat → Int) (ow : Int) (h0 : 0 ≤ ow) (j : Nat) (h : o j = ow) : setO (unl o ow j) j 0 = unl o ow (j + 1) := by
  by_cases h1 : 0 < ow
  · exact unl_yes o ow j h1 h
  · have e : ow = 0 := by omega
    rw [← unl_no o ow j (fun q => h1 q.1)]
    funext i
    unfold setO
    by_cases hi : i = j
    · subst hi; rw [if_pos rfl, unl_at, h, e]
    · rw [if_neg hi]
theorem kind3w (k : Int) : (wrap64 (Int.tmod k 3 + 3)).tmod 3 = k % 3 := by
  have h1 := Int.tmod_lt_of_pos k (show (0 : Int) < 3 by omega)
  have h2 := Int.lt_tmod_of_pos k (show (0 : Int) < 3 by omega)
  have e : wrap64 (Int.tmod k 3 + 3) = Int.tmod k 3 + 3 := by
    unfold wrap64
    omega
  rw [e, kind3]
set_option maxRecDepth 100000 in
set_option maxHeartbeats 2000000 in
theorem locks_walk (a : Option Addr) (N cap : Nat) (C : Nat → Cl) (w : World) (hR : Rdc w a N C) (hN : N ≤ 140737488351232) (hsh : Shortc C N) (hT : Tb w) :
    Calls Tryd.prog 9 #[.slice a N cap] w fun e w' => e = .returned (.bool true) ∧ Upd [] w w' := by
  have HT := Hd.mk hT
  have HR := Hd.mk hR
  have HSH := Hd.mk hsh
  clear hT hR hsh
  go_enter Tryd.func9, Tryd.ntmps9
  go_wp2_with fail
  refine (fit_ok w HT.out).mono ?_
  rintro e w1 ⟨rfl, u1⟩
  have HU := Hd.mk u1
  have HR := Hd.mk (HR.out.upd u1)
  have HT := Hd.mk (HT.out.upd u1)
  clear u1
  go_wp2_with fail
  refine (light_ok a N cap C w1 HR.out hN HSH.out).mono ?_
  rintro e w2 ⟨b, rfl, hb, u2⟩
  have HR := Hd.mk (HR.out.upd u2)
  have HU := Hd.mk (HU.out.trans u2 (by simp))
  have HT := Hd.mk (HT.out.upd u2)
  clear u2
  cases b with
  | false =>
    clear hb
    go_wp2_with fail
    go_ret
    exact ⟨rfl, HU.out⟩
  | true =>
    obtain ⟨hN2, hz⟩ := hb rfl
    have HZ := Hd.mk hz
    clear hb hz
    go_wp2_with fail
    refine (new_ok w2).mono ?_
    rintro e w3 ⟨p, r, rfl, S3⟩
    have HS := Hd.mk S3
    clear S3
    go_upto_region 8 with (fail)
    have HLO := Hd.mk (show Lo w2 (w3.alloc (.cells (ocells (fun _ => 0)).toArray 45)) p r w3.heap.size (fun _ => 0) (fun _ => none) (fun _ => 0) from
        ⟨HS.out.up ((Upd.refl [] w3).alloc _), Blk.new w3 _ _ _ rfl, HS.out.upd.size, fun _ _ => by omega, fun k v h => by cases h⟩)
    refine wp_abs (fun W => Lo w2 W p r w3.heap.size (fun _ => 0) (fun _ => none) (fun _ => 0)) HLO.out ?_
    clear HLO HS
    generalize w3.heap.size = ob
    rintro w4 hlo
    have HLO := Hd.mk hlo
    clear hlo
    go_loopg [6, 7, 8, 9, 10, 11, 12, 13, 14, 15, 16, 17, 18, 19, 21, 22, 23, 32] N (fun g s6 s7 s8 s9 s10 s11 s12 s13 s14 s15 s16 s17 s18 s19 s21 s22 s23 ii wr => ∃ (i : Nat) (o : Nat → Int) (m : St) (n : Nat → Nat), g + i = N ∧ ii = .int .i64 i ∧ Hd (Lo w2 wr p r ob o m n))
    case atStart => exact ⟨0, _, _, _, by omega, rfl, HLO⟩
    case round =>
      clear HLO
      obtain ⟨i, o, m, n, hg, rfl, HLO⟩ := hrel
      by_cases hi : i < N
      · obtain ⟨b, off, rfl, hb, c0, c1, c2, c3, c4, c5⟩ := (HR.out.upd HLO.out.sto.upd).at hi
        obtain ⟨z1, z2, z3, z4⟩ := HSH.out i hi
        have hz5 := HZ.out i hi
        have HG := Hd.mk hg
        clear hg
        obtain ⟨c, hc⟩ : ∃ c, C i = c := ⟨_, rfl⟩
        rw [hc] at c0 c1 c2 c3 c4 c5 z1 z2 z3 z4 hz5
        clear hc
        go_upto_region 10 with (fail)
        refine wp_abs (fun W => Lo w2 W p r ob o m n ∧ Blk W wr.heap.size c.cells 52) ⟨HLO.out.up ((Upd.refl [] wr).alloc _), Blk.new wr c.cells 52 _ rfl⟩ ?_
        clear c0 c1 c2 c3 c4 c5 HLO hb
        generalize wr.heap.size = xb
        rintro w5 ⟨l5, b5⟩
        have HLO := Hd.mk l5
        have HB := Hd.mk b5
        have c0 := b5.cell 0
        have c1 := b5.cell 1
        have c2 := b5.cell 2
        have c3 := b5.cell 3
        have c4 := b5.cell 4
        have c5 := b5.cell 5
        simp only [Cl.cells, List.getElem?_cons_zero, List.getElem?_cons_succ] at c0 c1 c2 c3 c4 c5
        clear l5 b5
        obtain ⟨ow, how⟩ : ∃ ow : Nat, c.owner % 4 = ow := ⟨(c.owner % 4).toNat, by omega⟩
        have how4 : ow < 4 := by omega
        go_upto_region 12 with (fail)
        clear how
        obtain ⟨inB, hin⟩ : ∃ x : Bool, decide (0 ≤ c.shard ∧ c.shard < 4) = x := ⟨_, rfl⟩
        have HIN := Hd.mk hin
        clear hin
        go_cut [9] (fun s9 W => s9 = .bool inB ∧ W = w5)
        case first =>
          by_cases h1 : 0 ≤ c.shard
          · have d1 : decide (0 ≤ c.shard) = true := decide_eq_true h1
            go_wp2_with fail
            go_meet
            case rel => exact ⟨congrArg Value.bool (by rw [← HIN.out]; simp [h1]), rfl⟩
          · have d1 : decide (0 ≤ c.shard) = false := decide_eq_false h1
            go_wp2_with fail
            go_meet
            case rel => exact ⟨congrArg Value.bool (by rw [← HIN.out, decide_eq_false (by omega)]), rfl⟩
        case rest =>
          obtain ⟨rfl, rfl⟩ := hcut
          have HFR := Hd.mk (show freeB o ow c.shard = (inB && (decide (0 < (ow : Int)) && (decide (o c.shard.toNat = 0) || decide (o c.shard.toNat = ow)))) by
            rw [← HIN.out]
            unfold freeB
            rw [Bool.eq_iff_iff]
            simp
            constructor
            · rintro ⟨h1, h2, h3, h4⟩; exact ⟨⟨h2, h3⟩, h1, h4⟩
            · rintro ⟨⟨h2, h3⟩, h1, h4⟩; exact ⟨h1, h2, h3, h4⟩)
          go_upto_region 13 with (fail)
          go_cut [10] (fun s10 W => s10 = .bool (freeB o ow c.shard) ∧ W = wc)
          case first => as_aux_lemma =>
            cases inB with
            | false =>
              go_wp2_with fail
              go_meet
              case rel => exact ⟨congrArg Value.bool (by rw [HFR.out]; rfl), rfl⟩
            | true =>
              obtain ⟨hs0, hs4⟩ := of_decide_eq_true HIN.out
              obtain ⟨k, hk⟩ : ∃ k : Nat, c.shard = k := ⟨c.shard.toNat, by omega⟩
              have hk4 : k < 4 := by omega
              have hcl := HLO.out.cell hk4
              have HFR := Hd.mk (show freeB o ow c.shard = (true && (decide (0 < (ow : Int)) && (decide (o k = 0) || decide (o k = ow)))) by
                have h := HFR.out
                rw [show c.shard.toNat = k by omega] at h
                exact h)
              have hmin : ∀ W, (Builtin.min_ #[3, 3] 3 #[.int .i64 c.shard, .int .i64 3]).run Tryd.prog W = .ok (.int .i64 k) W := by
                intro W
                rw [hk]
                simp [Builtin.min_, Builtin.min2]; intro h3; omega
              have hmax : ∀ W, (Builtin.max_ #[3, 3] 3 #[.int .i64 k, .int .i64 0]).run Tryd.prog W = .ok (.int .i64 k) W := by
                intro W
                simp [Builtin.max_, Builtin.max2]; intro h3; omega
              obtain ⟨x, hx⟩ : ∃ x, o k = x := ⟨_, rfl⟩
              rw [hx] at hcl HFR
              clear hx hk hs0 hs4
              by_cases h1 : 0 < (ow : Int)
              · have d1 : decide (0 < (ow : Int)) = true := decide_eq_true h1
                rw [d1] at HFR
                by_cases h2 : x = 0
                · subst h2
                  go_wp2_with fail
                  go_meet
                  case rel => exact ⟨congrArg Value.bool (by rw [HFR.out]; simp), rfl⟩
                · have d2 : (x == 0) = false := by simpa using h2
                  by_cases h3 : x = ow
                  · subst h3
                    go_wp2_with fail
                    go_meet
                    case rel => exact ⟨congrArg Value.bool (by rw [HFR.out]; simp), rfl⟩
                  · have d3 : (x == ow) = false := by simpa using h3
                    go_wp2_with fail
                    go_meet
                    case rel => exact ⟨congrArg Value.bool (by rw [HFR.out]; simp [h2, h3]), rfl⟩
              · have d1 : decide (0 < (ow : Int)) = false := decide_eq_false h1
                rw [d1] at HFR
                go_wp2_with fail
                go_meet
                case rel => exact ⟨congrArg Value.bool (by rw [HFR.out]; simp), rfl⟩
          case rest =>
            obtain ⟨rfl, rfl⟩ := hcut
            clear HFR HIN
            have HFB := Hd.mk (show freeB o ow c.shard = freeB o ow c.shard from rfl)
            go_wp2_with fail
            refine (free_ok HLO.out.sto ow c.shard).mono ?_
            rintro e w6 ⟨rfl, rfl⟩
            obtain ⟨fb, hfb⟩ : ∃ fb, freeB o ow c.shard = fb := ⟨_, rfl⟩
            rw [hfb]
            have HFB := Hd.mk hfb
            clear hfb
            have e1 : (fb != fb) = false := by simp
            obtain ⟨kd, hkd⟩ : ∃ kd : Int, (wrap64 (Int.tmod c.kind 3 + 3)).tmod 3 = kd := ⟨_, rfl⟩
            have HKD := Hd.mk (show kd = 0 ∨ kd = 1 ∨ kd = 2 by rw [← hkd, kind3w]; omega)
            go_upto_block 2 with (fail)
            clear hkd
            go_cut [11, 12, 13, 14, 15, 16, 17, 136, 148] (fun s11 s12 s13 s14 s15 s16 s17 s136 s148 W => ∃ (o : Nat → Int) (m : St) (n : Nat → Nat), Hd (Lo w2 W p r ob o m n))
            case first =>
              rcases HKD.out with hk | hk | hk
              · as_aux_lemma =>
                have k0 : (kd == 0) = true := by rw [hk]; rfl
                clear hk
                cases fb with
                | false =>
                  go_wp2_with fail
                  refine (lock_no HLO.out.sto ow c.shard HFB.out).mono ?_
                  rintro e w7 ⟨rfl, rfl⟩
                  go_wp2_with fail
                  go_meet
                  case rel => exact ⟨o, m, n, HLO⟩
                | true =>
                  have HFD := Hd.mk (show 0 ≤ c.shard ∧ c.shard < 4 by
                    have := HFB.out
                    unfold freeB at this
                    have := of_decide_eq_true this
                    exact ⟨this.2.1, this.2.2.1⟩)
                  have hs0 : 0 ≤ c.shard := HFD.out.1
                  have hs4 : c.shard < 4 := HFD.out.2
                  have HK4 := Hd.mk (show c.shard.toNat < 4 by omega)
                  have hlk := lock_yes HLO.out.sto ow c.shard.toNat (by rw [Int.toNat_of_nonneg hs0]; exact HFB.out)
                  rw [Int.toNat_of_nonneg hs0] at hlk
                  have HLK := Hd.mk hlk
                  clear hlk
                  go_wp2_with fail
                  refine HLK.out.mono ?_
                  rintro e w7 ⟨rfl, S7, u7'⟩
                  have own7 := own_lock HLO.out.sto HLO.out.own u7'
                  have hcl := (own7.cell c.shard.toNat).trans (ocells_at o _ HK4.out)
                  have hfz := own7.free c.shard.toNat
                  have HL8 := Hd.mk (own_set S7 own7 HLO.out.onew c.shard.toNat HK4.out ow)
                  clear own7 S7 u7'
                  go_wp2_with fail
                  go_meet
                  case rel => exact ⟨_, m, n, Hd.mk ⟨HL8.out.1, HL8.out.2, HLO.out.onew, HLO.out.le, HLO.out.val⟩⟩
              · as_aux_lemma =>
                have k0 : (kd == 0) = false := by rw [hk]; rfl
                have k1 : (kd == 1) = true := by rw [hk]; rfl
                clear hk
                go_wp2_with fail
                refine (unlock_ok HLO.out.sto ow).mono ?_
                rintro e w7 ⟨rfl, S7, u7'⟩
                have HS7 := Hd.mk (And.intro S7 (own_lock HLO.out.sto HLO.out.own u7'))
                clear S7 u7'
                go_wp2_with fail
                obtain ⟨gq, hgq⟩ : ∃ gq, gq = gk - 1 := ⟨_, rfl⟩
                have HGQ := Hd.mk (And.intro hgq HG.out)
                clear hgq
                go_loopg [11, 153] 4 (fun g s11 jj wq => ∃ j : Nat, g + j = 4 ∧ jj = .int .i64 j ∧ Hd (Sto w2 wq p r (unl o ow 4) m n ∧ Blk wq ob (ocells (unl o ow j)) 45))
                case atStart => exact ⟨0, rfl, rfl, Hd.mk ⟨HS7.out.1, by rw [unl_zero]; exact HS7.out.2⟩⟩
                case round =>
                  clear HS7
                  obtain ⟨j, hg, rfl, HS7⟩ := hrel
                  by_cases hj : j < 4
                  · have hcl := (HS7.out.2.cell j).trans (ocells_at _ j hj)
                    rw [unl_at] at hcl
                    have hfz := HS7.out.2.free j
                    have HS8 := Hd.mk (own_set HS7.out.1 HS7.out.2 HLO.out.onew j hj 0)
                    have HY := Hd.mk (unl_law o ow (by omega) j)
                    have HN := Hd.mk (unl_no o ow j)
                    obtain ⟨x, hx⟩ : ∃ x, o j = x := ⟨_, rfl⟩
                    rw [hx] at hcl HY HN
                    clear hx
                    by_cases h2 : x = ow
                    · have d2 : (x == (ow : Int)) = true := by simpa using h2
                      go_wp2_with fail
                      go_roundg (gk - 1)
                      case measure => omega
                      case rel => exact ⟨j + 1, by omega, by go_num, by rw [← HY.out h2]; exact HS8⟩
                    · have d2 : (x == (ow : Int)) = false := by simpa using h2
                      go_wp2_with fail
                      go_roundg (gk - 1)
                      case measure => omega
                      case rel => exact ⟨j + 1, by omega, by go_num, by rw [← HN.out (fun q => h2 q.2)]; exact HS7⟩
                  · obtain rfl : j = 4 := by omega
                    go_wp2_with fail
                    go_meet
                    case rel => exact ⟨_, m, n, Hd.mk ⟨HS7.out.1, HS7.out.2, HLO.out.onew, HLO.out.le, HLO.out.val⟩⟩
              · as_aux_lemma =>
                have k0 : (kd == 0) = false := by rw [hk]; rfl
                have k1 : (kd == 1) = false := by rw [hk]; rfl
                clear hk
                by_cases hk0 : c.key.size = 0
                · have e0 : ((c.key.size : Int) == 0) = true := by simp [hk0]
                  go_wp2_with fail
                  go_roundg (gk - 1)
                  case measure => have := HG.out; omega
                  case rel => exact ⟨i + 1, o, m, n, by have := HG.out; omega, by go_num, HLO⟩
                have e0 : ((c.key.size : Int) == 0) = false := by rw [beq_eq_false_iff_ne]; omega
                by_cases hk1 : 40 < c.key.size
                · have e2 : decide ((40 : Int) < c.key.size) = true := decide_eq_true (by omega)
                  go_wp2_with fail
                  go_roundg (gk - 1)
                  case measure => have := HG.out; omega
                  case rel => exact ⟨i + 1, o, m, n, by have := HG.out; omega, by go_num, HLO⟩
                have e2 : decide ((40 : Int) < c.key.size) = false := decide_eq_false (by omega)
                have HRK := Hd.mk (show rightK c.key = true by unfold rightK; exact decide_eq_true (by omega))
                have HKZ := Hd.mk z1
                go_upto_region 18 with (fail)
                obtain ⟨mb, hmb⟩ : ∃ x : Bool, decide (0 < (ow : Int) ∧ o (shd c.key) = ow) = x := ⟨_, rfl⟩
                have HMB := Hd.mk hmb
                clear hmb
                go_cut [12] (fun s12 W => s12 = .bool mb ∧ W = w6)
                case first =>
                  by_cases h1 : 0 < (ow : Int)
                  · have d1 : decide (0 < (ow : Int)) = true := decide_eq_true h1
                    go_wp2_with fail
                    refine (lshard_ok c.key w6 HKZ.out).mono ?_
                    rintro e w7 ⟨rfl, rfl⟩
                    have hq := shd_lt c.key
                    have hcl := HLO.out.cell hq
                    obtain ⟨q, hqq⟩ : ∃ q, shd c.key = q := ⟨_, rfl⟩
                    rw [show shdL c.key.data.toList = q from hqq]
                    rw [hqq] at hq hcl
                    have HMC := Hd.mk (show decide (0 < (ow : Int) ∧ o q = ow) = mb by rw [← hqq]; exact HMB.out)
                    obtain ⟨x, hx⟩ : ∃ x, o q = x := ⟨_, rfl⟩
                    rw [hx] at hcl HMC
                    clear hqq hx
                    by_cases h2 : x = (ow : Int)
                    · have d2 : (x == (ow : Int)) = true := by simpa using h2
                      go_wp2_with fail
                      go_meet
                      case rel => exact ⟨congrArg Value.bool (by rw [← HMC.out]; exact (decide_eq_true ⟨by omega, by omega⟩).symm), rfl⟩
                    · have d2 : (x == (ow : Int)) = false := by simpa using h2
                      go_wp2_with fail
                      go_meet
                      case rel => exact ⟨congrArg Value.bool (by rw [← HMC.out]; exact (decide_eq_false (fun q => h2 q.2)).symm), rfl⟩
                  · have d1 : decide (0 < (ow : Int)) = false := decide_eq_false h1
                    go_wp2_with fail
                    go_meet
                    case rel => exact ⟨congrArg Value.bool (by rw [← HMB.out]; exact (decide_eq_false (by omega)).symm), rfl⟩
                case rest =>
                  obtain ⟨rfl, rfl⟩ := hcut
                  cases mb with
                  | false => as_aux_lemma =>
                    have HME := Hd.mk (mine_not HRK.out HMB.out)
                    go_wp2_with fail
                    refine (get_bad HLO.out.sto ow c.key HKZ.out HME.out (by decide)).mono ?_
                    rintro e w7 ⟨rfl, u7'⟩
                    have HB := Hd.mk (u7'.blk HB.out (by simp))
                    have b5 := HB.out
                    clear c0 c1 c2 c3 c4 c5
                    have c0 := b5.cell 0
                    have c1 := b5.cell 1
                    have c2 := b5.cell 2
                    have c3 := b5.cell 3
                    have c4 := b5.cell 4
                    have c5 := b5.cell 5
                    simp only [Cl.cells, List.getElem?_cons_zero, List.getElem?_cons_succ] at c0 c1 c2 c3 c4 c5
                    have HLO := Hd.mk (HLO.out.up u7')
                    clear u7' b5
                    go_wp2_with fail
                    refine (del_bad HLO.out.sto ow c.key ⟨#[]⟩ HKZ.out HME.out (by decide)).mono ?_
                    rintro e w8 ⟨rfl, u7'⟩
                    have HB := Hd.mk (u7'.blk HB.out (by simp))
                    have b5 := HB.out
                    clear c0 c1 c2 c3 c4 c5
                    have c0 := b5.cell 0
                    have c1 := b5.cell 1
                    have c2 := b5.cell 2
                    have c3 := b5.cell 3
                    have c4 := b5.cell 4
                    have c5 := b5.cell 5
                    simp only [Cl.cells, List.getElem?_cons_zero, List.getElem?_cons_succ] at c0 c1 c2 c3 c4 c5
                    have HLO := Hd.mk (HLO.out.up u7')
                    clear u7' b5
                    go_wp2_with fail
                    refine (put_bad HLO.out.sto ow c.key ⟨#[118]⟩ ⟨#[]⟩ HKZ.out HME.out (by decide)).mono ?_
                    rintro e w9 ⟨rfl, u7'⟩
                    have HLO := Hd.mk (HLO.out.up u7')
                    clear u7'
                    go_wp2_with fail
                    go_meet
                    case rel => exact ⟨o, m, n, HLO⟩
                  | true => as_aux_lemma =>
                    have HME := Hd.mk (mine_yes HRK.out HMB.out)
                    obtain ⟨x, hx⟩ : ∃ x, m c.key = x := ⟨_, rfl⟩
                    have HX := Hd.mk hx
                    have HXV := Hd.mk (show ∀ v, x = some v → v.size ≤ 1000000 from fun v e => HLO.out.val c.key v (by rw [hx, e]))
                    clear hx
                    go_wp2_with fail
                    refine (get_good HLO.out.sto ow c.key HKZ.out HME.out HX.out).mono ?_
                    rintro e w7 ⟨rfl, u7'⟩
                    have HB := Hd.mk (u7'.blk HB.out (by simp))
                    have b5 := HB.out
                    clear c0 c1 c2 c3 c4 c5
                    have c0 := b5.cell 0
                    have c1 := b5.cell 1
                    have c2 := b5.cell 2
                    have c3 := b5.cell 3
                    have c4 := b5.cell 4
                    have c5 := b5.cell 5
                    simp only [Cl.cells, List.getElem?_cons_zero, List.getElem?_cons_succ] at c0 c1 c2 c3 c4 c5
                    have HLO := Hd.mk (HLO.out.up u7')
                    clear u7' b5
                    cases x with
                    | none =>
                      simp only [getE, Option.isSome_none, Option.getD_none, Bool.false_eq_true, if_false]
                      go_wp2_with fail
                      refine (del_no HLO.out.sto HT.out ow c.key ⟨#[]⟩ HKZ.out HME.out HX.out HXV.out (c := 5) rfl (by decide)).mono ?_
                      rintro e w8 ⟨rfl, u7'⟩
                      have HB := Hd.mk (u7'.blk HB.out (by simp))
                      have b5 := HB.out
                      clear c0 c1 c2 c3 c4 c5
                      have c0 := b5.cell 0
                      have c1 := b5.cell 1
                      have c2 := b5.cell 2
                      have c3 := b5.cell 3
                      have c4 := b5.cell 4
                      have c5 := b5.cell 5
                      simp only [Cl.cells, List.getElem?_cons_zero, List.getElem?_cons_succ] at c0 c1 c2 c3 c4 c5
                      have HLO := Hd.mk (HLO.out.up u7')
                      clear u7' b5
                      go_wp2_with fail
                      by_cases h8 : n (shd c.key) = 8
                      · refine (put_no HLO.out.sto HT.out ow c.key ⟨#[118]⟩ ⟨#[]⟩ HKZ.out HME.out HX.out HXV.out (c := 4) (by rw [putE_empty, if_pos ⟨rfl, h8⟩]) (by decide)).mono ?_
                        rintro e w9 ⟨rfl, u7'⟩
                        have HLO := Hd.mk (HLO.out.up u7')
                        clear u7' h8
                        go_wp2_with fail
                        go_meet
                        case rel => exact ⟨o, m, n, HLO⟩
                      · refine (put_yes HLO.out.sto HT.out ow c.key ⟨#[118]⟩ ⟨#[]⟩ HKZ.out HME.out HX.out HXV.out (by rw [putE_empty, if_neg (fun e => h8 e.2)])).mono ?_
                        rintro e w9 ⟨rfl, u9, S9⟩
                        have hle := HLO.out.le _ (shd_lt c.key)
                        have HL9 := Hd.mk (HLO.out.put u9 S9 (by simp; omega) (fun v e => by cases e; decide))
                        clear u9 S9 h8 hle
                        go_wp2_with fail
                        go_meet
                        case rel => exact ⟨o, _, _, HL9⟩
                    | some y =>
                      simp only [getE, Option.isSome_some, Option.getD_some, if_true]
                      go_wp2_with fail
                      refine (del_yes HLO.out.sto HT.out ow c.key ⟨#[]⟩ HKZ.out HME.out HX.out HXV.out (by
                        unfold delE tagOk
                        rw [decide_eq_true (show (⟨#[]⟩ : ByteArray).size = 0 from rfl), Bool.true_or]
                        rfl)).mono ?_
                      rintro e w8 ⟨rfl, u8', S8⟩
                      have hle := HLO.out.le _ (shd_lt c.key)
                      have HB := Hd.mk (u8'.blk HB.out (fun e => by rw [List.mem_singleton] at e; exact HLO.out.sto.notBlk HB.out (by decide) (by rw [e]; exact shd_foot p r c.key)))
                      have b5 := HB.out
                      clear c0 c1 c2 c3 c4 c5
                      have c0 := b5.cell 0
                      have c1 := b5.cell 1
                      have c2 := b5.cell 2
                      have c3 := b5.cell 3
                      have c4 := b5.cell 4
                      have c5 := b5.cell 5
                      simp only [Cl.cells, List.getElem?_cons_zero, List.getElem?_cons_succ] at c0 c1 c2 c3 c4 c5
                      have HL8 := Hd.mk (HLO.out.put u8' S8 (by omega) (fun v e => by cases e))
                      have HLE := Hd.mk hle
                      clear u8' S8 b5 hle
                      go_wp2_with fail
                      refine (put_yes HL8.out.sto HT.out ow c.key ⟨#[118]⟩ ⟨#[]⟩ HKZ.out HME.out (x := none) (setM_at _ _ _) (fun v e => by cases e) (by
                        rw [putE_empty, if_neg]
                        intro e
                        have h1 := e.2
                        unfold setN at h1
                        rw [if_pos rfl] at h1
                        have := HLE.out
                        omega)).mono ?_
                      rintro e w9 ⟨rfl, u9, S9⟩
                      have HL9 := Hd.mk (HL8.out.put u9 S9 (by
                        have := HLE.out
                        unfold setN
                        rw [if_pos rfl]
                        simp
                        omega) (fun v e => by cases e; decide))
                      clear u9 S9
                      go_wp2_with fail
                      go_meet
                      case rel => exact ⟨o, _, _, HL9⟩
            case rest => as_aux_lemma =>
              clear HLO HB c0 c1 c2 c3 c4 c5 HFB e1 HKD
              obtain ⟨o, m, n, HLO⟩ := hcut
              obtain ⟨gq, hgq⟩ : ∃ gq, gq = gk - 1 := ⟨_, rfl⟩
              have HGQ := Hd.mk (And.intro hgq HG.out)
              clear hgq
              go_wp2_with fail
              go_loopg [18, 19, 21, 22, 23] 3 (fun g s18 s19 s21 s22 s23 wq => ∃ j : Nat, g + j = 4 ∧ 1 ≤ j ∧ s18 = .int .i64 j ∧ Hd (Lo w2 wq p r ob o m n))
              case atStart => exact ⟨1, rfl, Nat.le_refl _, rfl, HLO⟩
              case round =>
                clear HLO
                obtain ⟨j, hg, hj1, rfl, HLO⟩ := hrel
                by_cases hj : j < 4
                · have b7 := HLO.out.own
                  unfold ocells at b7
                  have HG2 := Hd.mk hg
                  clear hg
                  have d0 := b7.cell 0
                  have d1 := b7.cell 1
                  have d2 := b7.cell 2
                  have d3 := b7.cell 3
                  simp only [List.getElem?_cons_zero, List.getElem?_cons_succ] at d0 d1 d2 d3
                  clear b7
                  go_upto_region 44 with (fail)
                  clear d0 d1 d2 d3
                  obtain ⟨gv, hgv⟩ : ∃ gv, gv = gk - 1 := ⟨_, rfl⟩
                  have HGV := Hd.mk (And.intro hgv HG2.out)
                  clear hgv
                  go_loopg [19, 21, 169] 4 (fun g s19 s21 ii wq => ∃ k : Nat, g + k = 4 ∧ ii = .int .i64 k ∧ s19 = .int .i64 (heldN o j k) ∧ wq = wr)
                  case atStart => exact ⟨0, rfl, rfl, rfl, rfl⟩
                  case round =>
                    obtain ⟨k, hg, rfl, rfl, rfl⟩ := hrel
                    by_cases hk : k < 4
                    · have hix := index_ow o k hk
                      have HN := Hd.mk (heldN_succ o j k)
                      have hle := heldN_le o j k
                      obtain ⟨h, hh⟩ : ∃ h, heldN o j k = h := ⟨_, rfl⟩
                      rw [hh] at HN hle
                      rw [hh]
                      obtain ⟨x, hx⟩ : ∃ x, o k = x := ⟨_, rfl⟩
                      rw [hx] at hix HN
                      clear hh hx
                      by_cases h2 : x = (j : Int)
                      · have d2 : (x == (j : Int)) = true := by simpa using h2
                        go_wp2_with fail
                        go_roundg (gk - 1)
                        case measure => omega
                        case rel => exact ⟨k + 1, by omega, by go_num, by rw [HN.out, if_pos ⟨by omega, by omega⟩]; go_num, rfl⟩
                      · have d2 : (x == (j : Int)) = false := by simpa using h2
                        go_wp2_with fail
                        go_roundg (gk - 1)
                        case measure => omega
                        case rel => exact ⟨k + 1, by omega, by go_num, by rw [HN.out, if_neg (fun q => h2 q.2)]; go_num, rfl⟩
                    · obtain rfl : k = 4 := by omega
                      clear hk hg
                      have HH := Hd.mk (heldN_le o j 4)
                      by_cases h4 : heldN o j 4 = 4
                      · have hls := list_ok HLO.out.sto HLO.out.le j ⟨#[]⟩ h4
                        have HLS := Hd.mk hls
                        rw [h4]
                        have H4 := Hd.mk h4
                        clear hls h4
                        go_wp2_with fail
                        refine HLS.out.mono ?_
                        rintro e w7 ⟨v, ks, rfl, -, u7', -, -⟩
                        have HLO := Hd.mk (HLO.out.up u7')
                        clear u7'
                        go_wp2_with fail
                        refine (held_ok HLO.out.sto j).mono ?_
                        rintro e w8 ⟨rfl, rfl⟩
                        rw [H4.out]
                        go_wp2_with fail
                        go_roundg gv
                        case measure => have := HGV.out; omega
                        case rel => exact ⟨j + 1, by have := HGV.out; omega, by omega, by go_num, HLO⟩
                      · have hls := list_bad HLO.out.sto j ⟨#[]⟩ h4
                        have HLS := Hd.mk hls
                        obtain ⟨h, hh⟩ : ∃ h, heldN o j 4 = h := ⟨_, rfl⟩
                        rw [hh] at h4
                        rw [hh]
                        have H4 := Hd.mk hh
                        have e4 : ((h : Int) == 4) = false := by rw [beq_eq_false_iff_ne]; omega
                        have e5 : ((h : Int) == (h : Int)) = true := by simp
                        clear hls h4 hh
                        go_wp2_with fail
                        refine HLS.out.mono ?_
                        rintro e w7 ⟨rfl, rfl⟩
                        go_wp2_with fail
                        refine (held_ok HLO.out.sto j).mono ?_
                        rintro e w8 ⟨rfl, rfl⟩
                        rw [H4.out]
                        go_wp2_with fail
                        go_roundg gv
                        case measure => have := HGV.out; omega
                        case rel => exact ⟨j + 1, by have := HGV.out; omega, by omega, by go_num, HLO⟩
                · obtain rfl : j = 4 := by omega
                  clear hj hj1 hg
                  go_wp2_with fail
                  go_roundg gq
                  case measure => have := HGQ.out; omega
                  case rel => exact ⟨i + 1, o, m, n, by have := HGQ.out; omega, by go_num, HLO⟩
      · obtain rfl : i = N := by omega
        go_wp2_with fail
        refine (held_ok HLO.out.sto 0).mono ?_
        rintro e w7 ⟨rfl, rfl⟩
        rw [show heldN o 0 4 = 0 from rfl]
        go_wp2_with fail
        refine (held_ok HLO.out.sto (-1)).mono ?_
        rintro e w8 ⟨rfl, rfl⟩
        rw [show heldN o (-1) 4 = 0 from rfl]
        go_wp2_with fail
        go_ret
        exact ⟨rfl, HU.out.trans HLO.out.sto.upd (by simp)⟩
theorem locks_row (a : Option Addr) (len cap : Nat) (w : World) (hT : Tb w) (hz : Leaf.ok w (.sl [.int .i64, .int .i64, .int .i64, .str, .str, .int .i64]) (.slice a len cap)) :
    Calls Tryd.prog 9 #[.slice a len cap] w fun e w' => e = .returned (.bool true) ∧ Below w.heap.size w w' := by
  obtain ⟨C, hR, hsh, hn⟩ := leaf_rdc hz
  exact (locks_walk a len cap C w hR hn hsh hT).mono fun _ _ h => ⟨h.1, h.2.nil_below⟩
end Go.Proofs.YtncahmodmgbacaaDoor
