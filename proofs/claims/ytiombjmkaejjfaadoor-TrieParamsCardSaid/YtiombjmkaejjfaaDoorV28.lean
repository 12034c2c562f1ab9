/- Tries: TrieParams. -/
import Derived.Test.YtiombjmkaejjfaaDoorV27
import Derived.Test.YtiombjmkaejjfaaDoorBs
import Derived.Test.YtiombjmkaejjfaaDoorAp3
import Derived.BigRegion
namespace Go.Proofs.YtiombjmkaejjfaaDoor
set_option linter.unusedSimpArgs false
set_option linter.unusedVariables false
set_option linter.unnecessarySimpa false
open Go.RowKit BigFrame

theorem all_one (l : List Bs) : (Ss l).all (·.oneCell') = true := by
  unfold Ss
  rw [List.all_map, List.all_eq_true]
  intro x _
  rfl
theorem eq_param (k : ByteArray × ByteArray) (w : World) : (Op.equal 40 (.agg #[.string k.1, .string k.2]) (.agg #[.string k.1, .string k.2])).run Tryd.prog w = .ok true w := by
  unfold Op.equal
  show (Op.equalIn 10000 _ _ _).run _ _ = _
  go_simp
theorem ne_param (k : ByteArray × ByteArray) (w : World) : (binOp .neq 40 (.agg #[.string k.1, .string k.2]) (.agg #[.string k.1, .string k.2])).run Tryd.prog w = .ok (.bool false) w := by
  have := eq_param k w
  simp [binOp, this]
theorem run_byte (k : Nat) (W : World) (b : Nat) (hb : Blk W b [B8 (48 + k)] 5) : (convert 38 9 (.slice (some ⟨b, 0, none⟩) 1 1)).run Tryd.prog W = .ok (.string ⟨#[digP k]⟩) W :=
  run_string_sl 38 5 Tryd.underlying38 Tryd.underlying5 (l := [48 + k]) (hb.sl 1 1 rfl (by decide)) 9 Tryd.underlying9
/-- The map that tells true. -/
def MTrue (W : World) (b : Nat) : Prop := ∃ L : List (Bool × Value × Nat), Mp W b (fun k => .bool k) L ∧ ∀ k, get L k = if k = true then some (.int .i64 1) else none
theorem MTrue.upd {S : List Nat} {W W' : World} {b : Nat} (h : MTrue W b) (hu : Upd S W W') (hb : b ∉ S) : MTrue W' b := by
  obtain ⟨L, h1, h2⟩ := h
  exact ⟨L, h1.upd hu hb, h2⟩
theorem MTrue.look {W : World} {b : Nat} (h : MTrue W b) (k : Bool) : (Instr.lookup 37 (.map (some b)) (.bool k) false).run Tryd.prog W = .ok (.int .i64 (if k = true then 1 else 0)) W := by
  obtain ⟨L, h1, h2⟩ := h
  have := run_lookup_mp (P := Tryd.prog) (keyLaw_bool Tryd.underlying4) 37 Tryd.underlying37 (.int .i64 0) (fun W => by kernel_rfl) h1 k false
  rw [this, h2 k]
  cases k <;> rfl
theorem run_pick (W : World) (k : Bool) : (Instr.index 36 (.agg #[.string ⟨#[58]⟩, .string ⟨#[42]⟩]) (.int .i64 (if k = true then 1 else 0))).run Tryd.prog W = .ok (.string ⟨#[if k = true then 42 else 58]⟩) W := by
  cases k <;> kernel_rfl
theorem run_ins (W : World) (b : Nat) (h : Mp W b (fun k : Bool => .bool k) []) : ∃ W', (Instr.mapUpdate 37 (.map (some b)) (.bool true) (.int .i64 1)).run Tryd.prog W = .ok () W' ∧ MTrue W' b ∧ Upd [b] W W' := by
  obtain ⟨c, w', h1, h2, h3⟩ := run_update_mp (P := Tryd.prog) (keyLaw_bool Tryd.underlying4) 37 Tryd.underlying37 h true (.int .i64 1)
  exact ⟨w', h1, ⟨_, h2, fun k => by rw [get_put, get_nil]⟩, h3⟩
set_option maxRecDepth 100000 in
set_option maxHeartbeats 4000000 in
theorem params_row (a0 : Option Addr) (len0 cap0 : Nat) (rest : Bool) (w : World) (hT : HTab w) (w0 : Leaf.ok w (.sl [.str]) (.slice a0 len0 cap0)) :
    Calls Tryd.prog 4 #[.slice a0 len0 cap0, .bool rest] w fun e w' => e = .returned (.bool true) ∧ Below w.heap.size w w' := by
  obtain ⟨l, rfl, hl, hn, hz⟩ := leaf_texts w0
  have HL := Hd.mk hl
  have HZ := Hd.mk hz
  have HT := Hd.mk hT
  clear hT w0 hl hz
  go_enter Tryd.func4, Tryd.ntmps4
  go_wp2_with fail
  refine (fit_ok w HT.out).mono ?_
  rintro e w1 ⟨rfl, u1⟩
  have HU := Hd.mk u1
  clear u1
  by_cases h0 : l.length = 0
  · have d0 : ((l.length : Int) == 0) = true := by rw [beq_iff_eq]; omega
    go_wp2_with fail
    go_ret
    exact ⟨rfl, HU.out.below _ (Nat.le_refl _) (by simp)⟩
  have d0 : ((l.length : Int) == 0) = false := by rw [beq_eq_false_iff_ne]; omega
  by_cases h7 : 7 < l.length
  · have d1 : decide ((7 : Int) < l.length) = true := decide_eq_true (by omega)
    go_wp2_with fail
    go_ret
    exact ⟨rfl, HU.out.below _ (Nat.le_refl _) (by simp)⟩
  have d1 : decide ((7 : Int) < l.length) = false := decide_eq_false (by omega)
  go_wp2_with fail
  refine (light_ok l (.slice a0 l.length cap0) w1 (HL.out.upd HU.out (by simp)) hn HZ.out).mono ?_
  rintro e w2 ⟨b, rfl, hb, rfl⟩
  cases b with
  | false =>
    go_wp2_with fail
    go_ret
    exact ⟨rfl, HU.out.below _ (Nat.le_refl _) (by simp)⟩
  | true =>
  have HB := Hd.mk (hb rfl)
  clear hb
  have HN := Hd.mk (show 1 ≤ l.length ∧ l.length ≤ 7 by omega)
  have hn7 : l.length ≤ 7 := by omega
  clear d0 d1 h0 h7 hn
  go_upto_region 7 with (fail)
  go_loopg [5, 6, 7, 32] l.length (fun g s5 s6 s7 ii wr => ∃ k : Nat, g + k = l.length ∧ ii = .int .i64 k ∧ s5 = S (parP rest l.length k) ∧ Hd (∀ x ∈ l.take k, x ≠ []) ∧ Hd (Upd [] w wr))
  case atStart => exact ⟨0, by omega, rfl, rfl, Hd.mk (by simp), HU⟩
  case round =>
    obtain ⟨k, hg, rfl, rfl, HE, HU⟩ := hrel
    have HG := Hd.mk hg
    clear hg
    by_cases hk : k < l.length
    · obtain ⟨b, off, cap, hv, -, -, hc⟩ := (HL.out.upd HU.out (by simp)).some (by omega)
      simp only [Value.slice.injEq, true_and] at hv
      obtain ⟨rfl, rfl⟩ := hv
      have k0 := hc k (by omega)
      rw [List.getElem?_map, List.getElem?_eq_getElem hk] at k0
      obtain ⟨s, hs, hsx, -⟩ := S_ex l[k]
      rw [Option.map_some, hs] at k0
      clear hc hs
      by_cases he : s = ⟨#[]⟩
      · have y := str_eq0 he
        go_wp2_with fail
        go_ret
        exact ⟨rfl, HU.out.below _ (Nat.le_refl _) (by simp)⟩
      have y := str_ne0 he
      have HS := Hd.mk hsx
      have HSE := Hd.mk he
      clear hsx he
      have d2 : ((k : Int) == (l.length : Int) - 1) = decide (k + 1 = l.length) := by
        rw [Bool.eq_iff_iff, beq_iff_eq, decide_eq_true_iff]; omega
      go_upto_region 11 with (fail)
      obtain ⟨pt, hpt⟩ : ∃ t : ByteArray, S (parP rest l.length k) = .string t := ⟨_, rfl⟩
      rw [hpt]
      have hmm := @run_makeMap Tryd.prog
      have hps : pt.size = 4 * k := by
        have h1 := parP_len rest l.length k
        unfold S at hpt
        simp only [Value.string.injEq] at hpt
        rw [← hpt, ← h1]
        simp [ByteArray.size]
      have s1 : ¬ 9223372036854775807 < pt.size + 4 := by have := HN.out; omega
      have HPT := Hd.mk hpt
      clear hpt hps
      have hz : 48 + (k : Int) = ((48 + k : Nat) : Int) := by omega
      have CV := fun (W : World) (b : Nat) (hb : Blk W b [.int .u8 (48 + (k : Int))] 5) => run_byte k W b (by rw [hz] at hb; exact hb)
      clear hz
      have NB := fun (W : World) => (Blk.new W [.int .u8 (48 + (k : Int))] 5 _ rfl)
      have V1 := CV (wr.alloc (.cells #[Value.int IntKind.u8 (48 + (k : Int))] 5)).drew _ ((NB wr).drewN 1)
      have M0 := fun (W : World) => Mp.new W (fun k : Bool => Value.bool k)
      obtain ⟨X1, i1, l1, p1⟩ := run_ins (wr.alloc (.map #[] 0)).drew wr.heap.size ((M0 wr).upd ((Upd.refl [] _).drew) (by simp))
      obtain ⟨X2, i2, l2, p2⟩ := run_ins ((wr.alloc (.map #[] 0)).alloc (.cells #[Value.int IntKind.u8 (48 + (k : Int))] 5)).drew wr.heap.size ((M0 wr).upd (((Upd.refl [] _).alloc _).drew) (by simp))
      obtain ⟨X3, i3, l3, p3⟩ := run_ins ((wr.alloc (.cells #[Value.int IntKind.u8 (48 + (k : Int))] 5)).alloc (.map #[] 0)).drew (wr.heap.size + 1) (by
        have := (M0 (wr.alloc (.cells #[Value.int IntKind.u8 (48 + (k : Int))] 5))).upd ((Upd.refl [] _).drew) (by simp)
        rw [show (wr.alloc (.cells #[Value.int IntKind.u8 (48 + (k : Int))] 5)).heap.size = wr.heap.size + 1 by show (wr.heap.push _).size = _; rw [Array.size_push]] at this
        exact this)
      have b2 : Blk ((wr.alloc (.map #[] 0)).alloc (.cells #[Value.int IntKind.u8 (48 + (k : Int))] 5)).drew (wr.heap.size + 1) [.int .u8 (48 + (k : Int))] 5 := by
        have := (NB (wr.alloc (.map #[] 0))).drewN 1
        rw [show (wr.alloc (.map #[] 0)).heap.size = wr.heap.size + 1 by show (wr.heap.push _).size = _; rw [Array.size_push]] at this
        exact this
      have b3 : Blk ((wr.alloc (.cells #[Value.int IntKind.u8 (48 + (k : Int))] 5)).alloc (.map #[] 0)).drew wr.heap.size [.int .u8 (48 + (k : Int))] 5 := ((Upd.refl [] _).alloc _).drew.blk (NB wr) (by simp)
      have V2 := CV _ _ b2
      have V3 := CV _ _ b3
      have V4 := CV _ _ (p2.blk b2 (by simp))
      have V5 := CV _ _ (p3.blk b3 (by simp))
      have V6 := CV _ _ (NB X1)
      have HX1 := Hd.mk (HU.out.trans ((((Upd.refl [] wr).alloc (.map #[] 0)).drew.trans p1 (by intro k hk hm; simp at hm; omega)).alloc (.cells #[Value.int IntKind.u8 (48 + (k : Int))] 5)) (by simp))
      have HX2 := Hd.mk (HU.out.trans ((((Upd.refl [] wr).alloc (.map #[] 0)).alloc (.cells #[Value.int IntKind.u8 (48 + (k : Int))] 5)).drew.trans p2 (by intro k hk hm; simp at hm; omega)) (by simp))
      have HX3 := Hd.mk (HU.out.trans ((((Upd.refl [] wr).alloc (.cells #[Value.int IntKind.u8 (48 + (k : Int))] 5)).alloc (.map #[] 0)).drew.trans p3 (by intro k hk hm; simp at hm; omega)) (by simp))
      have HS5 := Hd.mk (show ∀ c : UInt8, (if rest && decide (k + 1 = l.length) then 42 else 58) = c → Value.string (pt ++ ({ data := #[47] } ++ { data := #[c] } ++ { data := #[110] } ++ { data := #[digP k] })) = S (parP rest l.length (k + 1)) from by
        rintro c rfl
        refine S_of ?_
        rw [parP_succ]
        have : pt.data.toList = parP rest l.length k := by
          have h := HPT.out
          unfold S at h
          simp only [Value.string.injEq] at h
          rw [← h]
        simp [this, parS])
      have HE' := Hd.mk (show ∀ x ∈ l.take (k + 1), x ≠ [] from fun x hx => by
        rw [List.take_succ_eq_append_getElem hk, List.mem_append, List.mem_singleton] at hx
        rcases hx with hx | rfl
        · exact HE.out x hx
        · intro e
          have h1 := HS.out
          rw [e] at h1
          apply HSE.out
          rw [← mk_data s, h1])
      cases rest with
      | false =>
        have q1 := l1.look false
        have q2 := l2.look false
        have q3 := l3.look false
        have q4 := (l1.upd ((Upd.refl [] X1).alloc (.cells #[Value.int IntKind.u8 (48 + (k : Int))] 5)) (by simp)).look false
        have q5 := fun W => run_pick W false
        simp only [Bool.false_eq_true, if_false] at q1 q2 q3 q4 q5
        clear CV NB M0 b2 b3 l1 l2 l3 p1 p2 p3
        go_region
        all_goals
          go_wp2_with fail
          go_roundg (gk - 1)
          case measure => have := HG.out; omega
          case rel => exact ⟨k + 1, by have := HG.out; omega, by go_num, HS5.out 58 rfl, HE', by first | exact HX1 | exact HX2 | exact HX3⟩
      | true =>
        by_cases hkl : k + 1 = l.length
        · rw [decide_eq_true hkl] at d2
          have q1 := l1.look true
          have q2 := l2.look true
          have q3 := l3.look true
          have q4 := (l1.upd ((Upd.refl [] X1).alloc (.cells #[Value.int IntKind.u8 (48 + (k : Int))] 5)) (by simp)).look true
          have q5 := fun W => run_pick W true
          simp only [if_true] at q1 q2 q3 q4 q5
          clear CV NB M0 b2 b3 l1 l2 l3 p1 p2 p3
          have HKL := Hd.mk hkl
          clear hkl
          go_region
          all_goals
            go_wp2_with fail
            go_roundg (gk - 1)
            case measure => have := HG.out; omega
            case rel => exact ⟨k + 1, by have := HG.out; omega, by go_num, HS5.out 42 (by rw [decide_eq_true HKL.out]; rfl), HE', by first | exact HX1 | exact HX2 | exact HX3⟩
        · rw [decide_eq_false hkl] at d2
          have q1 := l1.look false
          have q2 := l2.look false
          have q3 := l3.look false
          have q4 := (l1.upd ((Upd.refl [] X1).alloc (.cells #[Value.int IntKind.u8 (48 + (k : Int))] 5)) (by simp)).look false
          have q5 := fun W => run_pick W false
          simp only [Bool.false_eq_true, if_false] at q1 q2 q3 q4 q5
          clear CV NB M0 b2 b3 l1 l2 l3 p1 p2 p3
          have HKL := Hd.mk hkl
          clear hkl
          go_region
          all_goals
            go_wp2_with fail
            go_roundg (gk - 1)
            case measure => have := HG.out; omega
            case rel => exact ⟨k + 1, by have := HG.out; omega, by go_num, HS5.out 58 (by rw [decide_eq_false HKL.out]; rfl), HE', by first | exact HX1 | exact HX2 | exact HX3⟩
    · obtain rfl : k = l.length := by have := HG.out; omega
      clear hk
      rw [List.take_length] at HE
      have HSP := Hd.mk (show S (parP rest l.length l.length) = .string ⟨(parP rest l.length l.length).toArray⟩ from rfl)
      unfold S
      obtain ⟨pt, hpt⟩ : ∃ t : ByteArray, (⟨(parP rest l.length l.length).toArray⟩ : ByteArray) = t := ⟨_, rfl⟩
      rw [hpt] at HSP ⊢
      clear hpt
      clear HG
      go_wp2_with fail
      have hsl : Sl (wr.alloc (.cells #[.string ⟨#[71, 69, 84]⟩, .string pt, .string ⟨#[103, 101, 116]⟩] 26)) 26 3 (.slice (some ⟨wr.heap.size, 0, none⟩) 1 1) [parR rest l.length].length ([parR rest l.length].flatMap Rt.cells) := by
        have h1 := (Blk.new wr [.string ⟨#[71, 69, 84]⟩, .string pt, .string ⟨#[103, 101, 116]⟩] 26 _ rfl).sl 3 1 rfl (by decide)
        have h2 : [parR rest l.length].flatMap Rt.cells = [.string ⟨#[71, 69, 84]⟩, .string pt, .string ⟨#[103, 101, 116]⟩] := by
          rw [← HSP.out]
          simp [Rt.cells, parR, gET, S]
        rw [h2]
        exact h1
      refine (Tr.with_ (.pointer none) _ [] [parR rest l.length] _ (Tr.nil _) hsl (fun r hr => by rw [List.mem_singleton] at hr; subst hr; exact par_rgt rest _ HN.out.1 HN.out.2) (by simp)).mono ?_
      rintro e w3 ⟨tb, rfl, htr, hu⟩
      have HTR := Hd.mk (show Tr w3 (.pointer (some ⟨tb, 0, none⟩)) [parR rest l.length] from htr)
      have HU := Hd.mk (HU.out.trans (((Upd.refl [] wr).alloc _).trans hu (by simp)) (by simp))
      have HM1 := Hd.mk (par_mt rest l HN.out.1 HN.out.2 HE.out)
      have HM2 := Hd.mk (par_mt2 rest l HN.out.1 HN.out.2 HE.out)
      have hsz : sumL l ≤ 2000 ∧ sumL (l ++ [mORE]) ≤ 2000 := by
        have := HB.out.1
        simp only [sumL, sumB, List.map_append, List.sum_append, List.length_append] at *
        constructor
        · omega
        · simp [mORE]; omega
      have HSZ := Hd.mk hsz
      clear hsl htr hu hsz HSP
      obtain ⟨R, hR⟩ : ∃ R, [parR rest l.length] = R := ⟨_, rfl⟩
      rw [hR] at HTR HM1 HM2
      have hR1 : R.length = 1 := by rw [← hR]; rfl
      clear hR
      go_wp2_with fail
      refine (Tr.match_ (.pointer (some ⟨tb, 0, none⟩)) (.slice a0 l.length cap0) R gET l w3 HTR.out (HL.out.upd HU.out (by simp)) (by have := HSZ.out; omega) (by omega) (by omega)).mono ?_
      rintro e w4 ⟨mv, rfl, hmv, hu⟩
      rw [HM1.out.1]
      obtain ⟨pv, av, rfl, hp, ha⟩ := hmv
      obtain ⟨pa, pc, rfl, -⟩ := id hp
      have HP := Hd.mk hp
      obtain ⟨aa, ac, rfl, -⟩ := ha
      have HTR := Hd.mk (HTR.out.upd hu)
      have HU := Hd.mk (HU.out.trans hu (by simp))
      have hPl : (mtL R gET l).1.P.length = l.length := by rw [HM1.out.2]; simp
      have HM1 := Hd.mk HM1.out.2
      obtain ⟨P, hP⟩ : ∃ P, (mtL R gET l).1.P = P := ⟨_, rfl⟩
      obtain ⟨hh, hhh⟩ : ∃ hh : ByteArray, S (mtL R gET l).1.h = .string hh := ⟨_, rfl⟩
      generalize (mtL R gET l).1.A.length = al
      rw [hhh]
      rw [hP] at HP HM1 hPl ⊢
      rw [hPl] at HP ⊢
      clear hp hu hP hhh
      go_upto_region 16 with (fail)
      refine wp_abs (fun W => Blk W w4.heap.size [.string hh, .slice pa l.length pc, .slice aa al ac] 30 ∧ Upd [] w4 W) ⟨Blk.new w4 _ _ _ rfl, (Upd.refl [] w4).alloc _⟩ ?_
      have HMB := Hd.mk (show w.heap.size ≤ w4.heap.size from HU.out.size)
      generalize w4.heap.size = mb at HMB
      rintro w5 ⟨bm, u5⟩
      have HTR := Hd.mk (HTR.out.upd u5)
      have HP := Hd.mk (HP.out.upd u5)
      have HU := Hd.mk (HU.out.trans u5 (by simp))
      have HBM := Hd.mk bm
      have HL5 := HL.out.upd HU.out (by simp)
      clear bm u5
      go_wp2_with (at_builtin; refine wpList_append_rds rfl (.const (.slice none 0 0)) (.tmp 76) 23 rfl 9 (.string ⟨#[]⟩) 1 16 Tryd.underlying23 (by kernel_rfl) rfl _ 0 [] rfl (Sl.nil _ _ _) _ l.length (l.map S) rfl HL5 (all_one l) (by omega) (by omega) ?_)
      intro v6 w6 s6 u6 o6
      have B6 := (Bld.nil (Upd.refl [] w5) 9 1).app s6 u6 o6
      obtain ⟨a6, c6, rfl⟩ := s6.form
      clear s6 u6 o6
      have HB6 := Hd.mk B6
      have hsl := B6.sl
      clear B6
      go_wp2_with (at_builtin; refine wpList_append_row rfl (.tmp 77) (.tmp 78) 23 rfl rfl 9 (.string ⟨#[]⟩) 1 16 Tryd.underlying23 (by kernel_rfl) rfl _ _ _ rfl hsl [.string ⟨#[109, 111, 114, 101]⟩] rfl rfl rfl (by omega) (by omega) ?_)
      intro v7 w7 s7 u7 o7
      have B7 := HB6.out.app s7 u7 o7
      obtain ⟨a7, c7, rfl⟩ := s7.form
      have hrd : RdS w7 1 (.slice a7 (l ++ [mORE]).length c7) (l ++ [mORE]).length ((l ++ [mORE]).map S) := by
        have := s7.rs
        simpa [mORE, S] using this
      have hle : (l ++ [mORE]).length = l.length + 1 := by simp
      rw [hle] at hrd
      have HTR := Hd.mk (HTR.out.upd B7.upd)
      have HP := Hd.mk (HP.out.upd B7.upd)
      have HBM := Hd.mk (B7.upd.blk HBM.out (by simp))
      have HU := Hd.mk (HU.out.trans B7.upd (by simp))
      clear HL5 hsl HB6 s7 u7 o7 B7
      go_wp2_with fail
      refine (Tr.match_ (.pointer (some ⟨tb, 0, none⟩)) (.slice a7 (l.length + 1) c7) R gET (l ++ [mORE]) w7 HTR.out (by rw [hle]; exact hrd) (by have := HSZ.out; omega) (by omega) (by omega)).mono ?_
      rintro e w8 ⟨mv, rfl, hmv, hu⟩
      rw [HM2.out.1]
      obtain ⟨pv2, av2, rfl, hp2, ha2⟩ := hmv
      obtain ⟨pa2, pc2, rfl, -⟩ := id hp2
      have HP2 := Hd.mk hp2
      obtain ⟨aa2, ac2, rfl, -⟩ := ha2
      have HP := Hd.mk (HP.out.upd hu)
      have HBM := Hd.mk (hu.blk HBM.out (by simp))
      have HU := Hd.mk (HU.out.trans hu (by simp))
      have HM2 := Hd.mk HM2.out.2
      obtain ⟨P2, hP2⟩ : ∃ P, (mtL R gET (l ++ [mORE])).1.P = P := ⟨_, rfl⟩
      obtain ⟨hh2, hhh2⟩ : ∃ hh : ByteArray, S (mtL R gET (l ++ [mORE])).1.h = .string hh := ⟨_, rfl⟩
      generalize (mtL R gET (l ++ [mORE])).1.A.length = al2
      rw [hhh2]
      rw [hP2] at HP2 HM2 ⊢
      clear hrd hle hu hP2 hhh2 hp2 HTR
      go_upto_region 17 with (fail)
      refine wp_abs (fun W => Blk W w8.heap.size [.string hh2, .slice pa2 P2.length pc2, .slice aa2 al2 ac2] 30 ∧ Upd [] w8 W) ⟨Blk.new w8 _ _ _ rfl, (Upd.refl [] w8).alloc _⟩ ?_
      generalize w8.heap.size = mb2
      rintro w9 ⟨bm2, u9⟩
      have HP := Hd.mk (HP.out.upd u9)
      have HP2 := Hd.mk (HP2.out.upd u9)
      have HBM := Hd.mk (And.intro (u9.blk HBM.out (by simp)) bm2)
      have HU := Hd.mk (HU.out.trans u9 (by simp))
      have bm := HBM.out.1
      have c0 := bm.cell 0
      have c1 := bm.cell 1
      have c2 := bm.cell 2
      simp only [List.getElem?_cons_zero, List.getElem?_cons_succ] at c0 c1 c2
      clear bm2 u9 bm
      have d3 : ((l.length : Int) == l.length) = true := by simp
      have d4 : (rest == rest) = true := by simp
      go_upto_region 20 with (fail)
      obtain ⟨pb, po, rfl⟩ : ∃ b o, pa = some ⟨b, o, none⟩ := by
        obtain ⟨_, _, hv, h⟩ := HP.out
        simp only [Value.slice.injEq] at hv
        obtain ⟨b, o, h2, -⟩ := h (by have := HN.out; omega)
        exact ⟨b, o, by rw [hv.1]; exact h2⟩
      go_loopg [13, 14, 100] l.length (fun g s13 s14 ii wr => ∃ k : Nat, g + k = l.length ∧ ii = .int .i64 k ∧ Hd (Upd [] w9 wr))
      case atStart => exact ⟨0, by omega, rfl, Hd.mk (Upd.refl _ _)⟩
      case round =>
        obtain ⟨k, hg, rfl, HV⟩ := hrel
        have HG := Hd.mk hg
        clear hg c0 c1 c2
        by_cases hk : k < l.length
        · obtain ⟨b, off, cap, hv, -, -, hc⟩ := (HL.out.upd (HU.out.trans HV.out (by simp)) (by simp)).some (by omega)
          simp only [Value.slice.injEq, true_and] at hv
          obtain ⟨rfl, rfl⟩ := hv
          have k0 := hc k (by omega)
          rw [List.getElem?_map, List.getElem?_eq_getElem hk] at k0
          obtain ⟨s, hs, hsx, -⟩ := S_ex l[k]
          rw [Option.map_some, hs] at k0
          have m1 := (HV.out.blk HBM.out.1 (by simp)).cell 1
          simp only [List.getElem?_cons_zero, List.getElem?_cons_succ] at m1
          have hkp : k < P.length := by omega
          have hpk : P[k] = ([110, digP k], l[k]) := by
            have := HM1.out
            subst this
            simp [hk]
          obtain ⟨_, _, hv, hpc⟩ := HP.out.upd HV.out
          simp only [Value.slice.injEq, hPl, true_and] at hv
          obtain ⟨_, _, he, hplt, hpc⟩ := hpc (by omega)
          rw [← hv.1] at he
          simp only [Option.some.injEq, Addr.mk.injEq] at he
          obtain ⟨rfl, rfl, -⟩ := he
          obtain ⟨p0, p1⟩ := hpc k hkp
          rw [hpk] at p0 p1
          simp only [S] at p0
          rw [hs] at p1
          have hz : 48 + (k : Int) = ((48 + k : Nat) : Int) := by omega
          have V1 := run_byte k (wr.alloc (.cells #[Value.int IntKind.u8 (48 + (k : Int))] 5)).drew _ (by rw [hz]; exact (Blk.new wr [B8 (48 + k)] 5 _ rfl).drewN 1)
          have hlt := HV.out.blk HBM.out.1 (by simp) |>.lt
          have UA := ((Upd.refl [] wr).alloc (.cells #[Value.int IntKind.u8 (48 + (k : Int))] 5)).drew
          have m1' := (UA.cell (p := ⟨mb, 1, none⟩) hlt (by simp)).trans m1
          have p0' := (UA.cell (p := ⟨pb, po + k * 2, none⟩) hplt (by simp)).trans p0
          have p1' := (UA.cell (p := ⟨pb, po + k * 2 + 1, none⟩) hplt (by simp)).trans p1
          have e1 : (({ data := #[110] } : ByteArray) ++ { data := #[digP k] }) = { data := #[110, digP k] } := rfl
          have e2 := ne_param (⟨#[110, digP k]⟩, s) (wr.alloc (.cells #[Value.int IntKind.u8 (48 + (k : Int))] 5)).drew
          clear hc hs hpc hv hpk hz hlt UA hplt
          go_upto_region 22 with (fail)
          go_region
          all_goals
            go_wp2_with fail
            go_roundg (gk - 1)
            case measure => have := HG.out; omega
            case rel => exact ⟨k + 1, by have := HG.out; omega, by go_num, Hd.mk (HV.out.trans ((((Upd.refl [] wr).alloc _)).drew) (by simp))⟩
        · obtain rfl : k = l.length := by have := HG.out; omega
          have HW := Hd.mk (HU.out.trans HV.out (by simp))
          cases rest with
          | false =>
            clear hk
            go_upto_region 25 with (fail)
            go_region
            all_goals
              go_wp2_with fail
              go_ret
              exact ⟨rfl, HW.out.drew.below _ (Nat.le_refl _) (by simp)⟩
          | true =>
            obtain ⟨n, hn⟩ : ∃ n, l.length = n + 1 := ⟨l.length - 1, by have := HN.out; omega⟩
            obtain ⟨b, off, cap, hv, -, -, hc⟩ := (HL.out.upd HW.out (by simp)).some (by omega)
            simp only [Value.slice.injEq, true_and] at hv
            obtain ⟨rfl, rfl⟩ := hv
            have k0 := hc n (by omega)
            rw [List.getElem?_map, List.getElem?_eq_getElem (show n < l.length by omega)] at k0
            obtain ⟨s, hs, hsx, hsz⟩ := S_ex l[n]
            rw [Option.map_some, hs] at k0
            have m1 := (HV.out.blk HBM.out.2 (by simp)).cell 1
            simp only [List.getElem?_cons_zero, List.getElem?_cons_succ] at m1
            obtain ⟨g1, g2⟩ := HM2.out rfl
            rw [hn, Nat.add_sub_cancel] at g2
            obtain ⟨_, _, hv, hpc⟩ := HP2.out.upd HV.out
            simp only [Value.slice.injEq, true_and] at hv
            obtain ⟨pb2, po2, he, hplt, hpc⟩ := hpc (by omega)
            rw [← hv.1] at he
            subst he
            have p1 := (hpc n (by omega)).2
            have hp2 : P2[n].2 = l[n] ++ 47 :: mORE := by
              rw [List.getD_eq_getElem?_getD, List.getElem?_eq_getElem (show n < P2.length by omega), List.getD_eq_getElem?_getD, List.getElem?_eq_getElem (show n < l.length by omega)] at g2
              exact g2
            rw [hp2, ← hsx] at p1
            have hz2 : s.size ≤ 1000 := by
              have h1 := HB.out.1
              have h2 := sumB_snoc l n (by omega)
              rw [List.take_of_length_le (by omega)] at h2
              omega
            have q1 : ¬ 9223372036854775807 < s.size + 5 := by omega
            have hn1 : ((l.length : Int) - 1) = n := by omega
            obtain ⟨t, ht, htx⟩ : ∃ t : ByteArray, S (s.data.toList ++ 47 :: mORE) = .string t ∧ t = s ++ { data := #[47, 109, 111, 114, 101] } := ⟨_, rfl, by
              apply ByteArray.ext
              apply Array.ext'
              simp [mORE]⟩
            rw [ht] at p1
            subst htx
            have hq := str_yes (rfl : s ++ { data := #[47, 109, 111, 114, 101] } = s ++ { data := #[47, 109, 111, 114, 101] })
            rw [g1] at m1
            clear hk hc hs hpc hv hp2 g2 hplt hsx hsz ht
            go_upto_region 25 with (fail)
            go_region
            all_goals
              go_wp2_with fail
              go_ret
              exact ⟨rfl, HW.out.drew.below _ (Nat.le_refl _) (by simp)⟩
end Go.Proofs.YtiombjmkaejjfaaDoor
