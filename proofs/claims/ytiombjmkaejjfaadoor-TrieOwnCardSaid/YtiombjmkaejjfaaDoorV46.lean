/- Tries: TrieOwn. -/
import Derived.Test.YtiombjmkaejjfaaDoorV32
import Derived.Test.YtiombjmkaejjfaaDoorV45
import Derived.Deep.DeepCutAuto
namespace Go.Proofs.YtiombjmkaejjfaaDoor
set_option linter.unusedSimpArgs false
set_option linter.unusedVariables false
set_option linter.unnecessarySimpa false
open Go.RowKit BigFrame

theorem MV_h {w : World} {hh : ByteArray} {pv av : Value} {m : Mt} (h : MV w (.agg #[.string hh, pv, av]) m) : hh = ⟨m.h.toArray⟩ := by
  obtain ⟨_, _, e, -, -⟩ := h
  simp only [S, Value.agg.injEq, Array.mk.injEq, List.cons.injEq, Value.string.injEq, and_true] at e
  exact e.1

theorem seg_at {p : ByteArray} {t : Bs} {i : Nat} {c : UInt8} (hp : p.data.toList = 47 :: t) (h1 : 1 ≤ i) (hb : p.data.toList[i]? = some c) : t.take (i + 1 - 1) = t.take (i - 1) ++ [c] := by
  rw [hp, show i = (i - 1) + 1 by omega, List.getElem?_cons_succ] at hb
  rw [show i + 1 - 1 = (i - 1) + 1 by omega, List.take_add_one, hb]
  rfl
theorem seg_end {p : ByteArray} {t : Bs} {i fr : Nat} {o : List Bs} (hp : p.data.toList = 47 :: t) (hi : i ≤ p.size) (h1 : 1 ≤ i) (h : splitL 47 (t.take (i - 1)) = o ++ [(p.data.toList.drop fr).take (i - fr)]) (hb : i = p.size ∨ p.data.toList[i]? = some 47) :
    if i + 1 ≤ p.size then 1 ≤ i + 1 ∧ i + 1 ≤ i + 1 ∧ splitL 47 (t.take (i + 1 - 1)) = (o ++ [(p.data.toList.drop fr).take (i - fr)]) ++ [(p.data.toList.drop (i + 1)).take (i + 1 - (i + 1))] else o ++ [(p.data.toList.drop fr).take (i - fr)] = splitL 47 t := by
  have hps : p.size = t.length + 1 := by
    have := congrArg List.length hp
    simpa using this
  by_cases hl : i + 1 ≤ p.size
  · rw [if_pos hl]
    refine ⟨by omega, by omega, ?_⟩
    rcases hb with hb | hb
    · omega
    · rw [seg_at hp h1 hb, splitL_snoc 47 _ _ _ _ h, if_pos rfl]
      simp
  · rw [if_neg hl, ← h, List.take_of_length_le (by omega)]
theorem seg_more {p : ByteArray} {t : Bs} {i fr : Nat} {o : List Bs} {c : UInt8} (hp : p.data.toList = 47 :: t) (hi : i < p.size) (h1 : 1 ≤ i) (hf : 1 ≤ fr ∧ fr ≤ i) (h : splitL 47 (t.take (i - 1)) = o ++ [(p.data.toList.drop fr).take (i - fr)]) (hb : p.data.toList[i]? = some c) (hc : c ≠ 47) :
    if i + 1 ≤ p.size then 1 ≤ fr ∧ fr ≤ i + 1 ∧ splitL 47 (t.take (i + 1 - 1)) = o ++ [(p.data.toList.drop fr).take (i + 1 - fr)] else o = splitL 47 t := by
  rw [if_pos (by omega)]
  refine ⟨hf.1, by omega, ?_⟩
  rw [seg_at hp h1 hb, splitL_snoc 47 _ _ _ _ h, if_neg hc, show i + 1 - fr = (i - fr) + 1 by omega, List.take_add_one]
  have h5 : (p.data.toList.drop fr)[i - fr]? = some c := by rw [List.getElem?_drop, show fr + (i - fr) = i by omega, hb]
  rw [h5]
  rfl
def ownO (o : List Bs) : List Bs := (o.filter fun x => decide (x ≠ [])).map ownS
theorem filt_snoc (o : List Bs) (x : Bs) : ownO (o ++ [x]) = ownO o ++ (if x = [] then [] else [ownS x]) := by
  unfold ownO
  rw [List.filter_append, List.map_append]
  by_cases h : x = [] <;> simp [h]
set_option maxRecDepth 100000 in
set_option maxHeartbeats 8000000 in
theorem own_row (a0 : Option Addr) (len0 cap0 : Nat) (a1 : Int) (w : World) (hT : HTab w) (w0 : Leaf.ok w (.sl [.str, .str, .str]) (.slice a0 len0 cap0)) (w1' : (Lit.int .i64 a1).wf = true) :
    Calls Tryd.prog 8 #[.slice a0 len0 cap0, .int .i64 a1] w fun e w' => e = .returned (.bool true) ∧ Below w.heap.size w w' := by
  have w1b : -9223372036854775808 ≤ a1 ∧ a1 ≤ 9223372036854775807 := by
    have e1 : IntKind.i64.min = -9223372036854775808 := by decide
    have e2 : IntKind.i64.max = 9223372036854775807 := by decide
    simp only [Lit.wf, Bool.and_eq_true, decide_eq_true_eq, e1, e2] at w1'
    exact w1'
  have HA1 := Hd.mk w1b
  clear w1' w1b
  obtain ⟨M, rfl, hM, hMn, hMz⟩ := leaf_routes w0
  have HM := Hd.mk (And.intro hM hMz)
  have HT := Hd.mk hT
  clear hT w0 hM hMz
  go_enter Tryd.func8, Tryd.ntmps8
  go_wp2_with fail
  refine (fit_ok w HT.out).mono ?_
  rintro e w1 ⟨rfl, u1⟩
  have HU := Hd.mk u1
  clear u1
  by_cases h60 : 60 < M.length
  · have d0 : decide ((60 : Int) < M.length) = true := decide_eq_true (by omega)
    go_wp2_with fail
    go_ret
    exact ⟨rfl, HU.out.below _ (Nat.le_refl _) (by simp)⟩
  have d0 : decide ((60 : Int) < M.length) = false := decide_eq_false (by omega)
  go_wp2_with fail
  refine (some_ok M (.slice a0 M.length cap0) w1 (HT.out.upd HU.out) (HM.out.1.upd HU.out (by simp)) hMn HM.out.2).mono ?_
  rintro e w3 ⟨v, L, rfl, hbld, hok⟩
  have HS := Hd.mk hbld.sl
  have HK := Hd.mk hok
  have HU := Hd.mk (HU.out.trans hbld.upd (by simp))
  obtain ⟨va, vc, rfl⟩ := hbld.sl.form
  have hL24 := hok.len
  clear hbld hok d0 h60
  by_cases hL0 : L.length = 0
  · have d0 : ((L.length : Int) == 0) = true := by rw [beq_iff_eq]; omega
    go_wp2_with fail
    go_ret
    exact ⟨rfl, HU.out.below _ (Nat.le_refl _) (by simp)⟩
  have d0 : ((L.length : Int) == 0) = false := by rw [beq_eq_false_iff_ne]; omega
  have hLne : ¬ L = [] := fun e => hL0 (by rw [e]; rfl)
  obtain ⟨T, hT, hTl⟩ : ∃ T : Nat, a1 % 65536 % (L.length : Int) = T ∧ T < L.length := by
    have h1 := Int.emod_nonneg (a1 % 65536) (show (L.length : Int) ≠ 0 by omega)
    have h2 := Int.emod_lt_of_pos (a1 % 65536) (show (0 : Int) < L.length by omega)
    exact ⟨(a1 % 65536 % (L.length : Int)).toNat, by omega, by omega⟩
  obtain ⟨vb, vo, vc', hv, -, -, -⟩ := HS.out.some (by omega)
  simp only [Value.slice.injEq, true_and] at hv
  obtain ⟨rfl, rfl⟩ := hv
  obtain ⟨m, p, hh, hr⟩ := route_parts L[T]
  obtain ⟨k0, k1, k2⟩ := route_at HS.out T hTl hr
  have hin : L[T] ∈ L := List.getElem_mem hTl
  generalize L[T] = r at hr hin
  obtain ⟨t, hpat⟩ := HK.out.pat hin
  have HPAT := Hd.mk hpat
  have HIN := Hd.mk hin
  have hrl := (HK.out.right _ hin).2
  have hr2 := hr
  unfold Rt.cells at hr2
  simp only [List.cons.injEq, and_true, S, Value.string.injEq] at hr2
  have hpt : p.data.toList = 47 :: t := by rw [← hr2.2.1, ← hpat.p]
  have hmt : m.data.toList = r.m := by rw [← hr2.1]
  have hpz : p.size ≤ 1000 := by
    have h1 := congrArg List.length hpt
    rw [← hpat.p, Array.length_toList] at h1
    have h2 : p.size = p.data.size := rfl
    omega
  have HP := Hd.mk hpt
  have HMT := Hd.mk hmt
  have HPZ := Hd.mk (show p.size = t.length + 1 by
    have := congrArg List.length hpt
    simpa using this)
  clear hr hr2 hpat hrl hpt hmt hin hL0
  go_upto_region 9 with (fail)
  refine wp_abs (fun W => Blk W w3.heap.size [.string m, .string p, .string hh] 26 ∧ Upd [] w3 W) ⟨Blk.new w3 _ _ _ rfl, (Upd.refl [] w3).alloc _⟩ ?_
  clear k0 k1 k2
  generalize w3.heap.size = rb
  rintro w4 ⟨br, u4⟩
  have HBR := Hd.mk br
  have HS := Hd.mk (HS.out.upd u4 (by simp))
  have HU := Hd.mk (HU.out.trans u4 (by simp))
  clear br u4 d0 hT
  go_upto_region 12 with (fail)
  go_loopg [6, 7, 8, 9] (p.size + 1) (fun g s6 s7 s8 s9 wq => ∃ (i fr : Nat) (o : List Bs), g + i = p.size + 2 ∧ s8 = .int .i64 i ∧ s7 = .int .i64 fr ∧ 1 ≤ i ∧ o.length ≤ i ∧
    Hd (Bld w4 wq 9 1 s6 (ownO o).length ((ownO o).map S)) ∧
    Hd (if i ≤ p.size then 1 ≤ fr ∧ fr ≤ i ∧ splitL 47 (t.take (i - 1)) = o ++ [(p.data.toList.drop fr).take (i - fr)] else o = splitL 47 t))
  case atStart => exact ⟨1, 1, [], by omega, rfl, rfl, by omega, by simp, Hd.mk (Bld.nil (Upd.refl _ _) _ _), Hd.mk (by rw [if_pos (by have := HPZ.out; omega)]; exact ⟨by omega, by omega, by simp [splitL]⟩)⟩
  case round =>
    obtain ⟨i, fr, o, hg, rfl, rfl, hi1, ho, HB, HI⟩ := hrel
    have HG := Hd.mk hg
    clear hg
    obtain ⟨xa, xc, rfl⟩ := HB.out.sl.form
    have br := HB.out.upd.blk HBR.out (by simp)
    have c0 := br.cell 0
    have c1 := br.cell 1
    have c2 := br.cell 2
    simp only [List.getElem?_cons_zero, List.getElem?_cons_succ] at c0 c1 c2
    clear br
    by_cases hi : i ≤ p.size
    · have hI := HI.out
      rw [if_pos hi] at hI
      obtain ⟨hf1, hf2, h3⟩ := hI
      have HI2 := Hd.mk h3
      have HEX := Hd.mk (ext_list p fr i)
      clear h3 HI
      obtain ⟨bB, hbd, hnb⟩ : ∃ bB : Bool, (bB = true → i = p.size ∨ p.data.toList[i]? = some 47) ∧ (bB = false → i < p.size ∧ ∃ c, p.data.toList[i]? = some c ∧ c ≠ 47) := by
        by_cases hl : i = p.size
        · exact ⟨true, fun _ => .inl hl, (fun h => by cases h)⟩
        · have h' : i < p.data.toList.length := by rw [Array.length_toList]; have : p.size = p.data.size := rfl; omega
          by_cases hc : p.data.toList[i] = 47
          · exact ⟨true, fun _ => .inr (by rw [List.getElem?_eq_getElem h', hc]), (fun h => by cases h)⟩
          · exact ⟨false, (fun h => by cases h), fun _ => ⟨by omega, _, List.getElem?_eq_getElem h', hc⟩⟩
      have HBD := Hd.mk hbd
      have HNB := Hd.mk hnb
      clear hbd hnb
      go_upto_region 14 with (fail)
      go_cut [51] (fun s51 W => s51 = .bool bB ∧ W = wr)
      case first =>
        by_cases hl : i = p.size
        · have d1 : ((i : Int) == p.size) = true := by rw [beq_iff_eq]; omega
          obtain rfl : bB = true := by
            cases bB with
            | true => rfl
            | false => have := (HNB.out rfl).1; omega
          clear hl
          go_wp2_with fail
          go_meet
          case rel => exact ⟨rfl, rfl⟩
        · have d1 : ((i : Int) == p.size) = false := by rw [beq_eq_false_iff_ne]; omega
          have hi2 : i < p.size := by omega
          have h' : i < p.data.toList.length := by rw [Array.length_toList]; exact hi2
          obtain ⟨c, hc⟩ : ∃ c, p[i] = c := ⟨_, rfl⟩
          have HC := Hd.mk (show p.data.toList[i]? = some c by rw [List.getElem?_eq_getElem h', ← byte_at2 p i hi2 h', hc])
          by_cases c1 : c = 47
          · have q1 : ((c.toNat : Int) == 47) = true := by rw [c1]; rfl
            have q3 : (c.toNat : Int) = 47 := by rw [c1]; rfl
            obtain rfl : bB = true := by
              cases bB with
              | true => rfl
              | false =>
                obtain ⟨-, c', h1, h2⟩ := HNB.out rfl
                rw [HC.out] at h1
                exact absurd ((Option.some.inj h1).symm.trans c1) h2
            clear c1
            go_wp2_with fail
            go_meet
            case rel => exact ⟨rfl, rfl⟩
          · have q1 : ((c.toNat : Int) == 47) = false := by rw [beq_eq_false_iff_ne]; exact fun e => c1 (UInt8.toNat_inj.1 (show c.toNat = 47 by omega))
            have q3 : ¬ (c.toNat : Int) = 47 := by simpa using q1
            obtain rfl : bB = false := by
              cases bB with
              | false => rfl
              | true =>
                rcases HBD.out rfl with h1 | h1
                · exact absurd h1 hl
                · rw [HC.out] at h1
                  exact absurd (Option.some.inj h1) c1
            clear c1 hl
            go_wp2_with fail
            go_meet
            case rel => exact ⟨rfl, rfl⟩
      case rest =>
        obtain ⟨rfl, rfl⟩ := hcut
        cases bB with
        | false =>
          obtain ⟨hi2, c, hc1, hc2⟩ := HNB.out rfl
          have HNX := Hd.mk (seg_more HP.out hi2 hi1 ⟨hf1, hf2⟩ HI2.out hc1 hc2)
          clear hc1 hc2
          go_wp2_with fail
          go_roundg (gk - 1)
          case measure => have := HG.out; omega
          case rel => exact ⟨i + 1, fr, o, by have := HG.out; omega, by go_num, rfl, by omega, by omega, HB, HNX⟩
        | true =>
          have HNX := Hd.mk (seg_end HP.out hi hi1 HI2.out (HBD.out rfl))
          obtain ⟨sx, hsx⟩ : ∃ sx, p.extract fr i = sx := ⟨_, rfl⟩
          have HSX := Hd.mk (show sx.data.toList = (p.data.toList.drop fr).take (i - fr) by rw [← hsx, HEX.out])
          have hxz : sx.size ≤ 1000 := by
            have h1 := congrArg List.length HSX.out
            rw [List.length_take, List.length_drop, Array.length_toList, Array.length_toList] at h1
            have h2 : p.size = p.data.size := rfl
            have h3 : sx.size = sx.data.size := rfl
            omega
          rw [← HSX.out] at HNX
          have HFL := Hd.mk (filt_snoc o sx.data.toList)
          by_cases he : sx = ⟨#[]⟩
          · have y := str_eq0 he
            have HFL2 := Hd.mk (show ownO (o ++ [sx.data.toList]) = ownO o by rw [HFL.out, if_pos (by rw [he])]; simp)
            clear he
            go_wp2_with fail
            go_roundg (gk - 1)
            case measure => have := HG.out; omega
            case rel => exact ⟨i + 1, i + 1, o ++ [sx.data.toList], by have := HG.out; omega, by go_num, by go_num, by omega, by simp; omega, Hd.mk (by rw [HFL2.out]; exact HB.out), HNX⟩
          have y := str_ne0 he
          have hxp : 0 < sx.size := by
            rcases Nat.eq_zero_or_pos sx.size with h0 | h0
            · exact absurd (ByteArray.ext (Array.eq_empty_of_size_eq_zero h0)) he
            · exact h0
          have HFL2 := Hd.mk (show ownO (o ++ [sx.data.toList]) = ownO o ++ [ownS sx.data.toList] by rw [HFL.out, if_neg (fun e => he (by rw [← mk_data sx, e]))])
          have HKC := Hd.mk (kind_c2 hxp)
          obtain ⟨c, hc⟩ : ∃ c, sx[0] = c := ⟨_, rfl⟩
          rw [hc] at HKC
          obtain ⟨bC, hbc⟩ : ∃ bC : Bool, bC = true ↔ (c = 58 ∨ c = 42) := by
            by_cases h : c = 58 ∨ c = 42
            · exact ⟨true, by simp [h]⟩
            · exact ⟨false, by simp [h]⟩
          have HBC := Hd.mk hbc
          have HOW := Hd.mk (show ownS sx.data.toList = if bC = true then 40 :: (sx.data.toList ++ [41]) else sx.data.toList by
            unfold ownS
            rw [HKC.out]
            by_cases h1 : c = 58
            · rw [if_pos h1, if_neg (by decide), if_pos (hbc.2 (.inl h1))]
            · rw [if_neg h1]
              by_cases h2 : c = 42
              · rw [if_pos h2, if_neg (by decide), if_pos (hbc.2 (.inr h2))]
              · rw [if_neg h2, if_pos rfl, if_neg (fun q => by rcases hbc.1 q with q | q
                                                               · exact h1 q
                                                               · exact h2 q)])
          clear he hbc
          go_upto_region 17 with (fail)
          go_cut [66] (fun s66 W => s66 = .bool bC ∧ W = wc)
          case first =>
            by_cases c1 : c = 58
            · have q1 : ((c.toNat : Int) == 58) = true := by rw [c1]; rfl
              have q3 : (c.toNat : Int) = 58 := by rw [c1]; rfl
              obtain rfl : bC = true := HBC.out.2 (.inl c1)
              clear c1
              go_wp2_with fail
              go_meet
              case rel => exact ⟨rfl, rfl⟩
            have q1 : ((c.toNat : Int) == 58) = false := by rw [beq_eq_false_iff_ne]; exact fun e => c1 (UInt8.toNat_inj.1 (show c.toNat = 58 by omega))
            have q3 : ¬ (c.toNat : Int) = 58 := by simpa using q1
            by_cases c2 : c = 42
            · have q2 : ((c.toNat : Int) == 42) = true := by rw [c2]; rfl
              have q4 : (c.toNat : Int) = 42 := by rw [c2]; rfl
              obtain rfl : bC = true := HBC.out.2 (.inr c2)
              clear c1 c2
              go_wp2_with fail
              go_meet
              case rel => exact ⟨rfl, rfl⟩
            have q2 : ((c.toNat : Int) == 42) = false := by rw [beq_eq_false_iff_ne]; exact fun e => c2 (UInt8.toNat_inj.1 (show c.toNat = 42 by omega))
            have q4 : ¬ (c.toNat : Int) = 42 := by simpa using q2
            obtain rfl : bC = false := by
              cases bC with
              | false => rfl
              | true => rcases HBC.out.1 rfl with h | h
                        · exact absurd h c1
                        · exact absurd h c2
            clear c1 c2
            go_wp2_with fail
            go_meet
            case rel => exact ⟨rfl, rfl⟩
          case rest =>
            obtain ⟨rfl, rfl⟩ := hcut
            go_upto_if 66 with (fail)
            go_cut [9] (fun s9 W => ∃ sy : ByteArray, s9 = .string sy ∧ Hd (sy.data.toList = ownS sx.data.toList) ∧ W = wc)
            case first =>
              cases bC with
              | false =>
                go_wp2_with fail
                go_meet
                case rel => exact ⟨sx, rfl, Hd.mk (by rw [HOW.out]; rfl), rfl⟩
              | true =>
                have s1 : ¬ 9223372036854775807 < 1 + sx.size := by omega
                have s2 : ¬ 9223372036854775807 < 1 + sx.size + 1 := by omega
                go_wp2_with fail
                go_meet
                case rel => exact ⟨_, rfl, Hd.mk (by rw [HOW.out]; simp), rfl⟩
            case rest =>
              obtain ⟨sy, rfl, HSY, rfl⟩ := hcut
              have hln : (ownO o).length ≤ 1010 := by
                unfold ownO
                rw [List.length_map]
                have := List.length_filter_le (fun x => decide (x ≠ [])) o
                omega
              have hsl := HB.out.sl
              go_wp2_with (at_builtin; refine wpList_append_row rfl (.tmp 70) (.tmp 72) 23 rfl rfl 9 (.string ⟨#[]⟩) 1 16 Tryd.underlying23 (by kernel_rfl) rfl _ _ _ rfl hsl [.string sy] rfl rfl rfl (by omega) (by omega) ?_)
              intro v5 w5 s5 u5 o5
              have HB := Hd.mk (HB.out.app s5 u5 o5)
              obtain ⟨a5, c5, rfl⟩ := s5.form
              clear s5 u5 o5 hsl
              go_wp2_with fail
              go_roundg (gk - 1)
              case measure => have := HG.out; omega
              case rel => exact ⟨i + 1, i + 1, o ++ [sx.data.toList], by have := HG.out; omega, by go_num, by go_num, by omega, by simp; omega, Hd.mk (by
                have h1 := HB.out
                rw [HFL2.out, List.length_append, List.map_append, List.map_singleton, ← S_of HSY.out]
                exact h1), HNX⟩
    · have hI := HI.out
      rw [if_neg hi] at hI
      have HO := Hd.mk (show ownO (splitL 47 t) = ownP r from own_all HPAT.out)
      rw [← hI] at HO
      have hO := HO.out
      rw [hO] at HB ⊢
      clear hI HI hO HO
      have HPL := Hd.mk HB.out.sl.rs
      have HBR := Hd.mk (HB.out.upd.blk HBR.out (by simp))
      have HSW := Hd.mk (HS.out.upd HB.out.upd (by simp))
      have HU := Hd.mk (HU.out.trans HB.out.upd (by simp))
      have HLN := Hd.mk (own_len HK.out HIN.out)
      have HOK := Hd.mk (own_mt HK.out HIN.out)
      have HTM := Hd.mk (fun (v : Value) (w' : World) (ht : Tr w' v L) (hl : RdS w' 1 (.slice xa (ownP r).length xc) (ownP r).length ((ownP r).map S)) => tmatch v (.slice xa (ownP r).length xc) L m (ownP r) w' ht hl HLN.out (by omega))
      have HRF := Hd.mk (fun (w' : World) (hL : Sl w' 26 3 (.slice (some ⟨vb, vo, none⟩) L.length vc) L.length (L.flatMap Rt.cells)) (hl : RdS w' 1 (.slice xa (ownP r).length xc) (ownP r).length ((ownP r).map S)) => ref_ok L (.slice (some ⟨vb, vo, none⟩) L.length vc) m (ownP r) (.slice xa (ownP r).length xc) w' HK.out hL hl (by have := HLN.out; rw [sumL_B]; omega) (by have := HLN.out; omega))
      rw [HMT.out] at HTM HRF
      obtain ⟨⟨R1, R2⟩, hre⟩ : ∃ R, mtL L r.m (ownP r) = R := ⟨_, rfl⟩
      rw [hre] at HTM HRF HOK
      have hR2 : R2 = true := HOK.out
      subst hR2
      clear hre HOK HB
      generalize (ownP r).length = pl at *
      go_upto_region 22 with (fail)
      have TOK := Hd.mk (fun X (hu : Upd [] wr X) => (Tr.with_ (.pointer none) (.slice (some ⟨vb, vo, none⟩) L.length vc) [] L X (Tr.nil _) (HSW.out.upd hu (by simp)) HK.out.rgt (by simp; omega)).mono (R' := fun e w6 => ∃ tb, e = .returned (.pointer (some ⟨tb, 0, none⟩)) ∧ Tr w6 (.pointer (some ⟨tb, 0, none⟩)) L ∧ Upd [] wr w6 ∧ Upd [] X w6) (by rintro e w6 ⟨tb, rfl, ht, h6⟩; exact ⟨tb, rfl, ht, hu.trans h6 (by simp), h6⟩))
      have HTM2 := Hd.mk (fun X v (hu : Upd [] wr X) (ht : Tr X v L) => (HTM.out v X ht (HPL.out.upd hu (by simp))).mono (R' := fun e w7 => ∃ h1 pa1 aa1 pn1 pc1 an1 ac1, e = .returned (.tuple #[.agg #[.string h1, .slice pa1 pn1 pc1, .slice aa1 an1 ac1], .bool true]) ∧ MV w7 (.agg #[.string h1, .slice pa1 pn1 pc1, .slice aa1 an1 ac1]) R1 ∧ Upd [] X w7 ∧ Upd [] wr w7) (by rintro e w7 ⟨h1, pa1, aa1, pn1, pc1, an1, ac1, rfl, hmv, h7⟩; exact ⟨h1, pa1, aa1, pn1, pc1, an1, ac1, rfl, hmv, h7, hu.trans h7 (by simp)⟩))
      have eA := fun Z => (((Upd.refl [] wr).alloc Z).blk HBR.out (by simp)).cell 0
      have eB := fun Z => (((Upd.refl [] wr).alloc Z).drew.blk HBR.out (by simp)).cell 0
      simp only [List.getElem?_cons_zero] at eA eB
      have tok1 := HTM2
      have tok2 := HTM2
      go_cut [11, 12] (fun s11 s12 W => ∃ mb pa1 aa1 pn1 pc1 an1 ac1, s11 = .pointer (some ⟨mb, 0, none⟩) ∧ s12 = .bool true ∧ Hd (Blk W mb [.string ⟨R1.h.toArray⟩, .slice pa1 pn1 pc1, .slice aa1 an1 ac1] 30 ∧ Upd [] wr W))
      case first =>
        go_region_law (first
          | (have _t := tok1; refine step_func_ex rfl 11 #[.tmp 77, .tmp 78] #[27, 24] rfl #[.pointer none, .slice (some ⟨vb, vo, none⟩) L.length vc] (by go_simp) (by go_simp) ?_; refine (Calls.mono (TOK.out _ ?hup) ?_); (case hup => repeat (first | exact Upd.refl _ _ | with_reducible apply Upd.drewN | with_reducible apply Upd.drew | with_reducible apply Upd.alloc | (refine Upd.set ?_ _ _ (by simp)) | (refine Upd.row ?_ _ _ (by simp)))); rintro e w6 ⟨tb, rfl, htr, hu6, hx6⟩; refine ⟨_, rfl, ?_⟩; have HT6 := Hd.mk htr; have HU6 := Hd.mk hu6; have HX6 := Hd.mk hx6; have b6 := hu6.blk HBR.out (by simp); have e6 := b6.cell 0; have e6z := fun Z => (((Upd.refl [] w6).alloc Z).blk b6 (by simp)).cell 0; simp only [List.getElem?_cons_zero] at e6 e6z; (first | (have bz6 := hx6.blk (Blk.new wr [.string ⟨#[]⟩, .slice none 0 0, .slice none 0 0] 30 _ rfl).drew (by simp); have HZ6 := Hd.mk bz6; clear bz6) | (have bz6 := hx6.blk (Blk.new wr.drew [.string ⟨#[]⟩, .slice none 0 0, .slice none 0 0] 30 _ rfl) (by simp); have HZ6 := Hd.mk bz6; clear bz6) | skip); clear tok1 _t htr hu6 hx6 b6)
          | (have _t := tok2; refine step_func_ex rfl 12 #[.tmp 79, .tmp 81, .tmp 82] #[27, 9, 23] rfl #[.pointer (some ⟨tb, 0, none⟩), .string m, .slice xa pl xc] (by go_simp) (by go_simp) ?_; refine (Calls.mono (HTM2.out _ _ ?hup (HT6.out.upd ?huq)) ?_); (case hup => repeat (first | with_reducible exact HU6.out | ((with_reducible refine Upd.set ?_ _ _ ?hne); (case hne => (simp; omega))) | with_reducible apply Upd.drewN | with_reducible apply Upd.drew | with_reducible apply Upd.alloc)); (case huq => repeat (first | with_reducible exact Upd.refl _ _ | ((with_reducible refine Upd.set ?_ _ _ ?hne); (case hne => (simp; omega))) | with_reducible apply Upd.drewN | with_reducible apply Upd.drew | with_reducible apply Upd.alloc)); rintro e w7 ⟨h1, pa1, aa1, pn1, pc1, an1, ac1, rfl, hmv, hx7, hu7⟩; refine ⟨_, rfl, ?_⟩; have HM7 := Hd.mk hmv; have HU7 := Hd.mk hu7; have HX7 := Hd.mk hx7; (first | (have bz7 := hx7.blk (Blk.new w6 [.string ⟨#[]⟩, .slice none 0 0, .slice none 0 0] 30 _ rfl) (by simp); have HZ7 := Hd.mk bz7; have z0 := bz7.cell 0; have z1 := bz7.cell 1; have z2 := bz7.cell 2; have y0 := bz7.free 0; have y1 := bz7.free 1; have y2 := bz7.free 2; simp only [List.getElem?_cons_zero, List.getElem?_cons_succ] at z0 z1 z2; clear bz7) | (have bz7 := hx7.blk HZ6.out (by simp); have HZ7 := Hd.mk bz7; have z0 := bz7.cell 0; have z1 := bz7.cell 1; have z2 := bz7.cell 2; have y0 := bz7.free 0; have y1 := bz7.free 1; have y2 := bz7.free 2; simp only [List.getElem?_cons_zero, List.getElem?_cons_succ] at z0 z1 z2; clear bz7) | skip); clear tok2 _t hmv hx7 hu7))
        all_goals
          have HH := Hd.mk (MV_h HM7.out)
          have hs6 := HU6.out.size
          have hs7 := HU7.out.size
          have HSZ := Hd.mk (And.intro hs6 (And.intro hs7 HX7.out.size))
          clear hs6 hs7
          go_wp2_with fail
          go_meet
          case rel =>
            refine ⟨_, pa1, aa1, pn1, pc1, an1, ac1, rfl, rfl, Hd.mk ⟨?_, ?_⟩⟩
            · rw [← HH.out]
              first
                | exact ((HZ7.out.set 0 _).set 1 _).set 2 _
                | exact Blk.new w7 _ _ _ rfl
            · first
                | exact HU7.out.alloc _
                | exact ((HU7.out.set _ _ (by have := HSZ.out; simp <;> omega)).set _ _ (by have := HSZ.out; simp <;> omega)).set _ _ (by have := HSZ.out; simp <;> omega)
      case rest =>
        obtain ⟨mb, pa1, aa1, pn1, pc1, an1, ac1, rfl, rfl, HC⟩ := hcut
        have HPL := Hd.mk (HPL.out.upd HC.out.2 (by simp))
        have HSW := Hd.mk (HSW.out.upd HC.out.2 (by simp))
        have HU := Hd.mk (HU.out.trans HC.out.2 (by simp))
        have br := HC.out.2.blk HBR.out (by simp)
        clear c0 c1 c2 eA eB tok1 tok2 HTM HTM2 TOK
        have c0 := br.cell 0
        have c1 := br.cell 1
        have c2 := br.cell 2
        simp only [List.getElem?_cons_zero, List.getElem?_cons_succ] at c0 c1 c2
        clear br
        go_wp2_with fail
        refine (HRF.out _ HSW.out HPL.out).mono ?_
        rintro e w8 ⟨h2, pa2, aa2, pn2, pc2, an2, ac2, rfl, hmv, hu⟩
        have e2 := MV_h hmv
        have HB8 := Hd.mk (hu.blk HC.out.1 (by simp))
        have HU8 := Hd.mk (HU.out.trans hu (by simp))
        simp only at e2
        subst e2
        clear hmv hu c0 c1 c2
        have bm := HB8.out
        have d0 := bm.cell 0
        have d1 := bm.cell 1
        have d2 := bm.cell 2
        simp only [List.getElem?_cons_zero, List.getElem?_cons_succ] at d0 d1 d2
        have HB9 := Hd.mk (fun Z => bm.alloc Z)
        have g0 := fun Z => (HB9.out Z).cell 0
        simp only [List.getElem?_cons_zero] at g0
        have y := str_yes (rfl : (⟨R1.h.toArray⟩ : ByteArray) = ⟨R1.h.toArray⟩)
        clear bm
        go_wp2_with fail
        go_ret
        exact ⟨rfl, (HU8.out.alloc _).below _ (Nat.le_refl _) (by simp)⟩
end Go.Proofs.YtiombjmkaejjfaaDoor
