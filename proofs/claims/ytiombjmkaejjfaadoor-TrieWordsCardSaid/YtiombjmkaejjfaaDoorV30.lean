/- Tries: TrieWords. -/
import Derived.Test.YtiombjmkaejjfaaDoorV29
namespace Go.Proofs.YtiombjmkaejjfaaDoor
set_option linter.unusedSimpArgs false
set_option linter.unusedVariables false
set_option linter.unnecessarySimpa false
open Go.RowKit BigFrame

theorem notmb {w : World} {e : TypeId} {sz n mb : Nat} {v : Value} {xs : List Value} {ks : List Bs} (h : Sl w e sz v n xs) (hm : MSt w mb ks) : mb ∉ ownB v := by
  intro hk
  obtain ⟨L, hm, -⟩ := hm
  rcases h.2 with ⟨rfl, _⟩ | ⟨g, o, cap, cur, rfl, hb, _⟩
  · simp [ownB] at hk
  · simp [ownB] at hk
    subst hk
    exact hm.other _ _ hb
theorem byte_at (s : ByteArray) (i : Nat) (h : i < s.size) (h' : i < s.data.toList.length) : s[i] = s.data.toList[i] := rfl
theorem size_pos {s : ByteArray} (h : ¬ s = ⟨#[]⟩) : 0 < s.size := by
  cases hq : s.size with
  | zero =>
    refine absurd ?_ h
    apply ByteArray.ext
    exact Array.eq_empty_of_size_eq_zero hq
  | succ n => omega
theorem kind_l (l : Bs) (h : 0 < l.length) : kindL l = if l[0] = 58 then 1 else if l[0] = 42 then 2 else 0 := by
  cases l with
  | nil => cases h
  | cons c r => rfl
theorem kind_c {s : ByteArray} (hz : 0 < s.size) : kindL s.data.toList = if s[0] = 58 then 1 else if s[0] = 42 then 2 else 0 := kind_l _ (by rw [Array.length_toList]; exact hz)
/-- What a match tells whose handler nobody looks at. -/
def MQ (b : Bool) (w : World) (e : Ending) (w' : World) : Prop :=
  ∃ (hh : ByteArray) (pa aa : Option Addr) (pn pc an ac : Nat), e = .returned (.tuple #[.agg #[.string hh, .slice pa pn pc, .slice aa an ac], .bool b]) ∧ Upd [] w w'
theorem wmatch (v : Value) (L : List Rt) (b : Nat) (s : ByteArray) (w : World) (ht : Tr w v L) (hb : Blk w b [.string s] 9) (hz : s.size ≤ 1000) (hk : L.length ≤ 100) :
    Calls Tryd.prog 12 #[v, .string ⟨#[71, 69, 84]⟩, .slice (some ⟨b, 0, none⟩) 1 1] w (MQ (mtL L gET [s.data.toList]).2 w) := by
  have hsl : RdS w 1 (.slice (some ⟨b, 0, none⟩) 1 1) [s.data.toList].length ([s.data.toList].map S) := by
    have := (hb.sl 1 1 rfl (by decide)).rs
    rw [S_of rfl] at this
    exact this
  refine (Tr.match_ v _ L gET [s.data.toList] w ht hsl (by
    have : s.data.size ≤ 1000 := hz
    simp [sumL]; omega) (by simp) hk).mono ?_
  rintro e w' ⟨mv, rfl, ⟨pv, av, rfl, ⟨pa, pc, rfl, -⟩, ⟨aa, ac, rfl, -⟩⟩, hu⟩
  exact ⟨_, _, _, _, _, _, _, rfl, hu⟩
theorem wwith (v : Value) (M : List Rt) (b : Nat) (s : ByteArray) (w : World) (ht : Tr w v M) (hb : Blk w b [.string ⟨#[71, 69, 84]⟩, .string ({ data := #[47] } ++ s), .string ⟨#[103, 101, 116]⟩] 26) (hs : Wd s.data.toList) (hk : M.length ≤ 100) :
    Calls Tryd.prog 11 #[v, .slice (some ⟨b, 0, none⟩) 1 1] w fun e w' => ∃ b, e = .returned (.pointer (some ⟨b, 0, none⟩)) ∧ Tr w' (.pointer (some ⟨b, 0, none⟩)) (M ++ [wrt s.data.toList]) ∧ Upd [] w w' := by
  have hsl : Sl w 26 3 (.slice (some ⟨b, 0, none⟩) 1 1) [wrt s.data.toList].length ([wrt s.data.toList].flatMap Rt.cells) := by
    have h1 := hb.sl 3 1 rfl (by decide)
    have e1 : S (47 :: s.data.toList) = .string ({ data := #[47] } ++ s) := (S_of (by simp)).symm
    have h2 : [wrt s.data.toList].flatMap Rt.cells = [.string ⟨#[71, 69, 84]⟩, .string ({ data := #[47] } ++ s), .string ⟨#[103, 101, 116]⟩] := by
      rw [← e1]
      simp [Rt.cells, wrt, gET, S]
    rw [h2]
    exact h1
  exact Tr.with_ v _ M [wrt s.data.toList] w ht hsl (fun r hr => by rw [List.mem_singleton] at hr; subst hr; exact hs.rgt) (by simp; omega)
set_option maxRecDepth 100000 in
set_option maxHeartbeats 4000000 in
theorem words_row (a0 : Option Addr) (len0 cap0 : Nat) (a1 : Int) (w : World) (hT : HTab w) (w0 : Leaf.ok w (.sl [.str]) (.slice a0 len0 cap0)) (w1' : (Lit.int .i64 a1).wf = true) :
    Calls Tryd.prog 5 #[.slice a0 len0 cap0, .int .i64 a1] w fun e w' => e = .returned (.bool true) ∧ Below w.heap.size w w' := by
  have w1b : -9223372036854775808 ≤ a1 ∧ a1 ≤ 9223372036854775807 := by
    have e1 : IntKind.i64.min = -9223372036854775808 := by decide
    have e2 : IntKind.i64.max = 9223372036854775807 := by decide
    simp only [Lit.wf, Bool.and_eq_true, decide_eq_true_eq, e1, e2] at w1'
    exact w1'
  have HA1 := Hd.mk w1b
  clear w1' w1b
  obtain ⟨l, rfl, hl, hn, hz⟩ := leaf_texts w0
  have HL := Hd.mk hl
  have HT := Hd.mk hT
  clear hT w0 hl hz
  go_enter Tryd.func5, Tryd.ntmps5
  go_wp2_with fail
  refine (fit_ok w HT.out).mono ?_
  rintro e w1 ⟨rfl, u1⟩
  have HU := Hd.mk u1
  clear u1
  by_cases h0 : l.length = 0
  · have d0 : ((l.length : Int) == 0) = true := by rw [beq_iff_eq]; omega
    go_wp2_with fail
    go_ret
    exact ⟨rfl, HU.out.below _ (Nat.le_refl _) (by simp)⟩
  have d0 : ((l.length : Int) == 0) = false := by rw [beq_eq_false_iff_ne]; omega
  by_cases h7 : 20 < l.length
  · have d1 : decide ((20 : Int) < l.length) = true := decide_eq_true (by omega)
    go_wp2_with fail
    go_ret
    exact ⟨rfl, HU.out.below _ (Nat.le_refl _) (by simp)⟩
  have d1 : decide ((20 : Int) < l.length) = false := decide_eq_false (by omega)
  have hmm := @run_makeMap Tryd.prog
  go_upto_region 6 with (fail)
  refine wp_abs (fun W => MSt W w1.heap.size [] ∧ Upd [] w W) ⟨MSt.nil w1, HU.out.trans ((Upd.refl [] w1).alloc _) (by simp)⟩ ?_
  have HMB := Hd.mk (show w.heap.size ≤ w1.heap.size from HU.out.size)
  generalize w1.heap.size = mb at HMB
  rintro w2 ⟨hm2, u2⟩
  have HM := Hd.mk hm2
  have HU := Hd.mk u2
  have hn20 : l.length ≤ 20 := by omega
  clear hm2 u2 hmm d0 d1 h0 h7 hn
  go_upto_region 8 with (fail)
  go_loopg [6, 8, 35] l.length (fun g s6 s8 ii wr => ∃ (k : Nat) (W : List Bs), g + k = l.length ∧ ii = .int .i64 k ∧ Hd (Bld w wr 9 1 s6 W.length (W.map S)) ∧ Hd (MSt wr mb W) ∧ Hd (∀ s ∈ W, Wd s) ∧ W.length ≤ k)
  case atStart => exact ⟨0, [], by omega, rfl, Hd.mk (Bld.nil HU.out _ _), HM, Hd.mk (by simp), by simp⟩
  case round =>
    clear HM HU
    obtain ⟨k, W, hg, rfl, HS, HM, HW, hWk⟩ := hrel
    have HG := Hd.mk hg
    clear hg
    obtain ⟨va, vc, rfl⟩ := HS.out.sl.form
    by_cases hk : k < l.length
    · obtain ⟨b, off, cap, hv, -, -, hc⟩ := (HL.out.upd HS.out.upd (by simp)).some (by omega)
      simp only [Value.slice.injEq, true_and] at hv
      obtain ⟨rfl, rfl⟩ := hv
      have k0 := hc k (by omega)
      rw [List.getElem?_map, List.getElem?_eq_getElem hk] at k0
      generalize l[k] = x at k0
      obtain ⟨s, hs, hsx, hsz⟩ := S_ex x
      rw [Option.map_some, hs] at k0
      have HX := Hd.mk hsx
      clear hc hs hsx hsz
      by_cases h30 : 30 < s.size
      · have d2 : decide ((30 : Int) < s.size) = true := decide_eq_true (by omega)
        go_wp2_with fail
        go_ret
        exact ⟨rfl, HS.out.upd.below _ (Nat.le_refl _) (by simp)⟩
      have d2 : decide ((30 : Int) < s.size) = false := decide_eq_false (by omega)
      have hlk := HM.out.look s
      by_cases hin : s.data.toList ∈ W
      · rw [decide_eq_true hin] at hlk
        clear hin
        go_wp2_with fail
        go_roundg (gk - 1)
        case measure => have := HG.out; omega
        case rel => exact ⟨k + 1, W, by have := HG.out; omega, by go_num, HS, HM, HW, by omega⟩
      · rw [decide_eq_false hin] at hlk
        clear hin
        have hp1 : ¬ 9223372036854775807 < 1 + s.size := by omega
        have HR := Hd.mk (show Calls Tryd.prog 14 #[.agg #[.string ⟨#[71, 69, 84]⟩, .string ({ data := #[47] } ++ s), .string ⟨#[103, 101, 116]⟩]] wr (fun e w' => e = .returned (.bool (rgtB (wrt s.data.toList))) ∧ Upd [] wr w') from by
          have e1 : S (47 :: s.data.toList) = .string ({ data := #[47] } ++ s) := (S_of (by simp)).symm
          have := right_ok (wrt s.data.toList) wr (HT.out.upd HS.out.upd) (by
            show (47 :: s.data.toList).length ≤ _
            rw [List.length_cons, Array.length_toList]
            have h : s.data.size ≤ 30 := Nat.le_of_not_lt h30
            omega) (by show gET.length ≤ 800000; decide)
          rw [show (wrt s.data.toList).cells = [.string ⟨#[71, 69, 84]⟩, .string ({ data := #[47] } ++ s), .string ⟨#[103, 101, 116]⟩] by rw [← e1]; rfl] at this
          exact this)
        go_wp2_with fail
        refine HR.out.mono ?_
        rintro e w3 ⟨rfl, u3⟩
        have HS := Hd.mk (HS.out.over u3)
        have HM := Hd.mk (HM.out.upd u3 (by simp))
        clear hlk HR u3 k0
        cases hr : rgtB (wrt s.data.toList) with
        | false =>
          go_wp2_with fail
          go_roundg (gk - 1)
          case measure => have := HG.out; omega
          case rel => exact ⟨k + 1, W, by have := HG.out; omega, by go_num, HS, HM, HW, by omega⟩
        | true =>
          by_cases he : s = ⟨#[]⟩
          · have y := str_eq0 he
            go_wp2_with fail
            go_roundg (gk - 1)
            case measure => have := HG.out; omega
            case rel => exact ⟨k + 1, W, by have := HG.out; omega, by go_num, HS, HM, HW, by omega⟩
          have y := str_ne0 he
          have hz := size_pos he
          have HKC := Hd.mk (kind_c hz)
          have HE := Hd.mk he
          have HRG := Hd.mk hr
          obtain ⟨c, hc⟩ : ∃ c, s[0] = c := ⟨_, rfl⟩
          rw [hc] at HKC
          clear he hr
          by_cases c1 : c = 58
          · have q1 : ((c.toNat : Int) == 58) = true := by rw [c1]; rfl
            go_wp2_with fail
            go_roundg (gk - 1)
            case measure => have := HG.out; omega
            case rel => exact ⟨k + 1, W, by have := HG.out; omega, by go_num, HS, HM, HW, by omega⟩
          have q1 : ((c.toNat : Int) == 58) = false := by rw [beq_eq_false_iff_ne]; exact fun e => c1 (UInt8.toNat_inj.1 (show c.toNat = 58 by omega))
          by_cases c2 : c = 42
          · have q2 : ((c.toNat : Int) == 42) = true := by rw [c2]; rfl
            clear c1
            go_wp2_with fail
            go_roundg (gk - 1)
            case measure => have := HG.out; omega
            case rel => exact ⟨k + 1, W, by have := HG.out; omega, by go_num, HS, HM, HW, by omega⟩
          have q2 : ((c.toNat : Int) == 42) = false := by rw [beq_eq_false_iff_ne]; exact fun e => c2 (UInt8.toNat_inj.1 (show c.toNat = 42 by omega))
          have HWd := Hd.mk (show Wd s.data.toList from {
            ne := fun e => HE.out (by rw [← mk_data s, e])
            kind := by rw [HKC.out, if_neg c1, if_neg c2]
            len := by rw [Array.length_toList]; exact Nat.le_of_not_lt h30
            right := HRG.out })
          have q3 : ¬ ((c.toNat : Int) = 58) := by simpa using q1
          have q4 : ¬ ((c.toNat : Int) = 42) := by simpa using q2
          have q5 : ((c.toNat : Int) != 58) = true := by simpa using q3
          have q6 : ((c.toNat : Int) != 42) = true := by simpa using q4
          clear c1 c2
          obtain ⟨w4, hput, hm4, u4⟩ := HM.out.put s
          have hnm := notmb HS.out.sl HM.out
          have hsl := HS.out.sl.upd u4 (fun k hk e => by rw [List.mem_singleton] at e; subst e; exact hnm hk)
          have HB4 := Hd.mk (show Bld w w4 9 1 (.slice va W.length vc) W.length (W.map S) from ⟨hsl, HS.out.own, HS.out.upd.trans u4 (by
            intro j hj hm
            rw [List.mem_singleton] at hm
            have := HMB.out
            omega)⟩)
          have HM4 := Hd.mk hm4
          clear HS HM hm4 u4 hnm
          go_wp2_with (at_builtin; refine wpList_append_row rfl (.tmp 68) (.tmp 70) 23 rfl rfl 9 (.string ⟨#[]⟩) 1 16 Tryd.underlying23 (by kernel_rfl) rfl _ _ _ rfl hsl [.string s] rfl rfl rfl (by omega) (by omega) ?_)
          intro v5 w5 s5 u5 o5
          have HS := Hd.mk (HB4.out.app s5 u5 o5)
          have HM := Hd.mk (HM4.out.upd u5 (notmb HB4.out.sl HM4.out))
          obtain ⟨a5, c5, rfl⟩ := s5.form
          clear s5 u5 o5 hsl hput
          go_wp2_with fail
          go_roundg (gk - 1)
          case measure => have := HG.out; omega
          case rel => exact ⟨k + 1, W ++ [s.data.toList], by have := HG.out; omega, by go_num, Hd.mk (by
              have := HS.out
              rw [List.length_append, List.map_append, List.map_singleton, ← S_of rfl]
              exact this), HM, Hd.mk (fun t ht => by
              rcases List.mem_append.1 ht with h | h
              · exact HW.out t h
              · rw [List.mem_singleton] at h; subst h; exact HWd.out), by simp; omega⟩
    · obtain rfl : k = l.length := by have := HG.out; omega
      clear hk HG
      by_cases hW0 : W.length = 0
      · have d2 : ((W.length : Int) == 0) = true := by rw [beq_iff_eq]; omega
        go_wp2_with fail
        go_ret
        exact ⟨rfl, HS.out.upd.below _ (Nat.le_refl _) (by simp)⟩
      have d2 : ((W.length : Int) == 0) = false := by rw [beq_eq_false_iff_ne]; omega
      have d3 : decide ((24 : Int) < W.length) = false := decide_eq_false (by omega)
      have hW20 : W.length ≤ 20 := by omega
      obtain ⟨vb, vo, vc', hv, -, -, hcell⟩ := HS.out.sl.some (by omega)
      simp only [Value.slice.injEq, true_and] at hv
      obtain ⟨rfl, rfl⟩ := hv
      have HC := Hd.mk hcell
      have hWne : ¬ W = [] := fun e => hW0 (by rw [e]; rfl)
      have HW0 := Hd.mk hW0
      clear hcell hW0 hWk
      go_upto_region 19 with (fail)
      go_loopg [10, 11, 83] W.length (fun g s10 s11 ii wq => ∃ i : Nat, g + i = W.length ∧ ii = .int .i64 i ∧ Hd (∀ s ∈ W.take i, (47 : UInt8) ∉ s) ∧ wq = wr)
      case atStart => exact ⟨0, by omega, rfl, Hd.mk (by simp), rfl⟩
      case round =>
        obtain ⟨i, hg, rfl, HN, rfl⟩ := hrel
        have HG := Hd.mk hg
        clear hg
        by_cases hi : i < W.length
        · have k0 := HC.out i (by omega)
          rw [List.getElem?_map, List.getElem?_eq_getElem hi] at k0
          have HTK := Hd.mk (show W.take (i + 1) = W.take i ++ [W[i]] from List.take_succ_eq_append_getElem hi)
          have HWi := Hd.mk (HW.out _ (List.getElem_mem hi))
          generalize W[i] = x at k0 HTK HWi
          obtain ⟨s, hs, hsx, hsz⟩ := S_ex x
          rw [Option.map_some, hs] at k0
          have h30 : s.size ≤ 30 := by rw [hsz]; exact HWi.out.len
          have HX := Hd.mk hsx
          clear hs hsx hsz HWi
          obtain ⟨gq, hgq⟩ : ∃ gq, gq = gk - 1 := ⟨_, rfl⟩
          have HGQ := Hd.mk hgq
          have HG := Hd.mk (show gq + (i + 1) = W.length ∧ gq < gk by have := HG.out; omega)
          clear hgq
          go_upto_region 22 with (fail)
          go_loopg [11, 89] s.size (fun g s11 ii wz => ∃ j : Nat, g + j = s.size ∧ ii = .int .i64 j ∧ Hd ((47 : UInt8) ∉ s.data.toList.take j) ∧ wz = wr)
          case atStart => exact ⟨0, by omega, rfl, Hd.mk (by simp), rfl⟩
          case round =>
            obtain ⟨j, hj0, rfl, HJ, rfl⟩ := hrel
            have HGJ := Hd.mk hj0
            clear hj0
            by_cases hj : j < s.size
            · have h' : j < s.data.toList.length := by rw [Array.length_toList]; exact hj
              have HTJ := Hd.mk (List.take_succ_eq_append_getElem h')
              have HAT := Hd.mk (byte_at s j hj h')
              obtain ⟨c, hc⟩ : ∃ c, s[j] = c := ⟨_, rfl⟩
              rw [← HAT.out, hc] at HTJ
              clear HAT
              by_cases c1 : c = 47
              · have q1 : ((c.toNat : Int) == 47) = true := by rw [c1]; rfl
                have q3 : (c.toNat : Int) = 47 := by rw [c1]; rfl
                go_wp2_with fail
                go_ret
                exact ⟨rfl, HS.out.upd.below _ (Nat.le_refl _) (by simp)⟩
              have q1 : ((c.toNat : Int) == 47) = false := by rw [beq_eq_false_iff_ne]; exact fun e => c1 (UInt8.toNat_inj.1 (show c.toNat = 47 by omega))
              have q3 : ¬ (c.toNat : Int) = 47 := by simpa using q1
              have HC1 := Hd.mk c1
              clear c1
              go_wp2_with fail
              go_roundg (gk - 1)
              case measure => have := HGJ.out; omega
              case rel => exact ⟨j + 1, by have := HGJ.out; omega, by go_num, Hd.mk (by
                rw [HTJ.out, List.mem_append, List.mem_singleton]
                rintro (h | h)
                · exact HJ.out h
                · exact HC1.out h.symm), rfl⟩
            · obtain rfl : j = s.size := by have := HGJ.out; omega
              clear hj
              go_wp2_with fail
              go_roundg gq
              case measure => have := HG.out; omega
              case rel => exact ⟨i + 1, by have := HG.out; omega, by go_num, Hd.mk (by
                rw [HTK.out]
                intro t ht
                rcases List.mem_append.1 ht with h | h
                · exact HN.out t h
                · rw [List.mem_singleton] at h
                  subst h
                  have h2 := HJ.out
                  rw [List.take_of_length_le (by rw [Array.length_toList]; exact Nat.le_refl _), HX.out] at h2
                  exact h2), rfl⟩
        · obtain rfl : i = W.length := by have := HG.out; omega
          rw [List.take_length] at HN
          clear hi
          go_upto_region 29 with (fail)
          obtain ⟨T, hT, hTl⟩ : ∃ T : Nat, a1 % 65536 % (W.length : Int) = T ∧ T < W.length := by
            have h0 := HW0.out
            have h1 := Int.emod_nonneg (a1 % 65536) (show (W.length : Int) ≠ 0 by omega)
            have h2 := Int.emod_lt_of_pos (a1 % 65536) (show (0 : Int) < W.length by omega)
            exact ⟨(a1 % 65536 % (W.length : Int)).toNat, by omega, by omega⟩
          rw [hT]
          clear hT
          go_upto_region 31 with (fail)
          go_loopg [12, 13, 105] W.length (fun g s12 s13 ii wq => ∃ i : Nat, g + i = W.length ∧ ii = .int .i64 i ∧ Hd (Tr wq s12 (turned W T i)) ∧ Hd (Upd [] wr wq))
          case atStart => exact ⟨0, by omega, rfl, Hd.mk (Tr.nil _), Hd.mk (Upd.refl _ _)⟩
          case round =>
            obtain ⟨i, hg, rfl, HTR, HV⟩ := hrel
            have HG := Hd.mk hg
            clear hg
            by_cases hi : i < W.length
            · obtain ⟨m, hm, hml⟩ : ∃ m : Nat, ((i : Int) + T) % (W.length : Int) = m ∧ m < W.length := by
                have h1 := Int.emod_nonneg ((i : Int) + T) (show (W.length : Int) ≠ 0 by omega)
                have h2 := Int.emod_lt_of_pos ((i : Int) + T) (show (0 : Int) < W.length by omega)
                exact ⟨(((i : Int) + T) % (W.length : Int)).toNat, by omega, by omega⟩
              have HSU := Hd.mk (show turned W T (i + 1) = turned W T i ++ [wrt W[m]] by
                rw [turned_succ]
                have : (i + T) % W.length = m := by
                  have h3 : (((i + T) % W.length : Nat) : Int) = (m : Int) := by rw [← hm]; simp
                  omega
                rw [this, List.getD_eq_getElem?_getD, List.getElem?_eq_getElem hml]
                rfl)
              have hcell := HC.out m (by omega)
              rw [List.getElem?_map, List.getElem?_eq_getElem hml] at hcell
              have k0 := (HV.out.cell (p := ⟨vb, vo + m, none⟩) (HS.out.sl.lt vb (by simp [ownB])) (by simp)).trans hcell
              have HWi := Hd.mk (HW.out _ (List.getElem_mem hml))
              generalize W[m] = x at k0 HSU HWi
              obtain ⟨s, hs, hsx, hsz⟩ := S_ex x
              rw [Option.map_some, hs] at k0
              have h30 : s.size ≤ 30 := by rw [hsz]; exact HWi.out.len
              rw [← hsx] at HSU HWi
              have hp1 : ¬ 9223372036854775807 < 1 + s.size := by omega
              clear hs hsx hsz hcell
              go_wp2_with fail
              refine (wwith _ (turned W T i) wr.heap.size s _ (HTR.out.upd ((Upd.refl [] wr).alloc _)) (Blk.new wr _ _ _ rfl) HWi.out (by rw [turned_len]; omega)).mono ?_
              rintro e w5 ⟨tb, rfl, htr, hu⟩
              rw [← HSU.out] at htr
              have HTR := Hd.mk htr
              have HV := Hd.mk (HV.out.trans (((Upd.refl [] wr).alloc _).trans hu (by simp)) (by simp))
              clear htr hu
              go_wp2_with fail
              go_roundg (gk - 1)
              case measure => have := HG.out; omega
              case rel => exact ⟨i + 1, by have := HG.out; omega, by go_num, HTR, HV⟩
            · obtain rfl : i = W.length := by have := HG.out; omega
              clear hi
              have HMT := Hd.mk (words_mt W (turned W T W.length) HW.out HN.out (turned_mem W T hTl))
              have HTL := Hd.mk (turned_len W T W.length)
              generalize turned W T W.length = L at HTR HMT HTL
              have HU := Hd.mk (HS.out.upd.trans HV.out (by simp))
              have HM := Hd.mk (HM.out.upd HV.out (by simp))
              have HVS := Hd.mk (HS.out.sl.upd HV.out (by simp))
              clear HV HS HC HG
              go_upto_region 36 with (fail)
              go_loopg [15, 16, 17, 18, 19, 20, 21, 125] W.length (fun g s15 s16 s17 s18 s19 s20 s21 ii wq => ∃ i : Nat, g + i = W.length ∧ ii = .int .i64 i ∧ Hd (Upd [] wr wq))
              case atStart => exact ⟨0, by omega, rfl, Hd.mk (Upd.refl _ _)⟩
              case round =>
                obtain ⟨i, hg, rfl, HV⟩ := hrel
                have HG := Hd.mk hg
                clear hg
                have HTR := Hd.mk (HTR.out.upd HV.out)
                have HM := Hd.mk (HM.out.upd HV.out (by simp))
                have HU := Hd.mk (HU.out.trans HV.out (by simp))
                by_cases hi : i < W.length
                · have k0 := (HVS.out.upd HV.out (by simp)).cell i (by omega)
                  rw [List.getElem?_map, List.getElem?_eq_getElem hi] at k0
                  have HWi := Hd.mk (HW.out _ (List.getElem_mem hi))
                  have HXi := Hd.mk (List.getElem_mem hi)
                  generalize W[i] = x at k0 HWi HXi
                  obtain ⟨s, hs, hsx, hsz⟩ := S_ex x
                  rw [Option.map_some, hs] at k0
                  have h30 : s.size ≤ 30 := by rw [hsz]; exact HWi.out.len
                  have h1 : 0 < s.size := by
                    rw [hsz]
                    exact List.length_pos_iff.2 HWi.out.ne
                  rw [← hsx] at HWi HXi
                  clear hs hsx hsz
                  go_upto_region 38 with (fail)
                  clear k0
                  go_wp2_with fail
                  refine (wmatch _ L wr.heap.size s _ (HTR.out.upd ((Upd.refl [] wr).alloc _)) (Blk.new wr _ _ _ rfl) (by omega) (by have := HTL.out; omega)).mono ?_
                  rintro e w5 ⟨hh, pa, aa, pn, pc, an, ac, rfl, hu⟩
                  rw [HMT.out, decide_eq_true HXi.out]
                  go_upto_region 39 with (fail)
                  refine wp_abs (fun X => Upd [] wr X) ((((Upd.refl [] wr).alloc _).trans hu (by simp)).alloc _) ?_
                  clear hu
                  generalize w5.heap.size = b5
                  rintro w6 u6
                  have HV := Hd.mk (HV.out.trans u6 (by simp))
                  have HTR := Hd.mk (HTR.out.upd u6)
                  have HM := Hd.mk (HM.out.upd u6 (by simp))
                  clear u6
                  have hp1 : ¬ 9223372036854775807 < s.size + 1 := by omega
                  go_wp2_with fail
                  refine (wmatch _ L w6.heap.size (s ++ { data := #[126] }) _ (HTR.out.upd ((Upd.refl [] w6).alloc _)) (Blk.new w6 _ _ _ rfl) (by rw [ByteArray.size_append]; show s.size + 1 ≤ _; omega) (by have := HTL.out; omega)).mono ?_
                  rintro e w7 ⟨hh2, pa2, aa2, pn2, pc2, an2, ac2, rfl, hu⟩
                  rw [HMT.out]
                  obtain ⟨bb, hbb⟩ : ∃ b, decide ((s ++ { data := #[126] }).data.toList ∈ W) = b := ⟨_, rfl⟩
                  rw [hbb]
                  have HBB := Hd.mk hbb
                  clear hbb
                  go_upto_region 42 with (fail)
                  refine wp_abs (fun X => Upd [] w6 X) ((((Upd.refl [] w6).alloc _).trans hu (by simp)).alloc _) ?_
                  clear hu
                  generalize w7.heap.size = b7
                  rintro w8 u8
                  have HV := Hd.mk (HV.out.trans u8 (by simp))
                  have HTR := Hd.mk (HTR.out.upd u8)
                  have HM := Hd.mk (HM.out.upd u8 (by simp))
                  have hlk := HM.out.look (s ++ { data := #[126] })
                  rw [HBB.out] at hlk
                  have hbb : (bb == bb) = true := by simp
                  clear u8
                  go_upto_region 44 with (fail)
                  clear hlk hbb HBB
                  go_wp2_with fail
                  have hsm : (s.extract 0 (s.size - 1)).size = s.size - 1 := by rw [ByteArray.size_extract]; omega
                  refine (wmatch _ L w8.heap.size (s.extract 0 (s.size - 1)) _ (HTR.out.upd ((Upd.refl [] w8).alloc _)) (Blk.new w8 _ _ _ rfl) (by omega) (by have := HTL.out; omega)).mono ?_
                  rintro e w9 ⟨hh3, pa3, aa3, pn3, pc3, an3, ac3, rfl, hu⟩
                  rw [HMT.out]
                  obtain ⟨b3, hb3⟩ : ∃ b, decide ((s.extract 0 (s.size - 1)).data.toList ∈ W) = b := ⟨_, rfl⟩
                  rw [hb3]
                  have HB3 := Hd.mk hb3
                  have HSM := Hd.mk hsm
                  clear hb3 hsm
                  go_upto_region 45 with (fail)
                  refine wp_abs (fun X => Upd [] w8 X) ((((Upd.refl [] w8).alloc _).trans hu (by simp)).alloc _) ?_
                  clear hu
                  generalize w9.heap.size = b9
                  rintro w10 u10
                  have HV := Hd.mk (HV.out.trans u10 (by simp))
                  have HM := Hd.mk (HM.out.upd u10 (by simp))
                  have hlk := HM.out.look (s.extract 0 (s.size - 1))
                  rw [HB3.out] at hlk
                  clear u10
                  by_cases h2 : 1 < s.size
                  · have q1 : decide ((1 : Int) < s.size) = true := decide_eq_true (by omega)
                    cases b3 <;>
                    · go_wp2_with fail
                      go_roundg (gk - 1)
                      case measure => have := HG.out; omega
                      case rel => exact ⟨i + 1, by have := HG.out; omega, by go_num, HV⟩
                  · have q1 : decide ((1 : Int) < s.size) = false := decide_eq_false (by omega)
                    obtain rfl : b3 = false := by
                      rw [← HB3.out, decide_eq_false_iff_not]
                      intro hm
                      apply (HW.out _ hm).ne
                      apply List.eq_nil_of_length_eq_zero
                      rw [Array.length_toList]
                      have h3 := HSM.out
                      rw [show s.size - 1 = 0 by omega] at h3 ⊢
                      exact h3
                    go_wp2_with fail
                    go_roundg (gk - 1)
                    case measure => have := HG.out; omega
                    case rel => exact ⟨i + 1, by have := HG.out; omega, by go_num, HV⟩
                · obtain rfl : i = W.length := by have := HG.out; omega
                  clear hi
                  go_wp2_with fail
                  refine (Tr.len _ L wr HTR.out).mono ?_
                  rintro e w5 ⟨rfl, hw⟩
                  subst hw
                  rw [HTL.out]
                  have hq : ((W.length : Int) == W.length) = true := by simp
                  go_wp2_with fail
                  go_ret
                  exact ⟨rfl, HU.out.below _ (Nat.le_refl _) (by simp)⟩
end Go.Proofs.YtiombjmkaejjfaaDoor
