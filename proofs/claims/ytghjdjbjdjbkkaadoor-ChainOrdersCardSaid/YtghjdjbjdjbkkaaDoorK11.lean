/- ChainOrders: the chain as a whole; the law. -/
import Derived.Test.YtghjdjbjdjbkkaaDoorK10
namespace Go.Proofs.YtghjdjbjdjbkkaaDoor
set_option linter.unusedSimpArgs false
set_option linter.unusedVariables false
set_option linter.unnecessarySimpa false
open Go.RowKit BigFrame

theorem hd_ok (n : Nat) (hn : n ≤ 16) : ∀ (j g : Nat) (caps : Array Value) (w : World), j ≤ n → HdAt w n j g caps → Calls Tryd.prog g (#[.agg c0.cells.toArray] ++ caps) w fun e w' => e = .returned (.agg (Pc 0 none 0 0 (nestB n j) false).toArray) ∧ Upd [] w w' := by
  intro j
  induction j with
  | zero =>
    intro g caps w _ h
    obtain ⟨rfl, rfl⟩ := h
    exact x_ok w
  | succ j ih =>
    intro g caps w hj h
    obtain ⟨b, ib, g', caps', rfl, rfl, h3, h4, h5⟩ := h
    have hz := nestB_size n j hn
    exact one_ok g' b ib caps' (n - 1 - j) (by omega) (nestB n j) (by omega) w h3 h4 (hd_enters h5) (fun W hu => ih g' caps' W (by omega) (h5.upd hu))
/-- A link: a closure with its number. -/
def lk (b : Nat) : Value := .func (.func 8) #[] #[.pointer (some ⟨b, 0, none⟩)]
/-- The links in a slice. -/
structure Links (w : World) (v : Value) (n : Nat) (ibs : List Nat) : Prop where
  len : ibs.length = n
  sl : Sl w 51 1 v n (ibs.map lk)
  nums : ∀ k (h : k < ibs.length), Blk w ibs[k] [.int .i64 k] 3
theorem Links.upd {w w' : World} {v : Value} {n : Nat} {ibs : List Nat} (h : Links w v n ibs) (hu : Upd [] w w') : Links w' v n ibs :=
  ⟨h.len, h.sl.upd hu (by simp), fun k hk => hu.blk (h.nums k hk) (by simp)⟩
set_option maxHeartbeats 1000000 in
theorem all_o (v : Value) (n : Nat) (hn : n < 16) (ibs : List Nat) (w : World) (h : Links w v n ibs) : Calls Tryd.prog 11 #[.func (.func 12) #[] #[], v] w fun e w' => ∃ g caps, e = .returned (.func (.func g) #[] caps) ∧ HdAt w' n n g caps ∧ Upd [] w w' := by
  obtain ⟨a, cap, rfl⟩ := h.sl.form
  have HL := Hd.mk h
  clear h
  have hen := enters _ _ _ Tryd.func8 (by kernel_rfl) rfl
  have HE := Hd.mk hen
  clear hen
  go_enter Tryd.func11, Tryd.ntmps11
  go_upto_region 2 with (fail)
  go_loopg [0, 5] n (fun q h i wr => ∃ g caps, h = .func (.func g) #[] caps ∧ i = .int .i64 ((q : Int) - 1) ∧ q ≤ n ∧ Hd (HdAt wr n (n - q) g caps ∧ Upd [] w wr))
  case atStart => exact ⟨12, #[], rfl, by dsimp only, Nat.le_refl _, by rw [Nat.sub_self]; exact ⟨⟨rfl, rfl⟩, Upd.refl _ _⟩⟩
  case round =>
    obtain ⟨g, caps, rfl, rfl, hq, HR⟩ := hrel
    cases gk with
    | zero =>
      go_wp2_with fail
      go_ret
      have h1 := HR.out.1
      rw [Nat.sub_zero] at h1
      exact ⟨g, caps, rfl, h1, HR.out.2⟩
    | succ q =>
      obtain ⟨b, o, cap', hv, _, _, hc⟩ := (HL.out.upd HR.out.2).sl.some (by omega)
      simp only [Value.slice.injEq] at hv
      obtain ⟨rfl, _, rfl⟩ := hv
      have hl : q < ibs.length := by rw [HL.out.len]; omega
      have hc' := hc q (by omega)
      rw [List.getElem?_map, List.getElem?_eq_getElem hl] at hc'
      simp only [Option.map_some, lk] at hc'
      have hnum := HL.out.nums q hl
      have HN := Hd.mk (HR.out.2.blk hnum (by simp))
      generalize ibs[q] = ib at hc' HN
      have hen := HE.out
      rw [show ((q + 1 : Nat) : Int) - 1 = (q : Int) by omega]
      clear hc hnum hl
      go_wp2_with fail
      refine (link_o g caps ib wr).mono ?_
      rintro e w1 ⟨rfl, hw1⟩
      have u1 : Upd [] wr w1 := by rw [hw1]; exact (Upd.refl [] wr).alloc _
      have b1 : Blk w1 wr.heap.size [.func (.func g) #[] caps] 25 := by rw [hw1]; exact Blk.new wr [.func (.func g) #[] caps] _ _ rfl
      have HR2 := Hd.mk (show HdAt w1 n (n - q) 9 #[.pointer (some ⟨wr.heap.size, 0, none⟩), .pointer (some ⟨ib, 0, none⟩)] ∧ Upd [] w w1 by
        refine ⟨?_, HR.out.2.trans u1 (by simp)⟩
        rw [show n - q = (n - (q + 1)) + 1 by omega]
        refine ⟨_, _, g, caps, rfl, rfl, b1, ?_, HR.out.1.upd u1⟩
        rw [show n - 1 - (n - (q + 1)) = q by omega]
        exact u1.blk HN.out (by simp))
      clear u1 b1 hw1 HN HR hc' hen
      go_wp2_with fail
      go_roundg q
      case rel => exact ⟨_, _, rfl, rfl, by omega, HR2⟩
      case measure => omega
theorem links_next {w1 wr w2 w3 : World} {v v' : Value} {i ib : Nat} {ibs : List Nat} (h : Links wr v i ibs) (b : Bld w1 wr 51 1 v i (ibs.map lk)) (hb : Blk w2 ib [.int .i64 i] 3) (hu : Upd [] wr w2)
    (hs : Sl w3 51 1 v' (i + 1) (ibs.map lk ++ [lk ib])) (hu3 : Upd (ownB v) w2 w3) (ho : ∀ k, k ∈ ownB v' → k ∈ ownB v ∨ w2.heap.size ≤ k) :
    Links w3 v' (i + 1) (ibs ++ [ib]) ∧ Bld w1 w3 51 1 v' (i + 1) ((ibs ++ [ib]).map lk) := by
  have hs2 := h.sl.upd hu (by simp)
  have hot := hs2.other (t := 3) (by decide)
  have e : (ibs ++ [ib]).map lk = ibs.map lk ++ [lk ib] := by simp
  refine ⟨⟨by simp [h.len], by rw [e]; exact hs, fun k hk => ?_⟩, ?_⟩
  · by_cases hk2 : k < ibs.length
    · rw [List.getElem_append_left hk2]
      have hb2 := hu.blk (h.nums k hk2) (by simp)
      exact hu3.blk hb2 (fun hm => hot _ hm _ hb2)
    · obtain rfl : k = ibs.length := by simp at hk; omega
      rw [List.getElem_append_right (by omega)]
      simp only [Nat.sub_self, List.getElem_cons_zero]
      rw [h.len]
      exact hu3.blk hb (fun hm => hot _ hm _ hb)
  · rw [e]; exact (b.over hu).app hs hu3 ho
theorem nest_next (n q : Nat) (h : q + 1 ≤ n) : itoaB (q : Int) ++ ⟨#[40]⟩ ++ nestB n (n - (q + 1)) ++ ⟨#[41]⟩ = nestB n (n - q) := by
  obtain ⟨j, rfl⟩ : ∃ j, n = q + 1 + j := ⟨n - (q + 1), by omega⟩
  rw [show q + 1 + j - (q + 1) = j by omega, show q + 1 + j - q = j + 1 by omega]
  show _ = itoaB ((q + 1 + j - 1 - j : Nat) : Int) ++ ⟨#[40]⟩ ++ nestB (q + 1 + j) j ++ ⟨#[41]⟩
  rw [show q + 1 + j - 1 - j = q by omega]
set_option maxRecDepth 100000 in
set_option maxHeartbeats 2000000 in
theorem orders_row (z : Int) (w : World) (hT : Tab w) (_ : (Lit.int .i64 z).wf = true) :
    Calls Tryd.prog 3 #[.int .i64 z] w fun e w' => e = .returned (.bool true) ∧ Below w.heap.size w w' := by
  obtain ⟨n, hn⟩ : ∃ n : Nat, z % 16 = n := ⟨(z % 16).toNat, by omega⟩
  have hn16 : n < 16 := by omega
  have HZ := Hd.mk hn
  have HT := Hd.mk hT
  clear hn hT
  go_enter Tryd.func3, Tryd.ntmps3
  go_wp2_with fail
  refine (fit_ok w HT.out).mono ?_
  rintro e w1 ⟨rfl, u1⟩
  have HU := Hd.mk u1
  clear u1
  go_upto_region 6 with (fail)
  rw [HZ.out]
  go_loopg [3, 13] n (fun q v ii wr => ∃ i : Nat, q + i = n ∧ ii = .int .i64 i ∧ Hd (∃ ibs, Links wr v i ibs ∧ Bld w1 wr 51 1 v i (ibs.map lk)))
  case atStart => exact ⟨0, by omega, rfl, ⟨[], ⟨rfl, Sl.nil _ _ _, by simp⟩, Bld.nil (Upd.refl _ _) _ _⟩⟩
  case round =>
    obtain ⟨i, hq, rfl, HI⟩ := hrel
    have HQ := Hd.mk hq
    by_cases hi : i < n
    · obtain ⟨ibs, hl, hb⟩ := HI.out
      have HL := Hd.mk (And.intro hl hb)
      have hsl := hl.sl
      clear hl hb hq HI
      go_upto_region 8 with (fail)
      refine wp_abs (fun W => Blk W wr.heap.size [.int .i64 i] 3 ∧ Upd [] wr W) ⟨Blk.new wr [.int .i64 i] _ _ rfl, (Upd.refl [] wr).alloc _⟩ ?_
      rintro w2 ⟨b2, u2⟩
      generalize wr.heap.size = ib at b2 ⊢
      have HL2 := Hd.mk (And.intro b2 u2)
      have hsl2 := hsl.upd u2 (by simp)
      clear b2 u2 hsl
      go_wp2_with (at_builtin; refine wpList_append_row rfl (.tmp 16) (.tmp 18) 23 rfl rfl 51 .nilFunc 1 8 Tryd.underlying23 (by kernel_rfl) rfl _ _ _ rfl hsl2 [lk ib] rfl rfl rfl (by omega) (by omega) ?_)
      intro v' w3 h3 u3' o3
      have HL3 := Hd.mk (links_next HL.out.1 HL.out.2 HL2.out.1 HL2.out.2 h3 u3' o3)
      clear h3 u3' o3 HL HL2 hsl2
      go_wp2_with fail
      go_roundg (n - (i + 1))
      case rel => exact ⟨i + 1, by omega, by go_num, ⟨_, HL3.out⟩⟩
      case measure => have := HQ.out; omega
    · obtain rfl : i = n := by omega
      obtain ⟨ibs, hl, hb⟩ := HI.out
      have HL := Hd.mk (And.intro hl hb)
      clear hl hb hq hi HI
      go_upto_region 12 with (fail)
      obtain ⟨wo, hwo⟩ : ∃ wo, wr = wo := ⟨_, rfl⟩
      rw [hwo] at HL ⊢
      clear hwo
      go_loopg [5, 6] i (fun q s ii wr => q ≤ i ∧ s = .string (nestB i (i - q)) ∧ ii = .int .i64 ((q : Int) - 1) ∧ Hd (Upd [] wo wr))
      case atStart => exact ⟨Nat.le_refl _, by rw [Nat.sub_self]; rfl, by dsimp only, Upd.refl _ _⟩
      case round =>
        obtain ⟨hq, rfl, rfl, HW⟩ := hrel
        cases gk with
        | zero =>
          rw [Nat.sub_zero]
          go_wp2_with fail
          refine (all_o u3 i hn16 ibs wr (HL.out.1.upd HW.out)).mono ?_
          rintro e w4 ⟨g, caps, rfl, hd, u4⟩
          have HD := Hd.mk (hd_ok i (by omega) i g caps)
          have HH := Hd.mk hd
          have hen := hd_enters hd
          have HW4 := Hd.mk (HW.out.trans u4 (by simp))
          clear hd u4
          go_upto_region 16 with (fail)
          go_wp2_with fail
          refine (HD.out w4 (Nat.le_refl _) HH.out).mono ?_
          rintro e w5 ⟨rfl, u5⟩
          have HW5 := Hd.mk (HW4.out.trans u5 (by simp))
          have y1 := str_yes (rfl : nestB i i = nestB i i)
          generalize nestB i i = s at y1 ⊢
          rw [show ((Pc 0 none 0 0 s false).toArray) = #[.int .i64 0, .slice none 0 0, .string s, .bool false] from rfl]
          have hfl : ∀ (W : World), (Instr.field 36 (.agg #[.int .i64 0, .slice none 0 0, .string s, .bool false]) 2).run Tryd.prog W = .ok (.string s) W := fun W => by kernel_rfl
          clear u5 hen HD HH HW4
          go_wp2_with fail
          refine (std_ok _).mono ?_
          rintro e w6 ⟨rfl, hw6⟩
          have HW6 := Hd.mk (show Upd [] w w6 by rw [hw6]; exact (HU.out.trans (HL.out.2.upd.trans HW5.out (by simp)) (by simp)).alloc _)
          clear hw6
          go_wp2_with fail
          go_ret
          exact ⟨rfl, HW6.out.nil_below⟩
        | succ q =>
          rw [show ((q + 1 : Nat) : Int) - 1 = (q : Int) by omega]
          have hz := nestB_size i (i - (q + 1)) (by omega)
          have HN := Hd.mk (nest_next i q hq)
          generalize nestB i (i - (q + 1)) = s at hz HN ⊢
          go_wp2_with fail
          refine (digits_ok q (by omega) (by omega) wr).mono ?_
          rintro e w4 ⟨rfl, u4⟩
          have zit := itoaB_size (q : Int) (by omega) (by omega)
          have HW4 := Hd.mk (HW.out.trans u4 (by simp))
          clear u4
          generalize itoaB (q : Int) = it at zit HN ⊢
          have s1 : ¬ 9223372036854775807 < it.size + 1 := by omega
          have s2 : ¬ 9223372036854775807 < it.size + 1 + s.size := by omega
          have s3 : ¬ 9223372036854775807 < it.size + 1 + s.size + 1 := by omega
          go_wp2_with fail
          rw [HN.out]
          go_roundg q
          case rel => exact ⟨by omega, rfl, rfl, HW4⟩
          case measure => omega
end Go.Proofs.YtghjdjbjdjbkkaaDoor
