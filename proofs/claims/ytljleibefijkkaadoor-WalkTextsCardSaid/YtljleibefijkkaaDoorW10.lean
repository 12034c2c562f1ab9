/- WalkTexts: four whole numbers tell a walk. -/
import Derived.Test.YtljleibefijkkaaDoorW7
import Derived.Test.YtljleibefijkkaaDoorBy
namespace Go.Proofs.YtljleibefijkkaaDoor
set_option linter.unusedSimpArgs false
set_option linter.unusedVariables false
set_option linter.unnecessarySimpa false
open Go.RowKit BigFrame

theorem bapp_assoc (a b c : ByteArray) : a ++ b ++ c = a ++ (b ++ c) := by apply ByteArray.ext; simp
def dg (d : Int) : ByteArray := ⟨#[UInt8.ofNat d.toNat]⟩
@[go_sem] theorem dg_size (d : Int) : (dg d).size = 1 := rfl
@[go_sem] theorem conv1 (W : World) (b : Nat) (d : Int) (hb : W.heap.size = b) : (convert 23 9 (.slice (some ⟨b, 0, none⟩) 1 1)).run Tryd.prog (W.alloc (.cells #[.int .u8 d] 5)) = .ok (.string (dg d)) (W.alloc (.cells #[.int .u8 d] 5)) := by
  subst hb
  rw [run_convert_bytes_string _ 23 9 5 _ 1 1 Tryd.underlying23 Tryd.underlying5 Tryd.underlying9]
  have hl := run_loadCells_list (P := Tryd.prog) (W.alloc (.cells #[.int .u8 d] 5)) ⟨W.heap.size, 0, none⟩ ([d].map (Value.int .u8)) (fun j v hj => by
    have := (Blk.new W [.int .u8 d] 5 _ rfl).cell j
    rw [Addr.add_lit, Nat.zero_add]
    exact this.trans hj)
  simp only [List.length_map, List.length_cons, List.length_nil, Nat.zero_add] at hl
  rw [run_bytesToString _ _ 1 1 _ hl]
  rfl
theorem dg_app (a b : Int) : dg a ++ dg b = ⟨#[UInt8.ofNat a.toNat, UInt8.ofNat b.toNat]⟩ := by apply ByteArray.ext; rfl
theorem itoa_p1 (n : Int) (h0 : 0 ≤ n) (h1 : n < 10) : itoaB n = dg (48 + n % 10) := by
  unfold itoaB Lib.itoa dg
  rw [if_neg (by omega), dec1 _ (by omega)]
  congr 4
  omega
theorem itoa_p2 (n : Int) (h0 : 10 ≤ n) (h1 : n < 100) : itoaB n = dg (48 + n / 10) ++ dg (48 + n % 10) := by
  unfold itoaB Lib.itoa
  rw [dg_app, if_neg (by omega), dec2 _ (by omega) (by omega)]
  congr 4
  · omega
  · congr 2; omega
theorem itoa_n (n : Int) (h0 : n < 0) (h1 : -100 < n) : itoaB n = ⟨#[45]⟩ ++ itoaB (-n) := by
  unfold itoaB Lib.itoa
  rw [if_pos h0, if_neg (by omega)]
  rw [show n.natAbs = (-n).toNat by omega]
  apply ByteArray.ext
  simp

/-- The floats of a walker, as bits. -/
def bits (a b c d : Nat) : Nat → Nat
  | 0 => a
  | 1 => b
  | 2 => c
  | _ => d

set_option maxRecDepth 100000 in
set_option maxHeartbeats 4000000 in
theorem texts_walk (s : ByteArray) (ch : Int) (w : World) (hs : s.size ≤ 9223372036854775807) (hch : (Lit.int .u8 ch).wf = true) (hT : Tab w) :
    Calls Tryd.prog 5 #[.string s, .int .u8 ch] w fun e w' => e = .returned (.bool true) ∧ Upd [] w w' := by
  have HT := Hd.mk hT
  clear hT
  by_cases hl : 60 < s.size
  · go_enter Tryd.func5, Tryd.ntmps5
    go_wp2_with fail
    refine (fit_ok w HT.out).mono ?_
    rintro e w1 ⟨rfl, u1⟩
    go_wp2_with fail
    go_ret
    exact ⟨rfl, u1⟩
  have hl : s.size ≤ 60 := by omega
  have hlen : s.data.toList.length = s.size := by simp
  have hcb : 0 ≤ ch ∧ ch < 256 := by
    have h : IntKind.u8.min ≤ ch ∧ ch ≤ IntKind.u8.max := by simpa [Lit.wf] using hch
    have e1 : IntKind.u8.min = 0 := rfl
    have e2 : IntKind.u8.max = 255 := rfl
    omega
  clear hch
  cases hw : walkM s.data.toList with
  | none =>
    have HW := Hd.mk hw
    clear hw hlen
    go_enter Tryd.func5, Tryd.ntmps5
    go_wp2_with fail
    refine (fit_ok w HT.out).mono ?_
    rintro e w1 ⟨rfl, u1⟩
    go_wp2_with fail
    refine (walk_no s w1 hs HW.out).mono ?_
    rintro e w2 ⟨rfl, u2⟩
    have U := Hd.mk (u1.trans u2 (by simp))
    clear u1 u2
    simp only [zeroW]
    go_wp2_with fail
    go_ret
    exact ⟨rfl, U.out.alloc _⟩
  | some k =>
    obtain ⟨ho, hll, hst⟩ := walkM_ok hw
    have HW := Hd.mk (And.intro hw (And.intro hlen (And.intro ho hst)))
    have hnum : ∀ j, -40 ≤ k.num j ∧ k.num j ≤ 40 := by
      have hx := ho.x
      have hy := ho.y
      have hd := ho.d
      unfold small at hx hy
      intro j
      unfold Wk.num
      split <;> omega
    have HN := Hd.mk hnum
    have HUS := Hd.mk (Wk.upto_size k (ho.more (by omega)))
    rw [hlen] at hll
    clear hw hlen hst ho hnum
    go_enter Tryd.func5, Tryd.ntmps5
    go_wp2_with fail
    refine (fit_ok w HT.out).mono ?_
    rintro e w1 ⟨rfl, u1⟩
    go_wp2_with fail
    refine (walk_yes s w1 hs k HW.out.1).mono ?_
    rintro e w2 ⟨cs, hc, rfl, u2⟩
    have hc0 := hc
    obtain ⟨a, b, c, d, rfl, z1, z2, z3, z4⟩ := hc0
    have U := Hd.mk (u1.trans u2 (by simp))
    have HC := Hd.mk hc
    have hint : ∀ j, floatToIntVal .f64 (bits a b c d j) .i64 = some (k.num j) := by
      have ho := HW.out.2.2.1
      have s1 : small 41 k.x := by have := ho.x; unfold small at *; omega
      have s2 : small 41 k.y := by have := ho.y; unfold small at *; omega
      have s3 : small 41 k.dx := by have := ho.d; unfold small at *; omega
      have s4 : small 41 k.dy := by have := ho.d; unfold small at *; omega
      intro j
      match j with
      | 0 => exact z1.int s1
      | 1 => exact z2.int s2
      | 2 => exact z3.int s3
      | _ + 3 => exact z4.int s4
    have HI := Hd.mk hint
    clear u1 u2 z1 z2 z3 z4 hc hint
    go_wp2_with fail
    refine wp_abs (fun W => Blk W w2.heap.size [.complex .f64 a b, .complex .f64 c d] 26 ∧ Blk W (w2.heap.size + 1) [.float .f64 a, .float .f64 b, .float .f64 c, .float .f64 d] 29 ∧ Upd [] w W) ⟨(Blk.new w2 [.complex .f64 a b, .complex .f64 c d] _ _ rfl).alloc _, Blk.new (w2.alloc _) [.float .f64 a, .float .f64 b, .float .f64 c, .float .f64 d] _ _ (by simp), (U.out.alloc _).alloc _⟩ ?_
    rintro w3 ⟨b1, b2, u3⟩
    generalize w2.heap.size + 1 = fb at b2 ⊢
    generalize w2.heap.size = wb at b1 ⊢
    go_loopg [7, 41] 4 (fun g t i wr => ∃ j : Nat, j + g = 4 ∧ t = .string (k.upto j) ∧ i = .int .i64 j ∧ Blk wr wb [.complex .f64 a b, .complex .f64 c d] 26 ∧ Blk wr fb [.float .f64 a, .float .f64 b, .float .f64 c, .float .f64 d] 29 ∧ Upd [] w wr)
    case atStart => exact ⟨0, by omega, rfl, rfl, b1, b2, u3⟩
    case round =>
      obtain ⟨j, hj, rfl, rfl, b1, b2, u3⟩ := hrel
      by_cases hlt : j < 4
      · have hcell : wr.cell? ⟨fb, j, none⟩ = some (.float .f64 (bits a b c d j)) := by
          rw [b2.cell]
          match j, hlt with
          | 0, _ => rfl
          | 1, _ => rfl
          | 2, _ => rfl
          | 3, _ => rfl
        have hcv := fun w => run_convert_float_int (P := Tryd.prog) w 29 3 .f64 .i64 _ _ (by kernel_rfl) Tryd.underlying3 (HI.out j)
        obtain ⟨n1, n2⟩ := HN.out j
        have hus := HUS.out j
        have HB := Hd.mk (And.intro b1 (And.intro b2 u3))
        have HU : Hd (k.upto (j + 1) = (if 0 < j then k.upto j ++ ⟨#[32]⟩ else k.upto j) ++ itoaB (k.num j)) := Hd.mk rfl
        clear b1 b2 u3
        generalize k.num j = n at hcv n1 n2 HU
        generalize bits a b c d j = f at hcell hcv
        have hsg : (∃ m : Int, n = -m ∧ 0 < m ∧ m ≤ 40) ∨ (0 ≤ n ∧ n ≤ 40) := by
          by_cases h : n < 0
          · left; exact ⟨-n, by omega, by omega, by omega⟩
          · right; omega
        clear n1 n2
        rcases hsg with ⟨m, rfl, m1, m2⟩ | ⟨m1, m2⟩
        · by_cases hten : 10 ≤ m <;> by_cases hpos : 0 < j
          all_goals
            have HP := Hd.mk hpos
            have HE := Hd.mk hten
            go_wp2_with fail
            go_roundg (gk - 1)
            case measure => omega
            case rel =>
              refine ⟨j + 1, by omega, ?_, by simp, by have h := HB.out.1; repeat (first | with_reducible exact h | with_reducible apply Blk.drewN | with_reducible apply Blk.drew | with_reducible apply Blk.set | ((with_reducible refine Blk.set_ne ?_ _ _ ?hne); (case hne => first | (simp; omega))) | with_reducible apply Blk.alloc), by have h := HB.out.2.1; repeat (first | with_reducible exact h | with_reducible apply Blk.drewN | with_reducible apply Blk.drew | with_reducible apply Blk.set | ((with_reducible refine Blk.set_ne ?_ _ _ ?hne); (case hne => first | (simp; omega))) | with_reducible apply Blk.alloc), by have h := HB.out.2.2; repeat (first | with_reducible exact h | ((with_reducible refine Upd.set ?_ _ _ ?hne); (case hne => (simp; omega))) | with_reducible apply Upd.drewN | with_reducible apply Upd.drew | with_reducible apply Upd.alloc)⟩
              rw [HU.out]
              first | rw [if_pos HP.out] | rw [if_neg HP.out]
              rw [itoa_n _ (by omega) (by omega), Int.neg_neg]
              first | rw [itoa_p2 _ HE.out (by omega)] | rw [itoa_p1 _ (by omega) (by have := HE.out; omega)]
              try simp only [bapp_assoc]
        · by_cases hten : 10 ≤ n <;> by_cases hpos : 0 < j
          all_goals
            have HP := Hd.mk hpos
            have HE := Hd.mk hten
            go_wp2_with fail
            go_roundg (gk - 1)
            case measure => omega
            case rel =>
              refine ⟨j + 1, by omega, ?_, by simp, by have h := HB.out.1; repeat (first | with_reducible exact h | with_reducible apply Blk.drewN | with_reducible apply Blk.drew | with_reducible apply Blk.set | ((with_reducible refine Blk.set_ne ?_ _ _ ?hne); (case hne => first | (simp; omega))) | with_reducible apply Blk.alloc), by have h := HB.out.2.1; repeat (first | with_reducible exact h | with_reducible apply Blk.drewN | with_reducible apply Blk.drew | with_reducible apply Blk.set | ((with_reducible refine Blk.set_ne ?_ _ _ ?hne); (case hne => first | (simp; omega))) | with_reducible apply Blk.alloc), by have h := HB.out.2.2; repeat (first | with_reducible exact h | ((with_reducible refine Upd.set ?_ _ _ ?hne); (case hne => (simp; omega))) | with_reducible apply Upd.drewN | with_reducible apply Upd.drew | with_reducible apply Upd.alloc)⟩
              rw [HU.out]
              first | rw [if_pos HP.out] | rw [if_neg HP.out]
              skip
              first | rw [itoa_p2 _ HE.out (by omega)] | rw [itoa_p1 _ (by omega) (by have := HE.out; omega)]
              try simp only [bapp_assoc]
      · obtain rfl : j = 4 := by omega
        obtain ⟨cn, rfl⟩ : ∃ cn : Nat, ch = cn := ⟨ch.toNat, by omega⟩
        have hcn : cn < 256 := by omega
        have hstr : (s ++ dg (cn : Int)).data.toList = s.data.toList ++ [UInt8.ofNat cn] := by
          rw [data_app]; rfl
        have hsz : (s ++ dg (cn : Int)).size = s.size + 1 := by rw [ByteArray.size_append]; rfl
        have hto : (UInt8.ofNat cn).toNat = cn := by rw [UInt8.toNat_ofNat']; omega
        have hwm : walkM (s ++ dg (cn : Int)).data.toList = if s.size + 1 ≤ 40 then k.step cn else none := by
          unfold walkM
          rw [hstr, List.length_append, HW.out.2.1, steps_snoc, HW.out.2.2.2, hto]
          rfl
        have HX := Hd.mk (And.intro hwm hsz)
        have HB := Hd.mk (And.intro b1 u3)
        have c0 := b1.cell 0
        have c1 := b1.cell 1
        simp only [List.getElem?_cons_zero, List.getElem?_cons_succ] at c0 c1
        clear hwm hsz hstr hto b1 b2 u3 hcb hlt hj
        by_cases h40 : s.size = 40
        · have d40 : ((s.size : Int) == 40) = true := by simp; omega
          have HN2 := Hd.mk (show walkM (s ++ dg (cn : Int)).data.toList = none by rw [HX.out.1, if_neg (by omega)])
          have H40 := Hd.mk h40
          clear h40
          cases hst : k.step cn with
          | none =>
            have HST := Hd.mk hst
            clear hst
            go_wp2_with fail
            refine (step_none k cn _ _ HC.out HST.out).mono ?_
            rintro e w5 ⟨rfl, u5⟩
            simp only [zeroW]
            have B5 := Hd.mk (And.intro (u5.blk HB.out.1 (by simp)) (HB.out.2.trans u5 (by simp)))
            have z5 := B5.out.1.lt
            clear u5
            go_wp2_with fail
            refine (walk_no (s ++ dg (cn : Int)) _ (by rw [HX.out.2]; omega) HN2.out).mono ?_
            rintro e w6 ⟨rfl, u6⟩
            simp only [zeroW]
            have k1 := u6.blk ((B5.out.1.alloc (.cells ([.complex .f64 0 0, .complex .f64 0 0]).toArray 26)).alloc _) (by simp)
            have k2 := u6.blk ((Blk.new w5 [.complex .f64 0 0, .complex .f64 0 0] 26 _ rfl).alloc _) (by simp)
            have u7 := ((B5.out.2.alloc (.cells ([.complex .f64 0 0, .complex .f64 0 0]).toArray 26)).alloc _).trans u6 (by simp)
            clear u6 z5 c0 c1
            have l1 := k1.lt
            have l2 := k2.lt
            have HQ := Hd.mk (And.intro k1 (And.intro k2 u7))
            have c0 := k1.cell 0
            have c1 := k1.cell 1
            simp only [List.getElem?_cons_zero, List.getElem?_cons_succ] at c0 c1
            clear k1 k2 u7
            go_wp2_with fail
            refine (text_ok k [.complex .f64 a b, .complex .f64 c d] _ HC.out (HW.out.2.2.1.more (by omega)) (HT.out.upd (HQ.out.2.2.alloc _))).mono ?_
            rintro e w8 ⟨rfl, u8⟩
            have g2 := u8.blk (HQ.out.2.1.alloc (.cells ([.complex .f64 0 0, .complex .f64 0 0]).toArray 26)) (by simp)
            have g3 := u8.blk (Blk.new w6 [.complex .f64 0 0, .complex .f64 0 0] 26 _ rfl) (by simp)
            have U8 := Hd.mk ((HQ.out.2.2.alloc (.cells ([.complex .f64 0 0, .complex .f64 0 0]).toArray 26)).trans u8 (by simp))
            have m0 := g2.cell 0
            have m1 := g2.cell 1
            have n0 := g3.cell 0
            have n1 := g3.cell 1
            simp only [List.getElem?_cons_zero, List.getElem?_cons_succ] at m0 m1 n0 n1
            clear g2 g3 u8 c0 c1 l1 l2
            go_wp2_with fail
            go_ret
            exact ⟨rfl, U8.out⟩
          | some k' =>
            have HST := Hd.mk hst
            clear hst
            go_wp2_with fail
            refine (step_some k k' cn _ _ HC.out HW.out.2.2.1 HST.out).mono ?_
            rintro e w5 ⟨cs5, hc5, rfl, u5⟩
            obtain ⟨x0, x1, x2, x3, rfl, -⟩ := hc5
            have B5 := Hd.mk (And.intro (u5.blk HB.out.1 (by simp)) (HB.out.2.trans u5 (by simp)))
            have z5 := B5.out.1.lt
            clear u5
            go_wp2_with fail
            refine (walk_no (s ++ dg (cn : Int)) _ (by rw [HX.out.2]; omega) HN2.out).mono ?_
            rintro e w6 ⟨rfl, u6⟩
            simp only [zeroW]
            have k1 := u6.blk ((B5.out.1.alloc (.cells ([.complex .f64 x0 x1, .complex .f64 x2 x3]).toArray 26)).alloc _) (by simp)
            have k2 := u6.blk ((Blk.new w5 [.complex .f64 x0 x1, .complex .f64 x2 x3] 26 _ rfl).alloc _) (by simp)
            have u7 := ((B5.out.2.alloc (.cells ([.complex .f64 x0 x1, .complex .f64 x2 x3]).toArray 26)).alloc _).trans u6 (by simp)
            clear u6 z5 c0 c1
            have l1 := k1.lt
            have l2 := k2.lt
            have HQ := Hd.mk (And.intro k1 (And.intro k2 u7))
            have c0 := k1.cell 0
            have c1 := k1.cell 1
            simp only [List.getElem?_cons_zero, List.getElem?_cons_succ] at c0 c1
            clear k1 k2 u7
            go_wp2_with fail
            refine (text_ok k [.complex .f64 a b, .complex .f64 c d] _ HC.out (HW.out.2.2.1.more (by omega)) (HT.out.upd (HQ.out.2.2.alloc _))).mono ?_
            rintro e w8 ⟨rfl, u8⟩
            have g2 := u8.blk (HQ.out.2.1.alloc (.cells ([.complex .f64 0 0, .complex .f64 0 0]).toArray 26)) (by simp)
            have g3 := u8.blk (Blk.new w6 [.complex .f64 0 0, .complex .f64 0 0] 26 _ rfl) (by simp)
            have U8 := Hd.mk ((HQ.out.2.2.alloc (.cells ([.complex .f64 0 0, .complex .f64 0 0]).toArray 26)).trans u8 (by simp))
            have m0 := g2.cell 0
            have m1 := g2.cell 1
            have n0 := g3.cell 0
            have n1 := g3.cell 1
            simp only [List.getElem?_cons_zero, List.getElem?_cons_succ] at m0 m1 n0 n1
            clear g2 g3 u8 c0 c1 l1 l2
            go_wp2_with fail
            go_ret
            exact ⟨rfl, U8.out⟩
        · have d40 : ((s.size : Int) == 40) = false := by simp; omega
          cases hst : k.step cn with
          | none =>
            have HST := Hd.mk hst
            have HN2 := Hd.mk (show walkM (s ++ dg (cn : Int)).data.toList = none by rw [HX.out.1, if_pos (by omega)]; exact hst)
            clear hst h40
            go_wp2_with fail
            refine (step_none k cn _ _ HC.out HST.out).mono ?_
            rintro e w5 ⟨rfl, u5⟩
            simp only [zeroW]
            have e0 := ord00
            have B5 := Hd.mk (And.intro (u5.blk HB.out.1 (by simp)) (HB.out.2.trans u5 (by simp)))
            have z5 := B5.out.1.lt
            clear u5
            go_wp2_with fail
            refine (walk_no (s ++ dg (cn : Int)) _ (by rw [HX.out.2]; omega) HN2.out).mono ?_
            rintro e w6 ⟨rfl, u6⟩
            simp only [zeroW]
            have k1 := u6.blk ((B5.out.1.alloc (.cells ([.complex .f64 0 0, .complex .f64 0 0]).toArray 26)).alloc _) (by simp)
            have k2 := u6.blk ((Blk.new w5 [.complex .f64 0 0, .complex .f64 0 0] 26 _ rfl).alloc _) (by simp)
            have u7 := ((B5.out.2.alloc (.cells ([.complex .f64 0 0, .complex .f64 0 0]).toArray 26)).alloc _).trans u6 (by simp)
            clear u6 z5 c0 c1
            have l1 := k1.lt
            have l2 := k2.lt
            have HQ := Hd.mk (And.intro k1 (And.intro k2 u7))
            have c0 := k1.cell 0
            have c1 := k1.cell 1
            simp only [List.getElem?_cons_zero, List.getElem?_cons_succ] at c0 c1
            clear k1 k2 u7
            go_wp2_with fail
            refine (text_ok k [.complex .f64 a b, .complex .f64 c d] _ HC.out (HW.out.2.2.1.more (by omega)) (HT.out.upd (HQ.out.2.2.alloc _))).mono ?_
            rintro e w8 ⟨rfl, u8⟩
            have g2 := u8.blk (HQ.out.2.1.alloc (.cells ([.complex .f64 0 0, .complex .f64 0 0]).toArray 26)) (by simp)
            have g3 := u8.blk (Blk.new w6 [.complex .f64 0 0, .complex .f64 0 0] 26 _ rfl) (by simp)
            have U8 := Hd.mk ((HQ.out.2.2.alloc (.cells ([.complex .f64 0 0, .complex .f64 0 0]).toArray 26)).trans u8 (by simp))
            have m0 := g2.cell 0
            have m1 := g2.cell 1
            have n0 := g3.cell 0
            have n1 := g3.cell 1
            simp only [List.getElem?_cons_zero, List.getElem?_cons_succ] at m0 m1 n0 n1
            clear g2 g3 u8 c0 c1 l1 l2
            go_wp2_with fail
            go_ret
            exact ⟨rfl, U8.out⟩
          | some k' =>
            have HST := Hd.mk hst
            have HN2 := Hd.mk (show walkM (s ++ dg (cn : Int)).data.toList = some k' by rw [HX.out.1, if_pos (by omega)]; exact hst)
            clear hst h40
            go_wp2_with fail
            refine (step_some k k' cn _ _ HC.out HW.out.2.2.1 HST.out).mono ?_
            rintro e w5 ⟨cs5, hc5, rfl, u5⟩
            obtain ⟨x0, x1, x2, x3, rfl, hz5⟩ := hc5
            have HZ5 := Hd.mk hz5
            clear hz5
            have B5 := Hd.mk (And.intro (u5.blk HB.out.1 (by simp)) (HB.out.2.trans u5 (by simp)))
            have z5 := B5.out.1.lt
            clear u5
            go_wp2_with fail
            refine (walk_yes (s ++ dg (cn : Int)) _ (by rw [HX.out.2]; omega) k' HN2.out).mono ?_
            rintro e w6 ⟨cs6, hc6, rfl, u6⟩
            obtain ⟨y0, y1, y2, y3, rfl, hz6⟩ := hc6
            obtain ⟨p1, p2, p3, p4⟩ := HZ5.out
            obtain ⟨q1, q2, q3, q4⟩ := hz6
            have ho' : k'.ok 41 := (HW.out.2.2.1).step HST.out
            have s1 : small 41 k'.x := ho'.x
            have s2 : small 41 k'.y := ho'.y
            have s3 : small 41 k'.dx := by have := ho'.d; unfold small; omega
            have s4 : small 41 k'.dy := by have := ho'.d; unfold small; omega
            have e1 := p1.cmp q1 s1 s1
            have e2 := p2.cmp q2 s2 s2
            have e3 := p3.cmp q3 s3 s3
            have e4 := p4.cmp q4 s4 s4
            simp only [decide_true] at e1 e2 e3 e4
            clear p1 p2 p3 p4 q1 q2 q3 q4 s1 s2 s3 s4 ho' HZ5
            have k1 := u6.blk ((B5.out.1.alloc (.cells ([.complex .f64 x0 x1, .complex .f64 x2 x3]).toArray 26)).alloc _) (by simp)
            have k2 := u6.blk ((Blk.new w5 [.complex .f64 x0 x1, .complex .f64 x2 x3] 26 _ rfl).alloc _) (by simp)
            have u7 := ((B5.out.2.alloc (.cells ([.complex .f64 x0 x1, .complex .f64 x2 x3]).toArray 26)).alloc _).trans u6 (by simp)
            clear u6 z5 c0 c1
            have l1 := k1.lt
            have l2 := k2.lt
            have HQ := Hd.mk (And.intro k1 (And.intro k2 u7))
            have c0 := k1.cell 0
            have c1 := k1.cell 1
            simp only [List.getElem?_cons_zero, List.getElem?_cons_succ] at c0 c1
            clear k1 k2 u7
            go_wp2_with fail
            refine (text_ok k [.complex .f64 a b, .complex .f64 c d] _ HC.out (HW.out.2.2.1.more (by omega)) (HT.out.upd (HQ.out.2.2.alloc _))).mono ?_
            rintro e w8 ⟨rfl, u8⟩
            have g2 := u8.blk (HQ.out.2.1.alloc (.cells ([.complex .f64 y0 y1, .complex .f64 y2 y3]).toArray 26)) (by simp)
            have g3 := u8.blk (Blk.new w6 [.complex .f64 y0 y1, .complex .f64 y2 y3] 26 _ rfl) (by simp)
            have U8 := Hd.mk ((HQ.out.2.2.alloc (.cells ([.complex .f64 y0 y1, .complex .f64 y2 y3]).toArray 26)).trans u8 (by simp))
            have m0 := g2.cell 0
            have m1 := g2.cell 1
            have n0 := g3.cell 0
            have n1 := g3.cell 1
            simp only [List.getElem?_cons_zero, List.getElem?_cons_succ] at m0 m1 n0 n1
            clear g2 g3 u8 c0 c1 l1 l2
            go_wp2_with fail
            go_ret
            exact ⟨rfl, U8.out⟩

theorem texts_row (s : ByteArray) (ch : Int) (w : World) (hT : Tab w) (hs : s.size ≤ 9223372036854775807) (hch : (Lit.int .u8 ch).wf = true) : Calls Tryd.prog 5 #[.string s, .int .u8 ch] w fun e w' => e = .returned (.bool true) ∧ Below w.heap.size w w' :=
  (texts_walk s ch w hs hch hT).mono fun _ _ h => ⟨h.1, h.2.nil_below⟩
end Go.Proofs.YtljleibefijkkaaDoor
