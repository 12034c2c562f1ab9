/- StoreRoom: a shard has so many keys, and no more; one that goes makes room. -/
import Derived.Test.YtncahmodmgbacaaDoorS11

namespace Go.Proofs.YtncahmodmgbacaaDoor
set_option linter.unusedSimpArgs false
set_option linter.unusedVariables false
set_option linter.unnecessarySimpa false
open Go.RowKit BigFrame

/-- The law's i-th key. -/
def keyB (i : Nat) : ByteArray := ⟨#[107]⟩ ++ ⟨#[UInt8.ofNat (97 + i / 26), UInt8.ofNat (97 + i % 26)]⟩
theorem keyB_size (i : Nat) : (keyB i).size = 3 := by
  unfold keyB
  rw [ByteArray.size_append]
  rfl
theorem keyB_inj {i j : Nat} (hi : i < 64) (hj : j < 64) (h : keyB i = keyB j) : i = j := by
  have h1 := congrArg (fun t : ByteArray => t.data.toList) h
  unfold keyB at h1
  simp only [ByteArray.data_append, Array.toList_append, List.cons_append, List.nil_append, List.cons.injEq, true_and, and_true] at h1
  obtain ⟨e1, e2⟩ := h1
  have a1 := congrArg UInt8.toNat e1
  have a2 := congrArg UInt8.toNat e2
  have b1 : ∀ x, x < 256 → (UInt8.ofNat x).toNat = x := by
    intro x hx
    show x % 256 = x
    omega
  rw [b1 _ (by omega), b1 _ (by omega)] at a1 a2
  omega
theorem keyB_right (i : Nat) : rightK (keyB i) = true := by
  unfold rightK
  rw [keyB_size]
  decide
theorem conv2 (W : World) (b d e : Nat) (h : Blk W b [B8 d, B8 e] 5) : (convert 46 9 (.slice (some ⟨b, 0, none⟩) 2 2)).run Tryd.prog W = .ok (.string ⟨#[UInt8.ofNat d, UInt8.ofNat e]⟩) W :=
  run_string_sl (P := Tryd.prog) 46 5 Tryd.underlying46 Tryd.underlying5 (l := [d, e]) (h.sl 1 2 rfl (by unfold maxLen; omega)) 9 Tryd.underlying9
def ccells (n : Nat → Nat) : List Value := [.int .i64 (n 0), .int .i64 (n 1), .int .i64 (n 2), .int .i64 (n 3)]
theorem ccells_set (n : Nat → Nat) (q c : Nat) (hq : q < 4) : (ccells n).set q (.int .i64 c) = ccells (setN n q c) := by
  rcases (by omega : q = 0 ∨ q = 1 ∨ q = 2 ∨ q = 3) with e | e | e | e <;> subst e <;> rfl
theorem ccells_at (n : Nat → Nat) (q : Nat) (hq : q < 4) : (ccells n)[q]? = some (.int .i64 (n q)) := by
  rcases (by omega : q = 0 ∨ q = 1 ∨ q = 2 ∨ q = 3) with e | e | e | e <;> subst e <;> rfl
/-- What the law has: the store, what it has counted, the keys that are there. -/
structure Lr (w1 w : World) (p : Nat) (r : Nat → Nat) (cb : Nat) (v : Value) (ts : List ByteArray) (m : St) (n : Nat → Nat) : Prop where
  sto : Sto w1 w p r (upto 4 1) m n
  cnt : Blk w cb (ccells n) 45
  cnew : w1.heap.size ≤ cb
  th : Bld w1 w 9 1 v ts.length (ts.map .string)
  mem : ∀ k, (m k).isSome = true ↔ k ∈ ts
  nodup : ts.Nodup
  le : ∀ i, i < 4 → n i ≤ 8
  val : ∀ k v, m k = some v → v.size ≤ 1000000
theorem Lr.up {w1 w w' : World} {p cb : Nat} {r : Nat → Nat} {v : Value} {ts : List ByteArray} {m : St} {n : Nat → Nat} (h : Lr w1 w p r cb v ts m n) (hu : Upd [] w w') : Lr w1 w' p r cb v ts m n :=
  ⟨h.sto.up hu, hu.blk h.cnt (by simp), h.cnew, h.th.over hu, h.mem, h.nodup, h.le, h.val⟩
theorem Sto.notOwn {w0 w : World} {p : Nat} {r : Nat → Nat} {o : Nat → Int} {m : St} {n : Nat → Nat} (h : Sto w0 w p r o m n) {e : TypeId} {sz : Nat} {v : Value} {k : Nat} {xs : List Value} (hs : Sl w e sz v k xs) (he : 63 ≠ e) : ∀ b, b ∈ ownB v → b ∉ foot p r := by
  intro b hb hf
  have hmap : ∀ i, i < 4 → b ≠ r i := by
    intro i hi e
    obtain ⟨L, hL, -⟩ := h.map i hi
    rcases hs.2 with ⟨rfl, rfl⟩ | ⟨g, o, cap, cur, rfl, hbk, -⟩
    · simp [ownB] at hb
    · simp [ownB] at hb
      subst hb
      rw [← e] at hL
      exact hL.other _ _ hbk
  unfold foot at hf
  simp at hf
  rcases hf with e | e | e | e | e
  · subst e
    exact hs.other he _ hb _ h.blk
  · exact hmap 0 (by omega) e
  · exact hmap 1 (by omega) e
  · exact hmap 2 (by omega) e
  · exact hmap 3 (by omega) e
theorem Sto.notBlk {w0 w : World} {p : Nat} {r : Nat → Nat} {o : Nat → Int} {m : St} {n : Nat → Nat} (h : Sto w0 w p r o m n) {b : Nat} {cs : List Value} {t : TypeId} (hb : Blk w b cs t) (ht : t ≠ 63) : b ∉ foot p r := by
  intro hf
  have hmap : ∀ i, i < 4 → b ≠ r i := by
    intro i hi e
    obtain ⟨L, hL, -⟩ := h.map i hi
    rw [← e] at hL
    exact hL.other _ _ hb
  unfold foot at hf
  simp at hf
  rcases hf with e | e | e | e | e
  · subst e
    exact ht (hb.uniq h.blk).2
  · exact hmap 0 (by omega) e
  · exact hmap 1 (by omega) e
  · exact hmap 2 (by omega) e
  · exact hmap 3 (by omega) e
/-- The store has changed in one of its own blocks. -/
theorem Lr.changed {w1 w w' : World} {p cb : Nat} {r : Nat → Nat} {v : Value} {ts : List ByteArray} {m : St} {n : Nat → Nat} (h : Lr w1 w p r cb v ts m n) {k : ByteArray} (hu : Upd [r (shd k)] w w') :
    Blk w' cb (ccells n) 45 ∧ Bld w1 w' 9 1 v ts.length (ts.map .string) := by
  have hf := shd_foot p r k
  refine ⟨hu.blk h.cnt (fun e => ?_), h.th.besides hu (fun b hb => ?_)⟩
  · rw [List.mem_singleton] at e
    exact h.sto.notBlk h.cnt (by decide) (e ▸ hf)
  · rw [List.mem_singleton] at hb
    subst hb
    exact ⟨fun hk => h.sto.notOwn h.th.sl (by decide) _ hk hf, h.sto.new _ hf⟩
set_option maxRecDepth 100000 in
set_option maxHeartbeats 2000000 in
theorem room_walk (nn : Int) (w : World) (hT : Tb w) :
    Calls Tryd.prog 7 #[.int .i64 nn] w fun e w' => e = .returned (.bool true) ∧ Upd [] w w' := by
  have HT := Hd.mk hT
  clear hT
  obtain ⟨N, hN⟩ : ∃ N : Nat, nn % 64 = N := ⟨(nn % 64).toNat, by omega⟩
  have hN2 : N < 64 := by omega
  go_enter Tryd.func7, Tryd.ntmps7
  go_wp2_with fail
  refine (fit_ok w HT.out).mono ?_
  rintro e w1 ⟨rfl, u1⟩
  have HU := Hd.mk u1
  clear u1
  go_wp2_with fail
  refine (new_ok w1).mono ?_
  rintro e w2 ⟨p, r, rfl, S2⟩
  have HS := Hd.mk S2
  have HT := Hd.mk (HT.out.upd HU.out)
  clear S2
  clear hN
  go_upto_region 6 with (fail)
  go_loopg [4, 24] 4 (fun g s4 ii wr => ∃ i : Nat, g + i = 4 ∧ ii = .int .i64 i ∧ Hd (Sto w1 wr p r (upto i 1) (fun _ => none) (fun _ => 0)))
  case atStart => exact ⟨0, rfl, rfl, by rw [upto_zero]; exact HS⟩
  case round =>
    clear HS
    obtain ⟨i, hg, rfl, HS⟩ := hrel
    by_cases hi : i < 4
    · go_wp2_with fail
      refine (lock_yes HS.out 1 i (upto_free i 1 hi (by decide))).mono ?_
      rintro e w5 ⟨rfl, S5, -⟩
      rw [upto_succ] at S5
      go_wp2_with fail
      go_roundg (gk - 1)
      case measure => omega
      case rel => exact ⟨i + 1, by omega, by go_num, S5⟩
    · obtain rfl : i = 4 := by omega
      clear hi hg
      go_upto_region 13 with (fail)
      have HLR := Hd.mk (show Lr w1 (wr.alloc (.cells (ccells (fun _ => 0)).toArray 45)) p r wr.heap.size (.slice none 0 0) [] (fun _ => none) (fun _ => 0) from
        ⟨HS.out.up ((Upd.refl [] wr).alloc _), Blk.new wr _ _ _ rfl, HS.out.upd.size, Bld.nil (HS.out.upd.alloc _) _ _, fun k => by simp, List.nodup_nil, fun _ _ => by omega, fun k v h => by cases h⟩)
      refine wp_abs (fun W => Lr w1 W p r wr.heap.size (.slice none 0 0) [] (fun _ => none) (fun _ => 0)) HLR.out ?_
      clear HLR HS
      generalize wr.heap.size = cb
      rintro w3 hlr
      have HLR := Hd.mk hlr
      clear hlr
      go_loopg [6, 7, 8, 9, 10, 11, 32] (N + 1) (fun g s6 s7 s8 s9 s10 s11 ii wr => ∃ (i : Nat) (ts : List ByteArray) (m : St) (n : Nat → Nat), g + i = N + 1 ∧ ii = .int .i64 i ∧ Hd (∀ t, t ∈ ts → ∃ j, j < i ∧ t = keyB j) ∧ Hd (ts.length ≤ i) ∧ Hd (Lr w1 wr p r cb s6 ts m n))
      case atStart => exact ⟨0, [], _, _, by omega, rfl, Hd.mk (by simp), Hd.mk (Nat.le_refl _), HLR⟩
      case round =>
        clear HLR
        obtain ⟨i, ts, m, n, hg, rfl, HK, HL, HLR⟩ := hrel
        by_cases hi : i < N + 1
        · have hi64 : i < 64 := by omega
          have HG := Hd.mk hg
          have hcv : (convert 46 9 (.slice (some ⟨wr.heap.size, 0, none⟩) 2 2)).run Tryd.prog (wr.alloc (.cells #[.int .u8 (97 + (i : Int) / 26), .int .u8 (97 + (i : Int) % 26)] 5)) = .ok (.string ⟨#[UInt8.ofNat (97 + i / 26), UInt8.ofNat (97 + i % 26)]⟩) (wr.alloc (.cells #[.int .u8 (97 + (i : Int) / 26), .int .u8 (97 + (i : Int) % 26)] 5)) := by
            have h := conv2 (wr.alloc (.cells #[B8 (97 + i / 26), B8 (97 + i % 26)] 5)) wr.heap.size (97 + i / 26) (97 + i % 26) (Blk.new wr [B8 (97 + i / 26), B8 (97 + i % 26)] 5 _ rfl)
            simp only [B8, show ((97 + i / 26 : Nat) : Int) = 97 + (i : Int) / 26 by omega, show ((97 + i % 26 : Nat) : Int) = 97 + (i : Int) % 26 by omega] at h
            exact h
          have HKB := Hd.mk (show (⟨#[107]⟩ : ByteArray) ++ ⟨#[UInt8.ofNat (97 + i / 26), UInt8.ofNat (97 + i % 26)]⟩ = keyB i from rfl)
          clear hg
          generalize (⟨#[UInt8.ofNat (97 + i / 26), UInt8.ofNat (97 + i % 26)]⟩ : ByteArray) = x2 at hcv HKB
          have hx2 : x2.size ≤ 100 := by
            have h1 := congrArg ByteArray.size HKB.out
            rw [ByteArray.size_append, keyB_size] at h1
            omega
          have HLR1 := Hd.mk (HLR.out.up ((Upd.refl [] wr).alloc (.cells #[.int .u8 (97 + (i : Int) / 26), .int .u8 (97 + (i : Int) % 26)] 5)))
          go_upto_region 16 with (fail)
          rw [HKB.out]
          refine wp_abs (fun W => Lr w1 W p r cb u6 ts m n) HLR1.out ?_
          clear HLR1 HLR hcv hx2
          rintro w4 hlr
          have HLR := Hd.mk hlr
          clear hlr
          have HKS := Hd.mk (show (keyB i).size ≤ 140737488351232 by rw [keyB_size]; omega)
          have HSH := Hd.mk (show shdL (keyB i).data.toList = shd (keyB i) from rfl)
          go_wp2_with fail
          refine (shard_ok (keyB i) w4 HKS.out).mono ?_
          rintro e w5 ⟨rfl, u5⟩
          have HLR := Hd.mk (HLR.out.up u5)
          clear u5
          rw [HSH.out]
          have hq := shd_lt (keyB i)
          obtain ⟨q, hqq⟩ : ∃ q, shd (keyB i) = q := ⟨_, rfl⟩
          rw [hqq] at hq ⊢
          have HQ := Hd.mk hqq
          clear hqq
          have HMX := Hd.mk (show m (keyB i) = none by
            cases hmx : m (keyB i) with
            | none => rfl
            | some v =>
              have h1 := (HLR.out.mem (keyB i)).1 (by rw [hmx]; rfl)
              obtain ⟨j, hj, e⟩ := HK.out _ h1
              have := keyB_inj hi64 (by omega) e
              omega)
          have HM1 := Hd.mk (mine_all 1 (keyB i) (by decide) (keyB_right i))
          go_wp2_with fail
          by_cases h8 : n q = 8
          · refine (put_no HLR.out.sto HT.out 1 (keyB i) ⟨#[118]⟩ ⟨#[]⟩ HKS.out HM1.out HMX.out (fun _ h => by cases h) (c := 4) (by rw [putE_empty, if_pos ⟨rfl, by rw [HQ.out]; exact h8⟩]) (by decide)).mono ?_
            rintro e w6 ⟨rfl, u6'⟩
            have HLR := Hd.mk (HLR.out.up u6')
            have hcq := (HLR.out.cnt.cell q).trans (ccells_at n q hq)
            rw [h8] at hcq
            have HH8 := Hd.mk h8
            clear u6' h8
            go_wp2_with fail
            go_roundg (gk - 1)
            case measure => have := HG.out; omega
            case rel => exact ⟨i + 1, ts, m, n, by have := HG.out; omega, by go_num, Hd.mk (fun t ht => by obtain ⟨j, hj, e⟩ := HK.out t ht; exact ⟨j, by omega, e⟩), Hd.mk (by have := HL.out; omega), HLR⟩
          · refine (put_yes HLR.out.sto HT.out 1 (keyB i) ⟨#[118]⟩ ⟨#[]⟩ HKS.out HM1.out HMX.out (fun _ h => by cases h) (by rw [putE_empty, if_neg (fun e => h8 (by rw [← HQ.out]; exact e.2))])).mono ?_
            rintro e w6 ⟨rfl, u6', S6⟩
            have hch := HLR.out.changed u6'
            rw [HQ.out] at S6
            simp only [Option.isSome_none, Bool.false_eq_true, if_false] at S6
            have hcq := (hch.1.cell q).trans (ccells_at n q hq)
            have hfz := hch.1.free q
            have hle := HLR.out.le q hq
            obtain ⟨c, hc⟩ : ∃ c, n q = c := ⟨_, rfl⟩
            rw [hc] at hcq hle h8 S6
            have hc8 : decide ((c : Int) < 8) = true := decide_eq_true (by omega)
            have HH := Hd.mk (And.intro hch S6)
            have HC := Hd.mk hc
            clear u6' S6 hch hc
            have hcnew := HLR.out.cnew
            have HU7 := Hd.mk (show Upd [cb] w6 (w6.setCell ⟨cb, q, none⟩ (.int .i64 ((c : Int) + 1))) from (Upd.refl _ _).set _ _ (by simp))
            have HNB := Hd.mk (show cb ∉ foot p r from HH.out.2.notBlk HH.out.1.1 (by decide))
            have HNO := Hd.mk (show ∀ b, b ∈ ownB u6 → b ≠ cb from fun b hb e => HH.out.1.2.sl.other (show 45 ≠ 9 by decide) b hb _ (e ▸ HH.out.1.1))
            have HW7 := Hd.mk (show (Sto w1 (w6.setCell ⟨cb, q, none⟩ (.int .i64 ((c : Int) + 1))) p r (upto 4 1) (setM m (keyB i) (some ⟨#[118]⟩)) (setN n q (c + 1)) ∧ Blk (w6.setCell ⟨cb, q, none⟩ (.int .i64 ((c : Int) + 1))) cb (ccells (setN n q (c + 1))) 45 ∧ Bld w1 (w6.setCell ⟨cb, q, none⟩ (.int .i64 ((c : Int) + 1))) 9 1 u6 ts.length (ts.map .string)) from
              ⟨HH.out.2.beside HU7.out (fun b hb => by rw [List.mem_singleton] at hb; subst hb; exact ⟨HNB.out, hcnew⟩), by
                have := HH.out.1.1.set q (.int .i64 ((c + 1 : Nat) : Int))
                rw [ccells_set n q (c + 1) hq] at this
                exact this, HH.out.1.2.besides HU7.out (fun b hb => by rw [List.mem_singleton] at hb; subst hb; exact ⟨fun e => HNO.out _ e rfl, hcnew⟩)⟩)
            go_upto_region 22 with (fail)
            refine wp_abs (fun W => (Sto w1 W p r (upto 4 1) (setM m (keyB i) (some ⟨#[118]⟩)) (setN n q (c + 1)) ∧ Blk W cb (ccells (setN n q (c + 1))) 45 ∧ Bld w1 W 9 1 u6 ts.length (ts.map .string))) HW7.out ?_
            clear HW7 hcq hfz HU7 HH
            rintro w7 ⟨S7, C7, B7⟩
            have HS7 := Hd.mk (And.intro S7 C7)
            have HB7 := Hd.mk B7
            have hsl := B7.sl
            have htl : ts.length < 1000000 := by have := HL.out; omega
            clear S7 C7 B7
            go_wp2_with (at_builtin; refine wpList_append_row rfl (.tmp 76) (.tmp 78) 40 rfl rfl 9 (.string ⟨#[]⟩) 1 16 Tryd.underlying40 (by kernel_rfl) rfl _ _ _ rfl hsl [.string (keyB i)] rfl rfl rfl htl (by omega) ?_)
            intro v8 w8 s8 u8' o8
            have HLR8 := Hd.mk (show Lr w1 w8 p r cb v8 (ts ++ [keyB i]) (setM m (keyB i) (some ⟨#[118]⟩)) (setN n q (c + 1)) from
              ⟨HS7.out.1.beside u8' (fun b hb => ⟨HS7.out.1.notOwn HB7.out.sl (by decide) b hb, HB7.out.own b hb⟩), u8'.blk HS7.out.2 (fun e => HNO.out _ e rfl), hcnew, by
                rw [List.length_append, List.map_append]
                exact HB7.out.app s8 u8' o8, fun k => by
                unfold setM
                rw [List.mem_append, List.mem_singleton]
                by_cases e : k = keyB i
                · simp [e]
                · simp [e, HLR.out.mem k], by
                rw [List.nodup_append]
                refine ⟨HLR.out.nodup, by simp, fun a ha b hb => ?_⟩
                rw [List.mem_singleton] at hb
                subst hb
                intro e
                subst e
                have h5 := (HLR.out.mem _).2 ha
                rw [HMX.out] at h5
                exact absurd h5 (by simp), fun j hj => by
                unfold setN
                split
                · omega
                · exact HLR.out.le j hj, fun k v hk => by
                unfold setM at hk
                split at hk
                · cases hk; decide
                · exact HLR.out.val k v hk⟩)
            clear s8 u8' o8 hsl htl HS7 HB7
            go_wp2_with fail
            go_roundg (gk - 1)
            case measure => have := HG.out; omega
            case rel => exact ⟨i + 1, _, _, _, by have := HG.out; omega, by go_num, Hd.mk (fun t ht => by
                rcases List.mem_append.1 ht with ht | ht
                · obtain ⟨j, hj, e⟩ := HK.out t ht
                  exact ⟨j, by omega, e⟩
                · rw [List.mem_singleton] at ht
                  exact ⟨i, by omega, ht⟩), Hd.mk (by have := HL.out; rw [List.length_append, List.length_singleton]; omega), HLR8⟩
        · obtain rfl : i = N + 1 := by omega
          clear hi hg
          have htl : ts.length ≤ 64 := by have := HL.out; omega
          go_wp2_with fail
          refine (list_ok HLR.out.sto HLR.out.le 1 ⟨#[]⟩ (heldN_all 1 (by decide))).mono ?_
          rintro e w5 ⟨v, ks, rfl, R5, u5, L5, A5⟩
          obtain ⟨a2, cap2, rfl, -⟩ := R5.form
          have hkl : ks.length = ts.length := by
            have hp : ks.Perm ts := by
              rw [List.perm_ext_iff_of_nodup L5.nodup HLR.out.nodup]
              intro k
              rw [L5.mem, ← HLR.out.mem]
              have h1 := shd_lt k
              have h2 : pre ⟨#[]⟩ k = true := by unfold pre Lib.hasPrefix; rfl
              simp [h1, h2]
            exact hp.length_eq
          have HLR := Hd.mk (HLR.out.up u5)
          clear R5 u5 L5 A5
          rw [hkl]
          obtain ⟨a3, c3, hform⟩ := HLR.out.th.sl.form
          subst hform
          go_wp2_with fail
          go_loopg [15, 16, 17, 93] ts.length (fun g s15 s16 s17 ii wr => ∃ (i : Nat) (m : St) (n : Nat → Nat), g + i = ts.length ∧ ii = .int .i64 i ∧ Hd (Sto w1 wr p r (upto 4 1) m n ∧ Bld w1 wr 9 1 (.slice a3 ts.length c3) ts.length (ts.map .string)) ∧ Hd ((∀ k, (m k).isSome = true ↔ k ∈ ts) ∧ (∀ i, i < 4 → n i ≤ 8) ∧ ∀ k v, m k = some v → v.size ≤ 1000000))
          case atStart => exact ⟨0, m, n, by omega, rfl, Hd.mk ⟨HLR.out.sto, HLR.out.th⟩, Hd.mk ⟨HLR.out.mem, HLR.out.le, HLR.out.val⟩⟩
          case round =>
            clear HLR
            obtain ⟨i, m, n, hg, rfl, HS, HM⟩ := hrel
            by_cases hi : i < ts.length
            · obtain ⟨g, off, c4, hv, -, -, hcl⟩ := HS.out.2.sl.some (by omega)
              have hc := hcl i (by omega)
              simp only [Value.slice.injEq] at hv
              obtain ⟨rfl, -, rfl⟩ := hv
              rw [List.getElem?_map, List.getElem?_eq_getElem hi, Option.map_some] at hc
              have hmem := List.getElem_mem hi
              generalize ts[i] = t at hc hmem
              obtain ⟨j, -, htj⟩ := HK.out t hmem
              have HTS := Hd.mk (show t.size ≤ 140737488351232 by rw [htj, keyB_size]; omega)
              have HM1 := Hd.mk (mine_all 1 t (by decide) (by rw [htj]; exact keyB_right j))
              have HG := Hd.mk hg
              have HTM := Hd.mk hmem
              obtain ⟨y, hy⟩ : ∃ y, m t = some y := by
                have := (HM.out.1 t).2 hmem
                cases hy : m t with
                | none => rw [hy] at this; exact absurd this (by simp)
                | some y => exact ⟨y, rfl⟩
              have HY := Hd.mk hy
              have htk : tagOk (some y) ⟨#[]⟩ = true := by
                unfold tagOk
                rw [decide_eq_true (show (⟨#[]⟩ : ByteArray).size = 0 from rfl), Bool.true_or]
              have HTK := Hd.mk htk
              clear hcl hmem htj hg hy htk
              have hq := shd_lt t
              go_wp2_with fail
              refine (del_yes HS.out.1 HT.out 1 t ⟨#[]⟩ HTS.out HM1.out HY.out (fun v e => by cases e; exact HM.out.2.2 t y HY.out) (by unfold delE; rw [HTK.out]; rfl)).mono ?_
              rintro e w6 ⟨rfl, u6', S6⟩
              have HB6 := Hd.mk (HS.out.2.besides u6' (fun b hb => by
                rw [List.mem_singleton] at hb
                subst hb
                exact ⟨fun hk => HS.out.1.notOwn HS.out.2.sl (by decide) _ hk (shd_foot p r t), HS.out.1.new _ (shd_foot p r t)⟩))
              have HS6 := Hd.mk S6
              clear u6' S6
              go_wp2_with fail
              refine (put_yes HS6.out HT.out 1 t ⟨#[119]⟩ ⟨#[]⟩ HTS.out HM1.out (x := none) (setM_at _ _ _) (fun v e => by cases e) (by
                rw [putE_empty, if_neg]
                intro e
                have h1 := e.2
                unfold setN at h1
                rw [if_pos rfl] at h1
                have := HM.out.2.1 _ hq
                omega)).mono ?_
              rintro e w7 ⟨rfl, u7', S7⟩
              have HB7 := Hd.mk (HB6.out.besides u7' (fun b hb => by
                rw [List.mem_singleton] at hb
                subst hb
                exact ⟨fun hk => HS6.out.notOwn HB6.out.sl (by decide) _ hk (shd_foot p r t), HS6.out.new _ (shd_foot p r t)⟩))
              have HS7 := Hd.mk S7
              clear u7' S7
              go_wp2_with fail
              go_roundg (gk - 1)
              case measure => have := HG.out; omega
              case rel => exact ⟨i + 1, _, _, by have := HG.out; omega, by go_num, Hd.mk ⟨HS7.out, HB7.out⟩, Hd.mk ⟨fun k => by
                unfold setM
                by_cases e : k = t
                · simp [e, HTM.out]
                · simp [e, HM.out.1 k], fun j hj => by
                have h1 := HM.out.2.1 j hj
                have h2 := HM.out.2.1 _ hq
                unfold setN
                split
                · rw [if_pos rfl]
                  simp
                  omega
                · exact h1, fun k v hk => by
                unfold setM at hk
                split at hk
                · cases hk; decide
                · exact HM.out.2.2 k v hk⟩⟩
            · obtain rfl : i = ts.length := by omega
              go_wp2_with fail
              go_ret
              exact ⟨rfl, HU.out.trans HS.out.1.upd (by simp)⟩
theorem room_row (n : Int) (w : World) (hT : Tb w) (_ : (Lit.int .i64 n).wf = true) :
    Calls Tryd.prog 7 #[.int .i64 n] w fun e w' => e = .returned (.bool true) ∧ Below w.heap.size w w' :=
  (room_walk n w hT).mono fun _ _ h => ⟨h.1, h.2.nil_below⟩
end Go.Proofs.YtncahmodmgbacaaDoor
