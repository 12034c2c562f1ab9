/- The walk laws' fit. -/
import Derived.Test.YtljleibefijkkaaDoorW3
namespace Go.Proofs.YtljleibefijkkaaDoor
set_option linter.unusedSimpArgs false
set_option linter.unusedVariables false
set_option linter.unnecessarySimpa false
open Go.RowKit BigFrame

theorem run_equalIn_complex (P : Program) (w : World) (n : Nat) (t : TypeId) (k : FloatKind) (h : P.underlying t = some (.complex k)) (a b c d : Nat) : (Op.equalIn (n + 1) t (.complex k a b) (.complex k c d)).run P w = .ok ((k.format.order a c == some .eq) && (k.format.order b d == some .eq)) w := by
  simp [Op.equalIn, run_underlying h, Op.floatEq]
@[go_sem] theorem eqC (w : World) (a b c d : Nat) : (Op.equalIn 9999 24 (.complex .f64 a b) (.complex .f64 c d)).run Tryd.prog w = .ok ((FloatKind.f64.format.order a c == some .eq) && (FloatKind.f64.format.order b d == some .eq)) w :=
  run_equalIn_complex Tryd.prog w 9998 _ _ Tryd.underlying24 a b c d
theorem ord00 : (FloatKind.f64.format.order 0 0 == some .eq) = true := by decide +kernel

theorem dec1 (u : Nat) (h : u < 10) : Lib.decDigits u = [UInt8.ofNat (48 + u)] := by
  rw [Lib.decDigits]; simp [h]
theorem dec2 (u : Nat) (h : 10 ≤ u) (h2 : u < 100) : Lib.decDigits u = [UInt8.ofNat (48 + u / 10), UInt8.ofNat (48 + u % 10)] := by
  rw [Lib.decDigits, dif_neg (by omega), dec1 _ (by omega)]; rfl
theorem itoaB_0 : itoaB 0 = ⟨#[48]⟩ := by unfold itoaB Lib.itoa; simp [dec1]
theorem itoaB_1 : itoaB 1 = ⟨#[49]⟩ := by unfold itoaB Lib.itoa; simp [dec1]

set_option maxHeartbeats 1000000 in
theorem fit_ok (w : World) (hT : Tab w) : Calls Tryd.prog 9 #[] w fun e w' => e = .returned (.bool true) ∧ Upd [] w w' := by
  have htx : (Wk.mk 1 1 0 1).upto 4 = ⟨#[49, 32, 49, 32, 48, 32, 49]⟩ := by
    simp only [Wk.upto, Wk.num, itoaB_0, itoaB_1]; rfl
  have TX := Hd.mk htx
  have HT := Hd.mk hT
  clear htx hT
  go_enter Tryd.func9, Tryd.ntmps9
  go_wp2_with fail
  refine (walk_ok ⟨#[70, 76, 70]⟩ w (by decide)).mono ?_
  rintro e w1 hr
  have hk : walkM (⟨#[70, 76, 70]⟩ : ByteArray).data.toList = some ⟨1, 1, 0, 1⟩ := by kernel_rfl
  unfold WalkR at hr
  rw [hk] at hr
  obtain ⟨u1, cs, hc, rfl⟩ := hr
  have hc0 := hc
  obtain ⟨a, b, c, d, rfl, h1, h2, h3, h4⟩ := hc0
  have s1 : small 41 (1 : Int) := by unfold small; omega
  have s0 : small 41 (0 : Int) := by unfold small; omega
  have e1 := h1.cmp Z.i s1 s1
  have e2 := h4.cmp Z.i s1 s1
  simp only [decide_true] at e1 e2
  have HC := Hd.mk (And.intro hc u1)
  clear hc u1 h1 h2 h3 h4 s1 s0 hk
  go_wp2_with fail
  refine (text_ok ⟨1, 1, 0, 1⟩ [.complex .f64 a b, .complex .f64 c d] _ HC.out.1 ⟨by unfold small; simp, by unfold small; simp, .inr (.inl ⟨rfl, rfl⟩)⟩ (HT.out.upd (HC.out.2.alloc _))).mono ?_
  rintro e w2 ⟨rfl, u2⟩
  rw [TX.out]
  have k1 := u2.blk (Blk.new w1 [.complex .f64 a b, .complex .f64 c d] 26 _ rfl) (by simp)
  have m0 := k1.cell 0
  have m1 := k1.cell 1
  simp only [List.getElem?_cons_zero, List.getElem?_cons_succ] at m0 m1
  have U := Hd.mk ((HC.out.2.alloc _).trans u2 (by simp))
  clear k1 u2
  go_wp2_with fail
  go_ret
  exact ⟨rfl, U.out⟩
end Go.Proofs.YtljleibefijkkaaDoor
