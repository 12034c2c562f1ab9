/- A walker's text. -/
import Derived.Test.YtljleibefijkkaaDoorW2
import Derived.Test.YtljleibefijkkaaDoorIt
namespace Go.Proofs.YtljleibefijkkaaDoor
set_option linter.unusedSimpArgs false
set_option linter.unusedVariables false
set_option linter.unnecessarySimpa false
open Go.RowKit BigFrame

def Wk.num (k : Wk) : Nat → Int
  | 0 => k.x
  | 1 => k.y
  | 2 => k.dx
  | _ => k.dy
def Wk.upto (k : Wk) : Nat → ByteArray
  | 0 => ⟨#[]⟩
  | j + 1 => (if 0 < j then k.upto j ++ ⟨#[32]⟩ else k.upto j) ++ itoaB (k.num j)
theorem Wk.upto_size (k : Wk) (h : k.ok 41) (j : Nat) : (k.upto j).size ≤ 22 * j := by
  induction j with
  | zero => exact Nat.le_refl _
  | succ j ih =>
    have hb : (itoaB (k.num j)).size ≤ 21 := by
      have hx := h.x
      have hy := h.y
      have hd := h.d
      unfold small at hx hy
      apply itoaB_size
      · unfold Wk.num; split <;> omega
      · unfold Wk.num; split <;> omega
    show ((if 0 < j then k.upto j ++ ⟨#[32]⟩ else k.upto j) ++ itoaB (k.num j)).size ≤ _
    rw [ByteArray.size_append]
    split
    · rw [ByteArray.size_append]
      have : (⟨#[32]⟩ : ByteArray).size = 1 := rfl
      omega
    · omega

set_option maxHeartbeats 2000000 in
theorem text_ok (k : Wk) (cs : List Value) (w : World) (hv : WkC k cs) (ho : k.ok 41) (hT : Tab w) :
    Calls Tryd.prog 12 #[.agg cs.toArray] w fun e w' => e = .returned (.string (k.upto 4)) ∧ Upd [] w w' := by
  obtain ⟨a, b, x, y, rfl, h1, h2, h3, h4⟩ := hv
  have o1 := ho.x
  have o2 := ho.y
  have o3 : small 41 k.dx := by have := ho.d; unfold small at *; omega
  have o4 : small 41 k.dy := by have := ho.d; unfold small at *; omega
  have r1 := fun w => run_convert_float_int (P := Tryd.prog) w 29 3 .f64 .i64 a k.x (by kernel_rfl) Tryd.underlying3 (h1.int o1)
  have r2 := fun w => run_convert_float_int (P := Tryd.prog) w 29 3 .f64 .i64 b k.y (by kernel_rfl) Tryd.underlying3 (h2.int o2)
  have r3 := fun w => run_convert_float_int (P := Tryd.prog) w 29 3 .f64 .i64 x k.dx (by kernel_rfl) Tryd.underlying3 (h3.int o3)
  have r4 := fun w => run_convert_float_int (P := Tryd.prog) w 29 3 .f64 .i64 y k.dy (by kernel_rfl) Tryd.underlying3 (h4.int o4)
  unfold small at o1 o2 o3 o4
  have HS := Hd.mk (Wk.upto_size k ho)
  have HT := Hd.mk hT
  clear h1 h2 h3 h4 ho hT
  have i0 : ∀ w, (Instr.index 38 (.agg #[.float .f64 a, .float .f64 b, .float .f64 x, .float .f64 y]) (.int .i64 0)).run Tryd.prog w = .ok (.float .f64 a) w := fun _ => by kernel_rfl
  have i1 : ∀ w, (Instr.index 38 (.agg #[.float .f64 a, .float .f64 b, .float .f64 x, .float .f64 y]) (.int .i64 1)).run Tryd.prog w = .ok (.float .f64 b) w := fun _ => by kernel_rfl
  have i2 : ∀ w, (Instr.index 38 (.agg #[.float .f64 a, .float .f64 b, .float .f64 x, .float .f64 y]) (.int .i64 2)).run Tryd.prog w = .ok (.float .f64 x) w := fun _ => by kernel_rfl
  have i3 : ∀ w, (Instr.index 38 (.agg #[.float .f64 a, .float .f64 b, .float .f64 x, .float .f64 y]) (.int .i64 3)).run Tryd.prog w = .ok (.float .f64 y) w := fun _ => by kernel_rfl
  go_enter Tryd.func12, Tryd.ntmps12
  go_wp2_with fail
  go_loopg [3, 19] 4 (fun g s i wr => ∃ j : Nat, j + g = 4 ∧ s = .string (k.upto j) ∧ i = .int .i64 j ∧ Upd [] w wr)
  case atStart => exact ⟨0, by omega, rfl, rfl, (Upd.refl _ _).alloc _⟩
  case round =>
    obtain ⟨j, hj, rfl, rfl, u⟩ := hrel
    have hj5 : j = 0 ∨ j = 1 ∨ j = 2 ∨ j = 3 ∨ j = 4 := by omega
    have HU := Hd.mk u
    clear u
    rcases hj5 with rfl | rfl | rfl | rfl | rfl
    · have h1 := HS.out 0
      have h2 := itoaB_size (k.x) (by omega) (by omega)
      go_wp2_with fail
      refine (itoa_ok (k.x) _ (by omega) (by omega) (HT.out.upd HU.out)).mono ?_
      rintro e w2 ⟨rfl, u2⟩
      go_wp2_with fail
      go_roundg (gk - 1)
      case measure => omega
      case rel => exact ⟨1, by omega, rfl, rfl, HU.out.trans u2 (by simp)⟩
    · have h1 := HS.out 1
      have h2 := itoaB_size (k.y) (by omega) (by omega)
      go_wp2_with fail
      refine (itoa_ok (k.y) _ (by omega) (by omega) (HT.out.upd HU.out)).mono ?_
      rintro e w2 ⟨rfl, u2⟩
      go_wp2_with fail
      go_roundg (gk - 1)
      case measure => omega
      case rel => exact ⟨2, by omega, rfl, rfl, HU.out.trans u2 (by simp)⟩
    · have h1 := HS.out 2
      have h2 := itoaB_size (k.dx) (by omega) (by omega)
      go_wp2_with fail
      refine (itoa_ok (k.dx) _ (by omega) (by omega) (HT.out.upd HU.out)).mono ?_
      rintro e w2 ⟨rfl, u2⟩
      go_wp2_with fail
      go_roundg (gk - 1)
      case measure => omega
      case rel => exact ⟨3, by omega, rfl, rfl, HU.out.trans u2 (by simp)⟩
    · have h1 := HS.out 3
      have h2 := itoaB_size (k.dy) (by omega) (by omega)
      go_wp2_with fail
      refine (itoa_ok (k.dy) _ (by omega) (by omega) (HT.out.upd HU.out)).mono ?_
      rintro e w2 ⟨rfl, u2⟩
      go_wp2_with fail
      go_roundg (gk - 1)
      case measure => omega
      case rel => exact ⟨4, by omega, rfl, rfl, HU.out.trans u2 (by simp)⟩
    · go_wp2_with fail
      go_ret
      exact ⟨rfl, HU.out⟩
end Go.Proofs.YtljleibefijkkaaDoor
