/- answer.Word, Plain. -/
import Derived.Test.YtlhkckgfhlflkaaDoorA4
namespace Go.Proofs.YtlhkckgfhlflkaaDoor
set_option linter.unusedSimpArgs false
set_option linter.unusedVariables false
set_option linter.unnecessarySimpa false
open Go.RowKit BigFrame

set_option maxHeartbeats 2000000 in
theorem word_ok (n : Int) (w : World) :
    Calls Tryd.prog 15 #[.int .i64 n] w fun e w' => e = .returned (S (wordL n.toNat)) ∧ Upd [] w w' := by
  by_cases hm : n = 200 ∨ n = 201 ∨ n = 400 ∨ n = 401 ∨ n = 404 ∨ n = 405 ∨ n = 409 ∨ n = 412 ∨ n = 413 ∨ n = 431 ∨ n = 500 ∨ n = 501 ∨ n = 503 ∨ n = 507
  · rcases hm with rfl | rfl | rfl | rfl | rfl | rfl | rfl | rfl | rfl | rfl | rfl | rfl | rfl | rfl
    all_goals
      go_enter Tryd.func15, Tryd.ntmps15
      go_wp2_with fail
      go_ret
      exact ⟨rfl, Upd.refl _ _⟩
  · have a1 : ¬ n = 200 := by omega
    have a2 : ¬ n = 201 := by omega
    have a3 : ¬ n = 400 := by omega
    have a4 : ¬ n = 401 := by omega
    have a5 : ¬ n = 404 := by omega
    have a6 : ¬ n = 405 := by omega
    have a7 : ¬ n = 409 := by omega
    have a8 : ¬ n = 412 := by omega
    have a9 : ¬ n = 413 := by omega
    have a10 : ¬ n = 431 := by omega
    have a11 : ¬ n = 500 := by omega
    have a12 : ¬ n = 501 := by omega
    have a13 : ¬ n = 503 := by omega
    have a14 : ¬ n = 507 := by omega
    have HU := Hd.mk (show wordL n.toNat = wordL 0 by
      unfold wordL
      rw [if_neg (by omega), if_neg (by omega), if_neg (by omega), if_neg (by omega), if_neg (by omega), if_neg (by omega), if_neg (by omega), if_neg (by omega), if_neg (by omega), if_neg (by omega), if_neg (by omega), if_neg (by omega), if_neg (by omega), if_neg (by omega)]
      rfl)
    clear hm
    go_enter Tryd.func15, Tryd.ntmps15
    go_wp2_with fail
    go_ret
    rw [HU.out]
    exact ⟨rfl, Upd.refl _ _⟩

theorem S_size (l : Bs) : (⟨l.toArray⟩ : ByteArray).size = l.length := by show l.toArray.size = _; simp
theorem S_data (l : Bs) : (⟨l.toArray⟩ : ByteArray).data.toList = l := by simp
def Rs.plain (n : Nat) (closes : Bool) : Rs := ⟨n, [], wordL n ++ [10], closes⟩
/-- A response's cells. -/
def Rs.cells (r : Rs) (a : Option Addr) (cap : Nat) : List Value := [.int .i64 r.status, .slice a r.fields.length cap, S r.body, .bool r.close]

end Go.Proofs.YtlhkckgfhlflkaaDoor
