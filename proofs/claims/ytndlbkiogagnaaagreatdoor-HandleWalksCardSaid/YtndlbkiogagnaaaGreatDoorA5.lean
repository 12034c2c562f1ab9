/- answer.Word, Plain. -/
import Derived.Test.YtndlbkiogagnaaaGreatDoorA4
namespace Go.Proofs.YtndlbkiogagnaaaGreatDoor
set_option linter.unusedSimpArgs false
set_option linter.unusedVariables false
set_option linter.unnecessarySimpa false
open Go.RowKit BigFrame

set_option maxHeartbeats 2000000 in
theorem word_ok (n : Int) (w : World) :
    Calls Tryz.prog 29 #[.int .i64 n] w fun e w' => e = .returned (S (wordL n.toNat)) ∧ Upd [] w w' := by
  by_cases hm : n = 200 ∨ n = 201 ∨ n = 400 ∨ n = 401 ∨ n = 404 ∨ n = 405 ∨ n = 409 ∨ n = 412 ∨ n = 413 ∨ n = 431 ∨ n = 500 ∨ n = 501 ∨ n = 503 ∨ n = 507
  · rcases hm with rfl | rfl | rfl | rfl | rfl | rfl | rfl | rfl | rfl | rfl | rfl | rfl | rfl | rfl
    all_goals
      go_enter Tryz.func29, Tryz.ntmps29
      go_wp2_with fail
      go_ret
      exact ⟨rfl, Upd.refl _ _⟩
  · have a1 : ¬ n = 200 := by omega
    have a2 : ¬ n = 201 := by omega
    have a3 : ¬ n = 400 := by omega
    have a4 : ¬ n = 401 := by omega
    have a5 : ¬ n = 404 := by omega
    have a6 : ¬ n = 405 := by omega
    have a7 : ¬ n = 409 := by omega
    have a8 : ¬ n = 412 := by omega
    have a9 : ¬ n = 413 := by omega
    have a10 : ¬ n = 431 := by omega
    have a11 : ¬ n = 500 := by omega
    have a12 : ¬ n = 501 := by omega
    have a13 : ¬ n = 503 := by omega
    have a14 : ¬ n = 507 := by omega
    have HU := Hd.mk (show wordL n.toNat = wordL 0 by
      unfold wordL
      rw [if_neg (by omega), if_neg (by omega), if_neg (by omega), if_neg (by omega), if_neg (by omega), if_neg (by omega), if_neg (by omega), if_neg (by omega), if_neg (by omega), if_neg (by omega), if_neg (by omega), if_neg (by omega), if_neg (by omega), if_neg (by omega)]
      rfl)
    clear hm
    go_enter Tryz.func29, Tryz.ntmps29
    go_wp2_with fail
    go_ret
    rw [HU.out]
    exact ⟨rfl, Upd.refl _ _⟩

theorem S_size (l : Bs) : (⟨l.toArray⟩ : ByteArray).size = l.length := by show l.toArray.size = _; simp
theorem S_data (l : Bs) : (⟨l.toArray⟩ : ByteArray).data.toList = l := by simp
def Rs.plain (n : Nat) (closes : Bool) : Rs := ⟨n, [], wordL n ++ [10], closes⟩
/-- A response's cells. -/
def Rs.cells (r : Rs) (a : Option Addr) (cap : Nat) : List Value := [.int .i64 r.status, .slice a r.fields.length cap, S r.body, .bool r.close]

set_option maxHeartbeats 2000000 in
theorem plain_ok (n : Nat) (closes : Bool) (w : World) (hn : n ≤ 1000000) :
    Calls Tryz.prog 94 #[.int .i64 n, .bool closes] w fun e w' => e = .returned (.agg ((Rs.plain n closes).cells none 0).toArray) ∧ Upd [] w w' := by
  have hw := wordL_len n
  have HW := Hd.mk hw
  go_enter Tryz.func94, Tryz.ntmps94
  go_wp2_with fail
  refine (word_ok n _).mono ?_
  rintro e w1 ⟨rfl, u1⟩
  have hb := u1.blk (Blk.new w [.int .i64 0, .slice none 0 0, .string ⟨#[]⟩, .bool false] 40 _ rfl) (by simp)
  have HU := Hd.mk (((Upd.refl [] w).alloc _).trans u1 (by simp))
  have HB := Hd.mk hb
  have c0 := hb.cell 0
  have c1 := hb.cell 1
  have c2 := hb.cell 2
  have c3 := hb.cell 3
  simp only [List.getElem?_cons_zero, List.getElem?_cons_succ] at c0 c1 c2 c3
  have f0 := hb.free 0
  have f1 := hb.free 1
  have f2 := hb.free 2
  have f3 := hb.free 3
  have hsz := S_size (wordL n)
  clear u1 hb
  simp only [S, Int.toNat_natCast]
  obtain ⟨t, ht⟩ : ∃ t : ByteArray, (⟨(wordL n).toArray⟩ : ByteArray) = t := ⟨_, rfl⟩
  simp only [ht] at hsz ⊢
  have HT := Hd.mk ht
  clear ht
  go_wp2_with fail
  refine bodyPost_ret (results_cell _ _ _ 4 40 w.heap.size [.int .i64 n, .slice none 0 0, .string (t ++ ⟨#[10]⟩), .bool closes] 40 rfl rfl ?_ (by kernel_rfl) (by kernel_rfl)) rfl ⟨?_, ?_⟩
  · refine Blk.as (cs := ((([.int .i64 0, .slice none 0 0, .string ⟨#[]⟩, .bool false].set 0 (.int .i64 n)).set 1 (.slice none 0 0)).set 2 (.string (t ++ ⟨#[10]⟩))).set 3 (.bool closes)) ?_ rfl
    exact (((HB.out.set 0 _).set 1 _).set 2 _).set 3 _
  · unfold Rs.cells Rs.plain
    simp only [List.length_nil]
    rw [← S_of (s := t ++ ⟨#[10]⟩) (by rw [← HT.out]; simp)]
  · exact (((HU.out.set _ _ (by simp)).set _ _ (by simp)).set _ _ (by simp)).set _ _ (by simp)
end Go.Proofs.YtndlbkiogagnaaaGreatDoor
