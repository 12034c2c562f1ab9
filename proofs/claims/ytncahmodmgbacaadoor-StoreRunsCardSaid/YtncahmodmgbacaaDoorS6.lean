/- StoreShards: each key has one of the shards; keys may be by their lengths alone. -/
import Derived.Test.YtncahmodmgbacaaDoorS5

namespace Go.Proofs.YtncahmodmgbacaaDoor
set_option linter.unusedSimpArgs false
set_option linter.unusedVariables false
set_option linter.unnecessarySimpa false
open Go.RowKit BigFrame

def ka : ByteArray := ⟨#[97]⟩
theorem shd_a : shdL (⟨#[97]⟩ : ByteArray).data.toList = 1 := by decide
set_option maxRecDepth 100000 in
set_option maxHeartbeats 1000000 in
theorem fit_ok (w : World) (hT : Tb w) : Calls Tryd.prog 10 #[] w fun e w' => e = .returned (.bool true) ∧ Upd [] w w' := by
  have HT := Hd.mk hT
  clear hT
  have HSD := Hd.mk (show shd ⟨#[97]⟩ = 1 from shd_a)
  have HE := Hd.mk (show ∀ m : St, mineE (setO (fun _ => 0) 1 1) 1 ⟨#[97]⟩ = 0 from fun _ => by
    unfold mineE
    rw [HSD.out, if_neg (by decide), if_pos ⟨by decide, rfl⟩])
  go_enter Tryd.func10, Tryd.ntmps10
  go_wp2_with fail
  refine (new_ok w).mono ?_
  rintro e w1 ⟨p, r, rfl, S1⟩
  have HS := Hd.mk S1
  clear S1
  go_wp2_with fail
  refine (shard_ok ⟨#[97]⟩ w1 (by decide)).mono ?_
  rintro e w2 ⟨rfl, u2⟩
  have HS := Hd.mk (HS.out.up u2)
  clear u2
  rw [shd_a]
  go_wp2_with fail
  refine (lock_yes HS.out 1 1 (by decide)).mono ?_
  rintro e w3 ⟨rfl, S3, -⟩
  have HS := Hd.mk S3
  clear S3
  go_wp2_with fail
  refine (put_yes HS.out HT.out 1 ⟨#[97]⟩ ⟨#[118]⟩ ⟨#[]⟩ (by decide) (HE.out (fun _ => none)) (x := none) rfl (fun _ h => by cases h) (by decide)).mono ?_
  rintro e w4 ⟨rfl, -, S4⟩
  have HS := Hd.mk S4
  clear S4
  go_wp2_with fail
  refine (get_good HS.out 1 ⟨#[97]⟩ (by decide) (HE.out (fun _ => none)) (x := some ⟨#[118]⟩) (by unfold setM; rw [if_pos rfl])).mono ?_
  rintro e w5 ⟨rfl, u5⟩
  have HS := Hd.mk (HS.out.up u5)
  clear u5
  simp only [getE, Option.isSome_some, Option.getD_some, if_true]
  go_wp2_with fail
  refine (tag_ok ⟨#[]⟩ w5 (by decide) (HT.out.upd HS.out.upd)).mono ?_
  rintro e w6 ⟨rfl, u6⟩
  have HS := Hd.mk (HS.out.up u6)
  clear u6
  rw [show (⟨#[]⟩ : ByteArray).data.toList = [] from rfl, tagL_nil]
  go_wp2_with fail
  go_ret
  exact ⟨rfl, HS.out.upd⟩
theorem shards_walk (k : ByteArray) (n : Int) (w : World) (hk : k.size ≤ 140737488351232) (hT : Tb w) :
    Calls Tryd.prog 4 #[.string k, .int .i64 n] w fun e w' => e = .returned (.bool true) ∧ Upd [] w w' := by
  have HT := Hd.mk hT
  clear hT
  go_enter Tryd.func4, Tryd.ntmps4
  go_wp2_with fail
  refine (fit_ok w HT.out).mono ?_
  rintro e w1 ⟨rfl, u1⟩
  have HU := Hd.mk u1
  clear u1
  by_cases hl : 300 < k.size
  · go_wp2_with fail
    go_ret
    exact ⟨rfl, HU.out⟩
  · go_wp2_with fail
    refine (shard_ok k w1 hk).mono ?_
    rintro e w2 ⟨rfl, u2⟩
    have HU := Hd.mk (HU.out.trans u2 (by simp))
    clear u2
    have hs := shdL_lt k.data.toList
    generalize hq : shdL k.data.toList = q at *
    have HQ := Hd.mk hq
    clear hq
    go_wp2_with fail
    refine (lshard_ok k w2 hk).mono ?_
    rintro e w3 ⟨rfl, rfl⟩
    rw [HQ.out]
    have d1 : decide ((q : Int) < 4) = true := decide_eq_true (by omega)
    go_wp2_with fail
    refine (right_ok k w3).mono ?_
    rintro e w4 ⟨rfl, rfl⟩
    unfold rightK
    by_cases h0 : k.size = 0
    · have e0 : decide (0 < k.size ∧ k.size ≤ 40) = false := decide_eq_false (by omega)
      have e1 : decide ((0 : Int) < k.size) = false := decide_eq_false (by omega)
      rw [e0]
      go_wp2_with fail
      go_ret
      exact ⟨rfl, HU.out⟩
    · have e1 : decide ((0 : Int) < k.size) = true := decide_eq_true (by omega)
      by_cases h1 : k.size ≤ 40
      · have e0 : decide (0 < k.size ∧ k.size ≤ 40) = true := decide_eq_true (by omega)
        have e2 : decide ((k.size : Int) ≤ 40) = true := decide_eq_true (by omega)
        rw [e0]
        go_wp2_with fail
        go_ret
        exact ⟨rfl, HU.out⟩
      · have e0 : decide (0 < k.size ∧ k.size ≤ 40) = false := decide_eq_false (by omega)
        have e2 : decide ((k.size : Int) ≤ 40) = false := decide_eq_false (by omega)
        rw [e0]
        go_wp2_with fail
        go_ret
        exact ⟨rfl, HU.out⟩
theorem shards_row (k : ByteArray) (n : Int) (w : World) (hT : Tb w) (hk : k.size ≤ 140737488351232) (_ : (Lit.int .i64 n).wf = true) :
    Calls Tryd.prog 4 #[.string k, .int .i64 n] w fun e w' => e = .returned (.bool true) ∧ Below w.heap.size w w' :=
  (shards_walk k n w hk hT).mono fun _ _ h => ⟨h.1, h.2.nil_below⟩
end Go.Proofs.YtncahmodmgbacaaDoor
