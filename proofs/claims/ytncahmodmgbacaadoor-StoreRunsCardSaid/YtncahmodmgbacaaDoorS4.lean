/- Store: mine, Get. -/
import Derived.Test.YtncahmodmgbacaaDoorS3

namespace Go.Proofs.YtncahmodmgbacaaDoor
set_option linter.unusedSimpArgs false
set_option linter.unusedVariables false
set_option linter.unnecessarySimpa false
open Go.RowKit BigFrame

/-- What keeps somebody from a key: 8: it may be none; 7: they have not its shard. -/
def mineE (o : Nat → Int) (ow : Int) (k : ByteArray) : Int := if rightK k = false then 8 else if 0 < ow ∧ o (shd k) = ow then 0 else 7
theorem shd_lt (k : ByteArray) : shd k < 4 := shdL_lt _
/-- Where mine points. -/
def mineP (p : Nat) (o : Nat → Int) (ow : Int) (k : ByteArray) : Value := if mineE o ow k = 0 then .pointer (some ⟨p, shd k * 2, none⟩) else .pointer none
theorem Sto.up {w0 w w' : World} {p : Nat} {r : Nat → Nat} {o : Nat → Int} {m : St} {n : Nat → Nat} (h : Sto w0 w p r o m n) (hu : Upd [] w w') : Sto w0 w' p r o m n :=
  ⟨hu.blk h.blk (by simp), fun i hi => (h.map i hi).upd hu (by simp), h.ne, h.new, h.upd.trans hu (by simp)⟩
set_option maxHeartbeats 1000000 in
theorem mine_ok {w0 w : World} {p : Nat} {r : Nat → Nat} {o : Nat → Int} {m : St} {n : Nat → Nat} (h : Sto w0 w p r o m n) (ow : Int) (k : ByteArray) (hk : k.size ≤ 140737488351232) :
    Calls Tryd.prog 27 #[.pointer (some ⟨p, 0, none⟩), .int .i64 ow, .string k] w fun e w' => e = .returned (.tuple #[mineP p o ow k, .int .i64 (mineE o ow k)]) ∧ Upd [] w w' := by
  have HS := Hd.mk h
  have hi := shd_lt k
  have HSD := Hd.mk (show shdL k.data.toList = shd k from rfl)
  clear h
  obtain ⟨i, hid⟩ : ∃ i, shd k = i := ⟨_, rfl⟩
  rw [hid] at hi HSD
  have HE := Hd.mk (show mineE o ow k = if rightK k = false then 8 else if 0 < ow ∧ o i = ow then 0 else 7 by unfold mineE; rw [hid])
  have HP := Hd.mk (show mineP p o ow k = if mineE o ow k = 0 then .pointer (some ⟨p, i * 2, none⟩) else .pointer none by unfold mineP; rw [hid])
  clear hid
  go_enter Tryd.func27, Tryd.ntmps27
  go_upto_region 1 with (fail)
  refine wp_region_cls (fun W => Upd [] w W) ((Upd.refl [] w).drew) (by kernel_rfl) (by kernel_rfl) (fun _ => ?_)
  repeat (go_big_quiet_step ((go_at_call 12; rename_i x; with_reducible exact Calls.cls (shard_ok k x.w hk) (fun e w' h => ⟨h.1.trans (by rw [HSD.out]), x.ok.trans h.2 (by simp)⟩))))
  refine wpQuiet_nil ?_
  intro _ hw'
  obtain ⟨nq, hw''⟩ := hw'
  subst hw''
  have HU := Hd.mk nq.ok
  generalize nq.w = w1 at HU ⊢
  have hc := (HS.out.up HU.out).ow hi
  generalize o i = x at hc HE
  go_wp2_with fail
  refine (right_ok k w1).mono ?_
  rintro e w2 ⟨rfl, rfl⟩
  cases hr : rightK k with
  | false =>
    have h8 : mineE o ow k = 8 := by rw [HE.out, if_pos hr]
    have H8 := Hd.mk h8
    clear h8 hr
    go_wp2_with fail
    go_ret2
    refine ⟨?_, HU.out⟩
    rw [HP.out, H8.out, if_neg (by decide)]
    rfl
  | true =>
    by_cases h1 : 0 < ow
    · have d1 : decide (ow ≤ 0) = false := decide_eq_false (by omega)
      by_cases h2 : x = ow
      · subst h2
        have h8 : mineE o x k = 0 := by rw [HE.out, if_neg (by rw [hr]; decide), if_pos ⟨h1, rfl⟩]
        have H8 := Hd.mk h8
        clear h8 hr
        go_wp2_with fail
        go_ret2
        refine ⟨?_, HU.out⟩
        rw [HP.out, H8.out, if_pos rfl]
        rfl
      · have d2 : (x == ow) = false := by simpa using h2
        have h8 : mineE o ow k = 7 := by rw [HE.out, if_neg (by rw [hr]; decide), if_neg (by omega)]
        have H8 := Hd.mk h8
        clear h8 hr
        go_wp2_with fail
        go_ret2
        refine ⟨?_, HU.out⟩
        rw [HP.out, H8.out, if_neg (by decide)]
        rfl
    · have d1 : decide (ow ≤ 0) = true := decide_eq_true (by omega)
      have h8 : mineE o ow k = 7 := by rw [HE.out, if_neg (by rw [hr]; decide), if_neg (by omega)]
      have H8 := Hd.mk h8
      clear h8 hr
      go_wp2_with fail
      go_ret2
      refine ⟨?_, HU.out⟩
      rw [HP.out, H8.out, if_neg (by decide)]
      rfl

theorem look_sv {w : World} {r : Nat} {L : List (ByteArray × Value × Nat)} (h : Mp w r (fun k => .string k) L) (k : ByteArray) {x : Option ByteArray} (hg : get L k = x.map .string) :
    (Instr.lookup 50 (.map (some r)) (.string k) true).run Tryd.prog w = .ok (.tuple #[.string (x.getD ⟨#[]⟩), .bool x.isSome]) w := by
  rw [run_lookup_mp (P := Tryd.prog) (keyLaw_string (kt := 9) Tryd.underlying9) 50 Tryd.underlying50 (.string ⟨#[]⟩) (fun W => by kernel_rfl) h k true, hg]
  cases x <;> rfl
theorem part_at (m : St) (k : ByteArray) : part m (shd k) k = m k := by unfold part; rw [if_pos rfl]
theorem Sto.look {w0 w : World} {p : Nat} {r : Nat → Nat} {o : Nat → Int} {m : St} {n : Nat → Nat} (h : Sto w0 w p r o m n) (k : ByteArray) {x : Option ByteArray} (hx : m k = x) :
    (Instr.lookup 50 (.map (some (r (shd k)))) (.string k) true).run Tryd.prog w = .ok (.tuple #[.string (x.getD ⟨#[]⟩), .bool x.isSome]) w := by
  obtain ⟨L, hL, hg, -⟩ := h.map (shd k) (shd_lt k)
  exact look_sv hL k (by rw [hg, part_at, hx])
theorem get_bad {w0 w : World} {p : Nat} {r : Nat → Nat} {o : Nat → Int} {m : St} {n : Nat → Nat} (h : Sto w0 w p r o m n) (ow : Int) (k : ByteArray) (hk : k.size ≤ 140737488351232) {c : Int} (hE : mineE o ow k = c) (hc : c ≠ 0) :
    Calls Tryd.prog 19 #[.pointer (some ⟨p, 0, none⟩), .int .i64 ow, .string k] w fun e w' => e = .returned (.tuple #[.string ⟨#[]⟩, .int .i64 c]) ∧ Upd [] w w' := by
  have HS := Hd.mk h
  have HE := Hd.mk hE
  have HP := Hd.mk (show mineP p o ow k = .pointer none by unfold mineP; rw [hE, if_neg hc])
  have d1 : (c == 0) = false := by simpa using hc
  clear h hE hc
  go_enter Tryd.func19, Tryd.ntmps19
  go_wp2_with fail
  refine (mine_ok HS.out ow k hk).mono ?_
  rintro e w1 ⟨rfl, u1⟩
  rw [HE.out, HP.out]
  go_wp2_with fail
  go_ret2
  exact ⟨rfl, u1⟩
/-- What Get tells of what is there. -/
def getE (x : Option ByteArray) : Int := if x.isSome then 0 else 5
theorem get_good {w0 w : World} {p : Nat} {r : Nat → Nat} {o : Nat → Int} {m : St} {n : Nat → Nat} (h : Sto w0 w p r o m n) (ow : Int) (k : ByteArray) (hk : k.size ≤ 140737488351232) (hE : mineE o ow k = 0) {x : Option ByteArray} (hx : m k = x) :
    Calls Tryd.prog 19 #[.pointer (some ⟨p, 0, none⟩), .int .i64 ow, .string k] w fun e w' => e = .returned (.tuple #[.string (x.getD ⟨#[]⟩), .int .i64 (getE x)]) ∧ Upd [] w w' := by
  have HS := Hd.mk h
  have HE := Hd.mk hE
  have HX := Hd.mk hx
  have HP := Hd.mk (show mineP p o ow k = .pointer (some ⟨p, shd k * 2, none⟩) by unfold mineP; rw [hE, if_pos rfl])
  clear h hE hx
  go_enter Tryd.func19, Tryd.ntmps19
  go_wp2_with fail
  refine (mine_ok HS.out ow k hk).mono ?_
  rintro e w1 ⟨rfl, u1⟩
  rw [HE.out, HP.out]
  have HU := Hd.mk u1
  have hc := (HS.out.up HU.out).mp (shd_lt k)
  have hl := (HS.out.up HU.out).look k HX.out
  clear u1
  cases x with
  | none =>
    simp only [Option.getD_none, Option.isSome_none] at hl
    go_wp2_with fail
    go_ret2
    exact ⟨rfl, HU.out⟩
  | some v =>
    simp only [Option.getD_some, Option.isSome_some] at hl
    go_wp2_with fail
    go_ret2
    exact ⟨rfl, HU.out⟩
end Go.Proofs.YtncahmodmgbacaaDoor
