/- Store: Put, Delete. -/
import Derived.Test.YtncahmodmgbacaaDoorS4

namespace Go.Proofs.YtncahmodmgbacaaDoor
set_option linter.unusedSimpArgs false
set_option linter.unusedVariables false
set_option linter.unnecessarySimpa false
open Go.RowKit BigFrame

def setM (m : St) (k : ByteArray) (x : Option ByteArray) : St := fun k' => if k' = k then x else m k'
def setN (n : Nat → Nat) (i c : Nat) : Nat → Nat := fun j => if j = i then c else n j
theorem part_set (m : St) (k : ByteArray) (x : Option ByteArray) (i : Nat) (k' : ByteArray) : part (setM m k x) i k' = if k' = k then (if shd k = i then x else none) else part m i k' := by
  unfold part setM
  by_cases h : k' = k
  · subst h; simp
  · simp [h]
theorem Sto.put {w0 w w' : World} {p : Nat} {r : Nat → Nat} {o : Nat → Int} {m : St} {n : Nat → Nat} (h : Sto w0 w p r o m n) (k : ByteArray) (x : Option ByteArray) (hu : Upd [r (shd k)] w w') {c : Nat} (hm : MS w' (r (shd k)) (part (setM m k x) (shd k)) c) :
    Sto w0 w' p r o (setM m k x) (setN n (shd k) c) := by
  have hi := shd_lt k
  refine ⟨hu.blk h.blk ?_, ?_, h.ne, h.new, h.upd.trans hu ?_⟩
  · intro e
    rw [List.mem_singleton] at e
    obtain ⟨L, hL, -⟩ := h.map (shd k) hi
    rw [← e] at hL
    exact hL.other _ _ h.blk
  · intro i hi2
    unfold setN
    by_cases e : i = shd k
    · subst e
      rw [if_pos rfl]
      exact hm
    · rw [if_neg e]
      have hp : part (setM m k x) i = part m i := by
        funext k'
        rw [part_set]
        by_cases e2 : k' = k
        · rw [if_pos e2, if_neg (fun q => e q.symm), e2]
          unfold part
          rw [if_neg (fun q => e q.symm)]
        · rw [if_neg e2]
      rw [hp]
      refine (h.map i hi2).upd hu ?_
      intro q
      rw [List.mem_singleton] at q
      exact h.ne i (shd k) hi2 hi e q
  · intro j hj e
    rw [List.mem_singleton] at e
    subst e
    have : r (shd k) ∈ foot p r := by
      unfold foot
      rcases (by omega : shd k = 0 ∨ shd k = 1 ∨ shd k = 2 ∨ shd k = 3) with e | e | e | e <;> rw [e] <;> simp
    have := h.new _ this
    omega
theorem Sto.store {w0 w : World} {p : Nat} {r : Nat → Nat} {o : Nat → Int} {m : St} {n : Nat → Nat} (h : Sto w0 w p r o m n) (k v : ByteArray) :
    ∃ w', (Instr.mapUpdate 50 (.map (some (r (shd k)))) (.string k) (.string v)).run Tryd.prog w = .ok () w' ∧ Upd [r (shd k)] w w' ∧ Sto w0 w' p r o (setM m k (some v)) (setN n (shd k) (if (m k).isSome then n (shd k) else n (shd k) + 1)) := by
  obtain ⟨L, hL, hg, hn⟩ := h.map (shd k) (shd_lt k)
  obtain ⟨c, w', hr, h3, h4⟩ := run_update_mp (P := Tryd.prog) (keyLaw_string (kt := 9) Tryd.underlying9) 50 Tryd.underlying50 hL k (.string v)
  refine ⟨w', hr, h4, h.put k (some v) h4 ⟨_, h3, fun k' => ?_, ?_⟩⟩
  · rw [get_put, part_set, if_pos rfl, hg]
    split <;> rfl
  · rw [put_len, hg, part_at, hn]
    cases m k <;> simp
theorem Sto.drop {w0 w : World} {p : Nat} {r : Nat → Nat} {o : Nat → Int} {m : St} {n : Nat → Nat} (h : Sto w0 w p r o m n) (k : ByteArray) (hk : (m k).isSome = true) :
    ∃ w', (Builtin.delete_ #[50, 9] 0 #[.map (some (r (shd k))), .string k]).run Tryd.prog w = .ok (.tuple #[]) w' ∧ Upd [r (shd k)] w w' ∧ Sto w0 w' p r o (setM m k none) (setN n (shd k) (n (shd k) - 1)) := by
  obtain ⟨L, hL, hg, hn⟩ := h.map (shd k) (shd_lt k)
  obtain ⟨w', hr, h3, h4⟩ := run_delete_mp (P := Tryd.prog) (keyLaw_string (kt := 9) Tryd.underlying9) 50 9 0 Tryd.underlying50 hL k
  refine ⟨w', hr, h4, h.put k none h4 ⟨_, h3, fun k' => ?_, ?_⟩⟩
  · rw [get_del, part_set, if_pos rfl, hg]
    split <;> rfl
  · have hnd : (L.map (·.1)).Nodup := by obtain ⟨_, _, h, _⟩ := hL; exact h
    have := del_len L hnd k
    rw [hg, part_at] at this
    cases hq : m k with
    | none => rw [hq] at hk; simp at hk
    | some v =>
      rw [hq] at this
      simp at this
      omega
theorem Sto.len {w0 w : World} {p : Nat} {r : Nat → Nat} {o : Nat → Int} {m : St} {n : Nat → Nat} (h : Sto w0 w p r o m n) {i : Nat} (hi : i < 4) (ty : TypeId) :
    (Builtin.len_ #[50] ty #[.map (some (r i))]).run Tryd.prog w = .ok (.int .i64 (n i)) w := by
  obtain ⟨L, hL, hg, hn⟩ := h.map i hi
  rw [run_len_mp (P := Tryd.prog) Tryd.underlying50 hL, hn]
def tagS (v : ByteArray) : ByteArray := ⟨(tagL v.data.toList).toArray⟩
/-- May it be put, or deleted, by this tag? -/
def tagOk (x : Option ByteArray) (t : ByteArray) : Bool := decide (t.size = 0) || (match x with | none => false | some v => decide (tagS v = t))
/-- What keeps Put from putting. -/
def putE (x : Option ByteArray) (t : ByteArray) (c : Nat) : Int := if tagOk x t = false then 6 else if x.isSome = false ∧ c = 8 then 4 else 0

theorem put_bad {w0 w : World} {p : Nat} {r : Nat → Nat} {o : Nat → Int} {m : St} {n : Nat → Nat} (h : Sto w0 w p r o m n) (ow : Int) (k v t : ByteArray) (hk : k.size ≤ 140737488351232) {c : Int} (hE : mineE o ow k = c) (hc : c ≠ 0) :
    Calls Tryd.prog 17 #[.pointer (some ⟨p, 0, none⟩), .int .i64 ow, .string k, .string v, .string t] w fun e w' => e = .returned (.tuple #[.bool false, .int .i64 c]) ∧ Upd [] w w' := by
  have HS := Hd.mk h
  have HE := Hd.mk hE
  have HP := Hd.mk (show mineP p o ow k = .pointer none by unfold mineP; rw [hE, if_neg hc])
  have d1 : (c == 0) = false := by simpa using hc
  clear h hE hc
  go_enter Tryd.func17, Tryd.ntmps17
  go_wp2_with fail
  refine (mine_ok HS.out ow k hk).mono ?_
  rintro e w1 ⟨rfl, u1⟩
  rw [HE.out, HP.out]
  go_wp2_with fail
  go_ret2
  exact ⟨rfl, u1⟩
/-- Put where the tag is no matter, or the key is there: what stands ahead of the switch. -/
theorem put_no {w0 w : World} {p : Nat} {r : Nat → Nat} {o : Nat → Int} {m : St} {n : Nat → Nat} (h : Sto w0 w p r o m n) (hT : Tb w0) (ow : Int) (k v t : ByteArray) (hk : k.size ≤ 140737488351232) (hE : mineE o ow k = 0) {x : Option ByteArray} (hx : m k = x) (hv : ∀ y, x = some y → y.size ≤ 1000000) {c : Int} (hE2 : putE x t (n (shd k)) = c) (hc : c ≠ 0) :
    Calls Tryd.prog 17 #[.pointer (some ⟨p, 0, none⟩), .int .i64 ow, .string k, .string v, .string t] w fun e w' => e = .returned (.tuple #[.bool false, .int .i64 c]) ∧ Upd [] w w' := by
  have HS := Hd.mk h
  have HT := Hd.mk hT
  have HE := Hd.mk hE
  have HX := Hd.mk hx
  have HV := Hd.mk hv
  have HC := Hd.mk (And.intro hE2 hc)
  have HP := Hd.mk (show mineP p o ow k = .pointer (some ⟨p, shd k * 2, none⟩) by unfold mineP; rw [hE, if_pos rfl])
  clear h hE hx hT hv hE2 hc
  go_enter Tryd.func17, Tryd.ntmps17
  go_wp2_with fail
  refine (mine_ok HS.out ow k hk).mono ?_
  rintro e w1 ⟨rfl, u1⟩
  rw [HE.out, HP.out]
  have HU := Hd.mk u1
  have hcl := (HS.out.up HU.out).mp (shd_lt k)
  have hl := (HS.out.up HU.out).look k HX.out
  have hlen := fun ty => (HS.out.up HU.out).len (shd_lt k) ty
  clear u1
  by_cases ht : t.size = 0
  · obtain rfl := size0 ht
    cases x with
    | none =>
      simp only [Option.getD_none, Option.isSome_none] at hl
      obtain ⟨h8, rfl⟩ : n (shd k) = 8 ∧ c = 4 := (by
        have := HC.out
        unfold putE tagOk at this
        by_cases e : n (shd k) = 8
        · simp [e] at this
          exact ⟨e, this.1.symm⟩
        · simp [e] at this
          exact absurd this.1.symm this.2)
      rw [h8] at hlen
      go_wp2_with fail
      go_ret2
      exact ⟨rfl, HU.out⟩
    | some y =>
      have := HC.out
      simp [putE, tagOk] at this
      exact absurd this.1.symm this.2
  · have hne := str_ne0 (a := t) (fun e => ht (by rw [e]; rfl))
    cases x with
    | none =>
      simp only [Option.getD_none, Option.isSome_none] at hl
      have h6 : c = 6 := by
        have := HC.out.1
        simp [putE, tagOk, ht] at this
        exact this.symm
      subst h6
      go_wp2_with fail
      go_ret2
      exact ⟨rfl, HU.out⟩
    | some y =>
      simp only [Option.getD_some, Option.isSome_some] at hl
      have h6 : tagS y ≠ t ∧ c = 6 := by
        have := HC.out
        by_cases e : tagS y = t
        · simp [putE, tagOk, e] at this
          exact absurd this.1.symm this.2
        · simp [putE, tagOk, ht, e] at this
          exact ⟨e, this.1.symm⟩
      obtain ⟨h6, rfl⟩ := h6
      have hno := str_no h6
      go_wp2_with fail
      refine (tag_ok y w1 (HV.out y rfl) (HT.out.upd (HS.out.up HU.out).upd)).mono ?_
      rintro e w2 ⟨rfl, u2⟩
      have HU := Hd.mk (HU.out.trans u2 (by simp))
      have HTS := Hd.mk (show tagS y = ⟨(tagL y.data.toList).toArray⟩ from rfl)
      rw [← HTS.out]
      clear u2
      go_wp2_with fail
      go_ret2
      exact ⟨rfl, HU.out⟩
theorem tagOk_cases {x : Option ByteArray} {t : ByteArray} (h : tagOk x t = true) : t.size = 0 ∨ (t.size ≠ 0 ∧ ∃ v, x = some v ∧ tagS v = t) := by
  by_cases ht : t.size = 0
  · exact .inl ht
  · cases x with
    | none => simp [tagOk, ht] at h
    | some v => simp [tagOk, ht] at h; exact .inr ⟨ht, v, rfl, h⟩
theorem putE_zero {x : Option ByteArray} {t : ByteArray} {c : Nat} (h : putE x t c = 0) : tagOk x t = true ∧ (x.isSome = true ∨ c ≠ 8) := by
  unfold putE at h
  cases h1 : tagOk x t with
  | false => rw [h1] at h; simp at h
  | true =>
    rw [h1] at h
    refine ⟨rfl, ?_⟩
    cases h2 : x.isSome with
    | true => exact .inl rfl
    | false =>
      rw [h2] at h
      refine .inr fun e => ?_
      simp [e] at h
set_option maxRecDepth 100000 in
theorem put_yes {w0 w : World} {p : Nat} {r : Nat → Nat} {o : Nat → Int} {m : St} {n : Nat → Nat} (h : Sto w0 w p r o m n) (hT : Tb w0) (ow : Int) (k v t : ByteArray) (hk : k.size ≤ 140737488351232) (hE : mineE o ow k = 0) {x : Option ByteArray} (hx : m k = x) (hv : ∀ y, x = some y → y.size ≤ 1000000) (hE2 : putE x t (n (shd k)) = 0) :
    Calls Tryd.prog 17 #[.pointer (some ⟨p, 0, none⟩), .int .i64 ow, .string k, .string v, .string t] w fun e w' => e = .returned (.tuple #[.bool x.isSome, .int .i64 0]) ∧ Upd [r (shd k)] w w' ∧ Sto w0 w' p r o (setM m k (some v)) (setN n (shd k) (if x.isSome then n (shd k) else n (shd k) + 1)) := by
  have HS := Hd.mk h
  have HT := Hd.mk hT
  have HE := Hd.mk hE
  have HX := Hd.mk hx
  have HV := Hd.mk hv
  have HC := Hd.mk (putE_zero hE2)
  have HP := Hd.mk (show mineP p o ow k = .pointer (some ⟨p, shd k * 2, none⟩) by unfold mineP; rw [hE, if_pos rfl])
  have htc := tagOk_cases (putE_zero hE2).1
  clear h hE hx hT hv hE2
  go_enter Tryd.func17, Tryd.ntmps17
  go_wp2_with fail
  refine (mine_ok HS.out ow k hk).mono ?_
  rintro e w1 ⟨rfl, u1⟩
  rw [HE.out, HP.out]
  have HU := Hd.mk u1
  have hcl := (HS.out.up HU.out).mp (shd_lt k)
  have hl := (HS.out.up HU.out).look k HX.out
  have hlen := fun ty => (HS.out.up HU.out).len (shd_lt k) ty
  clear u1
  rcases htc with ht | ⟨ht, y, rfl, hty⟩
  · obtain rfl := size0 ht
    obtain ⟨w2, hst, u2, S2⟩ := (HS.out.up HU.out).store k v
    have HS2 := Hd.mk (And.intro u2 S2)
    clear u2 S2
    cases x with
    | none =>
      simp only [Option.getD_none, Option.isSome_none] at hl
      have hc8 : n (shd k) ≠ 8 := by
        have := HC.out.2
        simpa using this
      have hn8 : ((n (shd k) : Int) == 8) = false := by simp; omega
      go_wp2_with fail
      go_ret2
      refine ⟨rfl, (HU.out.mono (by simp)).trans HS2.out.1 (by simp), ?_⟩
      have := HS2.out.2
      rw [HX.out] at this
      exact this
    | some y =>
      simp only [Option.getD_some, Option.isSome_some] at hl
      go_wp2_with fail
      go_ret2
      refine ⟨rfl, (HU.out.mono (by simp)).trans HS2.out.1 (by simp), ?_⟩
      have := HS2.out.2
      rw [HX.out] at this
      exact this
  · have hne := str_ne0 (a := t) (fun e => ht (by rw [e]; rfl))
    simp only [Option.getD_some, Option.isSome_some] at hl
    have hys := str_yes hty
    go_wp2_with fail
    refine (tag_ok y w1 (HV.out y rfl) (HT.out.upd (HS.out.up HU.out).upd)).mono ?_
    rintro e w2 ⟨rfl, u2⟩
    have HU := Hd.mk (HU.out.trans u2 (by simp))
    have hcl := (HS.out.up HU.out).mp (shd_lt k)
    have hlen := fun ty => (HS.out.up HU.out).len (shd_lt k) ty
    obtain ⟨w3, hst, u3, S3⟩ := (HS.out.up HU.out).store k v
    have HS2 := Hd.mk (And.intro u3 S3)
    clear u2 u3 S3
    have HTS := Hd.mk (show tagS y = ⟨(tagL y.data.toList).toArray⟩ from rfl)
    rw [← HTS.out]
    clear hty
    go_wp2_with fail
    go_ret2
    refine ⟨rfl, (HU.out.mono (by simp)).trans HS2.out.1 (by simp), ?_⟩
    have := HS2.out.2
    rw [HX.out] at this
    exact this

/-- What keeps Delete from deleting. -/
def delE (x : Option ByteArray) (t : ByteArray) : Int := if x.isSome = false then 5 else if tagOk x t = false then 6 else 0
theorem del_bad {w0 w : World} {p : Nat} {r : Nat → Nat} {o : Nat → Int} {m : St} {n : Nat → Nat} (h : Sto w0 w p r o m n) (ow : Int) (k t : ByteArray) (hk : k.size ≤ 140737488351232) {c : Int} (hE : mineE o ow k = c) (hc : c ≠ 0) :
    Calls Tryd.prog 18 #[.pointer (some ⟨p, 0, none⟩), .int .i64 ow, .string k, .string t] w fun e w' => e = .returned (.int .i64 c) ∧ Upd [] w w' := by
  have HS := Hd.mk h
  have HE := Hd.mk hE
  have HP := Hd.mk (show mineP p o ow k = .pointer none by unfold mineP; rw [hE, if_neg hc])
  have d1 : (c == 0) = false := by simpa using hc
  clear h hE hc
  go_enter Tryd.func18, Tryd.ntmps18
  go_wp2_with fail
  refine (mine_ok HS.out ow k hk).mono ?_
  rintro e w1 ⟨rfl, u1⟩
  rw [HE.out, HP.out]
  go_wp2_with fail
  go_ret
  exact ⟨rfl, u1⟩
set_option maxRecDepth 100000 in
theorem del_no {w0 w : World} {p : Nat} {r : Nat → Nat} {o : Nat → Int} {m : St} {n : Nat → Nat} (h : Sto w0 w p r o m n) (hT : Tb w0) (ow : Int) (k t : ByteArray) (hk : k.size ≤ 140737488351232) (hE : mineE o ow k = 0) {x : Option ByteArray} (hx : m k = x) (hv : ∀ y, x = some y → y.size ≤ 1000000) {c : Int} (hE2 : delE x t = c) (hc : c ≠ 0) :
    Calls Tryd.prog 18 #[.pointer (some ⟨p, 0, none⟩), .int .i64 ow, .string k, .string t] w fun e w' => e = .returned (.int .i64 c) ∧ Upd [] w w' := by
  have HS := Hd.mk h
  have HT := Hd.mk hT
  have HE := Hd.mk hE
  have HX := Hd.mk hx
  have HV := Hd.mk hv
  have HC := Hd.mk (And.intro hE2 hc)
  have HP := Hd.mk (show mineP p o ow k = .pointer (some ⟨p, shd k * 2, none⟩) by unfold mineP; rw [hE, if_pos rfl])
  clear h hE hx hT hv hE2 hc
  go_enter Tryd.func18, Tryd.ntmps18
  go_wp2_with fail
  refine (mine_ok HS.out ow k hk).mono ?_
  rintro e w1 ⟨rfl, u1⟩
  rw [HE.out, HP.out]
  have HU := Hd.mk u1
  have hcl := (HS.out.up HU.out).mp (shd_lt k)
  have hl := (HS.out.up HU.out).look k HX.out
  clear u1
  cases x with
  | none =>
    simp only [Option.getD_none, Option.isSome_none] at hl
    have h5 : c = 5 := by
      have := HC.out.1
      simp [delE] at this
      exact this.symm
    subst h5
    go_wp2_with fail
    go_ret
    exact ⟨rfl, HU.out⟩
  | some y =>
    simp only [Option.getD_some, Option.isSome_some] at hl
    have h6 : t.size ≠ 0 ∧ tagS y ≠ t ∧ c = 6 := by
      have := HC.out
      by_cases ht : t.size = 0
      · simp [delE, tagOk, ht] at this
        exact absurd this.1.symm this.2
      · by_cases e : tagS y = t
        · simp [delE, tagOk, e] at this
          exact absurd this.1.symm this.2
        · simp [delE, tagOk, ht, e] at this
          exact ⟨ht, e, this.1.symm⟩
    obtain ⟨ht, h6, rfl⟩ := h6
    have hne := str_ne0 (a := t) (fun e => ht (by rw [e]; rfl))
    have hno := str_no h6
    go_wp2_with fail
    refine (tag_ok y w1 (HV.out y rfl) (HT.out.upd (HS.out.up HU.out).upd)).mono ?_
    rintro e w2 ⟨rfl, u2⟩
    have HU := Hd.mk (HU.out.trans u2 (by simp))
    have HTS := Hd.mk (show tagS y = ⟨(tagL y.data.toList).toArray⟩ from rfl)
    rw [← HTS.out]
    clear u2
    go_wp2_with fail
    go_ret
    exact ⟨rfl, HU.out⟩
theorem delE_zero {x : Option ByteArray} {t : ByteArray} (h : delE x t = 0) : ∃ y, x = some y ∧ tagOk x t = true := by
  unfold delE at h
  cases x with
  | none => simp at h
  | some y =>
    cases h1 : tagOk (some y) t with
    | true => exact ⟨y, rfl, rfl⟩
    | false => rw [h1] at h; simp at h
set_option maxRecDepth 100000 in
theorem del_yes {w0 w : World} {p : Nat} {r : Nat → Nat} {o : Nat → Int} {m : St} {n : Nat → Nat} (h : Sto w0 w p r o m n) (hT : Tb w0) (ow : Int) (k t : ByteArray) (hk : k.size ≤ 140737488351232) (hE : mineE o ow k = 0) {x : Option ByteArray} (hx : m k = x) (hv : ∀ y, x = some y → y.size ≤ 1000000) (hE2 : delE x t = 0) :
    Calls Tryd.prog 18 #[.pointer (some ⟨p, 0, none⟩), .int .i64 ow, .string k, .string t] w fun e w' => e = .returned (.int .i64 0) ∧ Upd [r (shd k)] w w' ∧ Sto w0 w' p r o (setM m k none) (setN n (shd k) (n (shd k) - 1)) := by
  obtain ⟨y, rfl, hto⟩ := delE_zero hE2
  have HS := Hd.mk h
  have HT := Hd.mk hT
  have HE := Hd.mk hE
  have HX := Hd.mk hx
  have HV := Hd.mk hv
  have HP := Hd.mk (show mineP p o ow k = .pointer (some ⟨p, shd k * 2, none⟩) by unfold mineP; rw [hE, if_pos rfl])
  have htc := tagOk_cases hto
  clear h hE hx hT hv hE2 hto
  go_enter Tryd.func18, Tryd.ntmps18
  go_wp2_with fail
  refine (mine_ok HS.out ow k hk).mono ?_
  rintro e w1 ⟨rfl, u1⟩
  rw [HE.out, HP.out]
  have HU := Hd.mk u1
  have hcl := (HS.out.up HU.out).mp (shd_lt k)
  have hl := (HS.out.up HU.out).look k HX.out
  simp only [Option.getD_some, Option.isSome_some] at hl
  clear u1
  rcases htc with ht | ⟨ht, y', hyy, hty⟩
  · obtain rfl := size0 ht
    obtain ⟨w2, hst, u2, S2⟩ := (HS.out.up HU.out).drop k (by rw [HX.out]; rfl)
    have HS2 := Hd.mk (And.intro u2 S2)
    clear u2 S2
    go_wp2_with fail
    go_ret
    exact ⟨rfl, (HU.out.mono (by simp)).trans HS2.out.1 (by simp), HS2.out.2⟩
  · cases hyy
    have hne := str_ne0 (a := t) (fun e => ht (by rw [e]; rfl))
    have hys := str_yes hty
    go_wp2_with fail
    refine (tag_ok y w1 (HV.out y rfl) (HT.out.upd (HS.out.up HU.out).upd)).mono ?_
    rintro e w2 ⟨rfl, u2⟩
    have HU := Hd.mk (HU.out.trans u2 (by simp))
    have hcl := (HS.out.up HU.out).mp (shd_lt k)
    obtain ⟨w3, hst, u3, S3⟩ := (HS.out.up HU.out).drop k (by rw [HX.out]; rfl)
    have HS2 := Hd.mk (And.intro u3 S3)
    clear u2 u3 S3
    have HTS := Hd.mk (show tagS y = ⟨(tagL y.data.toList).toArray⟩ from rfl)
    rw [← HTS.out]
    clear hty
    go_wp2_with fail
    go_ret
    exact ⟨rfl, (HU.out.mono (by simp)).trans HS2.out.1 (by simp), HS2.out.2⟩
end Go.Proofs.YtncahmodmgbacaaDoor
