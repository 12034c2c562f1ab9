/- Tries: nodes in memory; how many bytes two texts have in common. -/
import Derived.Test.YtiombjmkaejjfaaDoorV1
import Derived.Test.YtiombjmkaejjfaaDoorA4
import Derived.Test.YtiombjmkaejjfaaDoorAp2
import Derived.Test.YtiombjmkaejjfaaDoorCq2
namespace Go.Proofs.YtiombjmkaejjfaaDoor
set_option linter.unusedSimpArgs false
set_option linter.unusedVariables false
set_option linter.unnecessarySimpa false
open Go.RowKit BigFrame

def Rt.cells (r : Rt) : List Value := [S r.m, S r.p, S r.h]
mutual
/-- A node in memory, none of whose blocks is one of X. -/
def NdV (w : World) (X : Nat → Prop) : T → Value → Prop
  | .nil, v => v = .pointer none
  | .node es nx pa re en, v => ∃ b ev nv pv rv sv n cs, v = .pointer (some ⟨b, 0, none⟩) ∧ Blk w b [ev, nv, pv, rv, sv] 76 ∧ ¬ X b ∧ Sl w 91 2 ev n cs ∧ (∀ k, k ∈ ownB ev → ¬ X k) ∧ EdV w X es cs ∧ NdV w X nx nv ∧ NdV w X pa pv ∧ NdV w X re rv ∧ Sl w 26 3 sv en.length (en.flatMap Rt.cells) ∧ (∀ k, k ∈ ownB sv → ¬ X k)
def EdV (w : World) (X : Nat → Prop) : E → List Value → Prop
  | .nil, cs => cs = []
  | .cons t d tl, cs => ∃ p r, cs = S t :: p :: r ∧ NdV w X d p ∧ EdV w X tl r
end
mutual
theorem NdV.move : ∀ {t : T} {w w' : World} {X Y : Nat → Prop} {v : Value} {S : List Nat}, NdV w X t v → Upd S w w' → (∀ k, k ∈ S → X k) → (∀ k, Y k → X k ∨ w.heap.size ≤ k) → NdV w' Y t v
  | .nil, _, _, _, _, _, _, h, _, _, _ => by simpa [NdV] using h
  | .node es nx pa re en, w, w', X, Y, v, S, h, hu, hS, hY => by
    simp only [NdV] at h ⊢
    obtain ⟨b, ev, nv, pv, rv, sv, n, cs, h1, h2, h3, h4, h5, h6, h7, h8, h9, h10, h11⟩ := h
    refine ⟨b, ev, nv, pv, rv, sv, n, cs, h1, hu.blk h2 (fun e => h3 (hS _ e)), fun e => ?_, h4.upd hu (fun k hk e => h5 k hk (hS _ e)), fun k hk e => ?_, EdV.move h6 hu hS hY, NdV.move h7 hu hS hY, NdV.move h8 hu hS hY, NdV.move h9 hu hS hY, h10.upd hu (fun k hk e => h11 k hk (hS _ e)), fun k hk e => ?_⟩
    · rcases hY _ e with e | e
      · exact h3 e
      · have := h2.lt; omega
    · rcases hY _ e with e | e
      · exact h5 k hk e
      · have := h4.lt k hk; omega
    · rcases hY _ e with e | e
      · exact h11 k hk e
      · have := h10.lt k hk; omega
theorem EdV.move : ∀ {es : E} {w w' : World} {X Y : Nat → Prop} {cs : List Value} {S : List Nat}, EdV w X es cs → Upd S w w' → (∀ k, k ∈ S → X k) → (∀ k, Y k → X k ∨ w.heap.size ≤ k) → EdV w' Y es cs
  | .nil, _, _, _, _, _, _, h, _, _, _ => by simpa [EdV] using h
  | .cons t d tl, w, w', X, Y, cs, S, h, hu, hS, hY => by
    simp only [EdV] at h ⊢
    obtain ⟨p, r, h1, h2, h3⟩ := h
    exact ⟨p, r, h1, NdV.move h2 hu hS hY, EdV.move h3 hu hS hY⟩
end
theorem NdV.upd {t : T} {w w' : World} {X : Nat → Prop} {v : Value} (h : NdV w X t v) (hu : Upd [] w w') : NdV w' X t v := h.move hu (by simp) (fun _ h => .inl h)
theorem EdV.upd {es : E} {w w' : World} {X : Nat → Prop} {cs : List Value} (h : EdV w X es cs) (hu : Upd [] w w') : EdV w' X es cs := h.move hu (by simp) (fun _ h => .inl h)
def E.len : E → Nat
  | .nil => 0
  | .cons _ _ tl => tl.len + 1
theorem EdV.length : ∀ {es : E} {w : World} {X : Nat → Prop} {cs : List Value}, EdV w X es cs → cs.length = es.len * 2
  | .nil, _, _, _, h => by simp only [EdV] at h; subst h; rfl
  | .cons t d tl, w, X, cs, h => by
    simp only [EdV] at h
    obtain ⟨p, r, rfl, _, h3⟩ := h
    have := EdV.length h3
    simp only [List.length_cons, E.len, this]
    omega
theorem NdV.ptr {w : World} {X : Nat → Prop} {t : T} {v : Value} (h : NdV w X t v) (hn : t ≠ .nil) : ∃ b, v = .pointer (some ⟨b, 0, none⟩) ∧ b < w.heap.size := by
  cases t with
  | nil => exact absurd rfl hn
  | node =>
    simp only [NdV] at h
    obtain ⟨b, ev, nv, pv, rv, sv, n, cs, h1, h2, _⟩ := h
    exact ⟨b, h1, h2.lt⟩

theorem u8_eq (a b : UInt8) : ((a.toNat : Int) == (b.toNat : Int)) = decide (a = b) := by
  rw [Bool.eq_iff_iff, beq_iff_eq, decide_eq_true_iff]
  constructor
  · intro h; exact UInt8.toNat_inj.1 (by omega)
  · intro h; rw [h]
theorem cp_next (a b : ByteArray) (k : Nat) (hk : k < cp a.data.toList b.data.toList) (h1 : k < a.size) (h2 : k < b.size) : a[k] = b[k] := by
  have h := cp_take a.data.toList b.data.toList
  have e := congrArg (fun l => l[k]?) h
  simp only [List.getElem?_take, if_pos hk] at e
  have l1 : k < a.data.toList.length := by simpa using h1
  have l2 : k < b.data.toList.length := by simpa using h2
  rw [List.getElem?_eq_getElem l1, List.getElem?_eq_getElem l2] at e
  exact Option.some.inj e
theorem cp_end (a b : ByteArray) {n : Nat} (hn : cp a.data.toList b.data.toList = n) (h1 : n < a.size) (h2 : n < b.size) : a[n] ≠ b[n] := by
  subst hn
  have l1 : cp a.data.toList b.data.toList < a.data.toList.length := by simpa using h1
  have l2 : cp a.data.toList b.data.toList < b.data.toList.length := by simpa using h2
  have := cp_stop a.data.toList b.data.toList l1 l2
  rw [List.getElem?_eq_getElem l1, List.getElem?_eq_getElem l2] at this
  intro e
  exact this (congrArg some e)
set_option maxHeartbeats 1000000 in
theorem common_ok (a b : ByteArray) (w : World) (hb : b.size ≤ 1000000000) :
    Calls Tryd.prog 46 #[.string a, .string b] w fun e w' => e = .returned (.int .i64 (cp a.data.toList b.data.toList)) ∧ Upd [] w w' := by
  have hle := cp_le a.data.toList b.data.toList
  have hl1 : a.data.toList.length = a.size := by simp
  have hl2 : b.data.toList.length = b.size := by simp
  rw [hl1, hl2] at hle
  clear hl1 hl2
  have HN := Hd.mk (cp_next a b)
  obtain ⟨n, hn⟩ : ∃ n, cp a.data.toList b.data.toList = n := ⟨_, rfl⟩
  have HE := Hd.mk (cp_end a b hn)
  simp only [hn] at hle HN ⊢
  clear hn
  obtain ⟨hna, hnb⟩ := hle
  go_enter Tryd.func46, Tryd.ntmps46
  go_upto_region 2 with (fail)
  go_loopg [5] n (fun g kk wr => ∃ k : Nat, g + k = n ∧ kk = .int .i64 k ∧ Hd (Upd [] w wr))
  case atStart => exact ⟨0, by omega, rfl, Hd.mk (Upd.refl _ _)⟩
  case round =>
    obtain ⟨k, hg, rfl, HU⟩ := hrel
    have HG := Hd.mk hg
    clear hg
    by_cases hk : k < n
    · have h1 : k < a.size := by omega
      have h2 : k < b.size := by omega
      have d1 : decide (k < a.size) = true := decide_eq_true h1
      have d2 : decide (k < b.size) = true := decide_eq_true h2
      have d3 : ((a[k].toNat : Int) == (b[k].toNat : Int)) = true := by rw [u8_eq]; exact decide_eq_true (HN.out k hk h1 h2)
      go_upto_region 2 with (fail)
      refine wp_region_quiet_lit (by kernel_rfl) (by kernel_rfl) ?_
      repeat (go_big_quiet_step (fail))
      refine wpQuiet_nil ?_
      (intro _ hw'; obtain ⟨nq, hw''⟩ := hw'; subst hw'')
      go_wp2_with fail
      go_roundg (gk - 1)
      case measure => have := HG.out; omega
      case rel => exact ⟨k + 1, by have := HG.out; omega, by go_num, Hd.mk (HU.out.drewN _)⟩
    · have hkn : k = n := by have := HG.out; omega
      subst hkn
      clear hk
      by_cases h1 : k < a.size
      · have d1 : decide (k < a.size) = true := decide_eq_true h1
        by_cases h2 : k < b.size
        · have d2 : decide (k < b.size) = true := decide_eq_true h2
          have d3 : ((a[k].toNat : Int) == (b[k].toNat : Int)) = false := by rw [u8_eq]; exact decide_eq_false (HE.out h1 h2)
          go_upto_region 2 with (fail)
          refine wp_region_quiet_lit (by kernel_rfl) (by kernel_rfl) ?_
          repeat (go_big_quiet_step (fail))
          refine wpQuiet_nil ?_
          (intro _ hw'; obtain ⟨nq, hw''⟩ := hw'; subst hw'')
          go_wp2_with fail
          go_ret
          exact ⟨rfl, HU.out.drewN _⟩
        · have d2 : decide (k < b.size) = false := decide_eq_false h2
          go_upto_region 2 with (fail)
          refine wp_region_quiet_lit (by kernel_rfl) (by kernel_rfl) ?_
          repeat (go_big_quiet_step (fail))
          refine wpQuiet_nil ?_
          (intro _ hw'; obtain ⟨nq, hw''⟩ := hw'; subst hw'')
          go_wp2_with fail
          go_ret
          exact ⟨rfl, HU.out.drewN _⟩
      · have d1 : decide (k < a.size) = false := decide_eq_false h1
        go_upto_region 2 with (fail)
        refine wp_region_quiet_lit (by kernel_rfl) (by kernel_rfl) ?_
        repeat (go_big_quiet_step (fail))
        refine wpQuiet_nil ?_
        (intro _ hw'; obtain ⟨nq, hw''⟩ := hw'; subst hw'')
        go_wp2_with fail
        go_ret
        exact ⟨rfl, HU.out.drewN _⟩
end Go.Proofs.YtiombjmkaejjfaaDoor
