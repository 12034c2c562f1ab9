/- Tries: nodes in memory; copies of them; what a maker of nodes leaves. -/
import Derived.Test.YtndlbkiogagnaaaGreatDoorV1
import Derived.Test.YtndlbkiogagnaaaGreatDoorA4
import Derived.Test.YtndlbkiogagnaaaGreatDoorAp2
import Derived.Test.YtndlbkiogagnaaaGreatDoorCq2
namespace Go.Proofs.YtndlbkiogagnaaaGreatDoor
set_option linter.unusedSimpArgs false
set_option linter.unusedVariables false
set_option linter.unnecessarySimpa false
open Go.RowKit BigFrame

def Rt.cells (r : Rt) : List Value := [S r.m, S r.p, S r.h]
mutual
/-- A node in memory, none of whose blocks is one of X. -/
def NdV (w : World) (X : Nat → Prop) : T → Value → Prop
  | .nil, v => v = .pointer none
  | .node es nx pa re en, v => ∃ b ev nv pv rv sv n cs, v = .pointer (some ⟨b, 0, none⟩) ∧ Blk w b [ev, nv, pv, rv, sv] 164 ∧ ¬ X b ∧ Sl w 201 2 ev n cs ∧ (∀ k, k ∈ ownB ev → ¬ X k) ∧ EdV w X es cs ∧ NdV w X nx nv ∧ NdV w X pa pv ∧ NdV w X re rv ∧ Sl w 90 3 sv en.length (en.flatMap Rt.cells) ∧ (∀ k, k ∈ ownB sv → ¬ X k)
def EdV (w : World) (X : Nat → Prop) : E → List Value → Prop
  | .nil, cs => cs = []
  | .cons t d tl, cs => ∃ p r, cs = S t :: p :: r ∧ NdV w X d p ∧ EdV w X tl r
end
mutual
theorem NdV.move : ∀ {t : T} {w w' : World} {X Y : Nat → Prop} {v : Value} {S : List Nat}, NdV w X t v → Upd S w w' → (∀ k, k ∈ S → X k) → (∀ k, Y k → X k ∨ w.heap.size ≤ k) → NdV w' Y t v
  | .nil, _, _, _, _, _, _, h, _, _, _ => by simpa [NdV] using h
  | .node es nx pa re en, w, w', X, Y, v, S, h, hu, hS, hY => by
    simp only [NdV] at h ⊢
    obtain ⟨b, ev, nv, pv, rv, sv, n, cs, h1, h2, h3, h4, h5, h6, h7, h8, h9, h10, h11⟩ := h
    refine ⟨b, ev, nv, pv, rv, sv, n, cs, h1, hu.blk h2 (fun e => h3 (hS _ e)), fun e => ?_, h4.upd hu (fun k hk e => h5 k hk (hS _ e)), fun k hk e => ?_, EdV.move h6 hu hS hY, NdV.move h7 hu hS hY, NdV.move h8 hu hS hY, NdV.move h9 hu hS hY, h10.upd hu (fun k hk e => h11 k hk (hS _ e)), fun k hk e => ?_⟩
    · rcases hY _ e with e | e
      · exact h3 e
      · have := h2.lt; omega
    · rcases hY _ e with e | e
      · exact h5 k hk e
      · have := h4.lt k hk; omega
    · rcases hY _ e with e | e
      · exact h11 k hk e
      · have := h10.lt k hk; omega
theorem EdV.move : ∀ {es : E} {w w' : World} {X Y : Nat → Prop} {cs : List Value} {S : List Nat}, EdV w X es cs → Upd S w w' → (∀ k, k ∈ S → X k) → (∀ k, Y k → X k ∨ w.heap.size ≤ k) → EdV w' Y es cs
  | .nil, _, _, _, _, _, _, h, _, _, _ => by simpa [EdV] using h
  | .cons t d tl, w, w', X, Y, cs, S, h, hu, hS, hY => by
    simp only [EdV] at h ⊢
    obtain ⟨p, r, h1, h2, h3⟩ := h
    exact ⟨p, r, h1, NdV.move h2 hu hS hY, EdV.move h3 hu hS hY⟩
end
theorem NdV.upd {t : T} {w w' : World} {X : Nat → Prop} {v : Value} (h : NdV w X t v) (hu : Upd [] w w') : NdV w' X t v := h.move hu (by simp) (fun _ h => .inl h)
theorem EdV.upd {es : E} {w w' : World} {X : Nat → Prop} {cs : List Value} (h : EdV w X es cs) (hu : Upd [] w w') : EdV w' X es cs := h.move hu (by simp) (fun _ h => .inl h)
def E.len : E → Nat
  | .nil => 0
  | .cons _ _ tl => tl.len + 1
theorem EdV.length : ∀ {es : E} {w : World} {X : Nat → Prop} {cs : List Value}, EdV w X es cs → cs.length = es.len * 2
  | .nil, _, _, _, h => by simp only [EdV] at h; subst h; rfl
  | .cons t d tl, w, X, cs, h => by
    simp only [EdV] at h
    obtain ⟨p, r, rfl, _, h3⟩ := h
    have := EdV.length h3
    simp only [List.length_cons, E.len, this]
    omega
theorem NdV.ptr {w : World} {X : Nat → Prop} {t : T} {v : Value} (h : NdV w X t v) (hn : t ≠ .nil) : ∃ b, v = .pointer (some ⟨b, 0, none⟩) ∧ b < w.heap.size := by
  cases t with
  | nil => exact absurd rfl hn
  | node =>
    simp only [NdV] at h
    obtain ⟨b, ev, nv, pv, rv, sv, n, cs, h1, h2, _⟩ := h
    exact ⟨b, h1, h2.lt⟩

theorem u8_eq (a b : UInt8) : ((a.toNat : Int) == (b.toNat : Int)) = decide (a = b) := by
  rw [Bool.eq_iff_iff, beq_iff_eq, decide_eq_true_iff]
  constructor
  · intro h; exact UInt8.toNat_inj.1 (by omega)
  · intro h; rw [h]
theorem cp_next (a b : ByteArray) (k : Nat) (hk : k < cp a.data.toList b.data.toList) (h1 : k < a.size) (h2 : k < b.size) : a[k] = b[k] := by
  have h := cp_take a.data.toList b.data.toList
  have e := congrArg (fun l => l[k]?) h
  simp only [List.getElem?_take, if_pos hk] at e
  have l1 : k < a.data.toList.length := by simpa using h1
  have l2 : k < b.data.toList.length := by simpa using h2
  rw [List.getElem?_eq_getElem l1, List.getElem?_eq_getElem l2] at e
  exact Option.some.inj e
theorem cp_end (a b : ByteArray) {n : Nat} (hn : cp a.data.toList b.data.toList = n) (h1 : n < a.size) (h2 : n < b.size) : a[n] ≠ b[n] := by
  subst hn
  have l1 : cp a.data.toList b.data.toList < a.data.toList.length := by simpa using h1
  have l2 : cp a.data.toList b.data.toList < b.data.toList.length := by simpa using h2
  have := cp_stop a.data.toList b.data.toList l1 l2
  rw [List.getElem?_eq_getElem l1, List.getElem?_eq_getElem l2] at this
  intro e
  exact this (congrArg some e)
set_option maxHeartbeats 1000000 in
theorem common_ok (a b : ByteArray) (w : World) (hb : b.size ≤ 9007199254740992) :
    Calls Tryz.prog 123 #[.string a, .string b] w fun e w' => e = .returned (.int .i64 (cp a.data.toList b.data.toList)) ∧ Upd [] w w' := by
  have hle := cp_le a.data.toList b.data.toList
  have hl1 : a.data.toList.length = a.size := by simp
  have hl2 : b.data.toList.length = b.size := by simp
  rw [hl1, hl2] at hle
  clear hl1 hl2
  have HN := Hd.mk (cp_next a b)
  obtain ⟨n, hn⟩ : ∃ n, cp a.data.toList b.data.toList = n := ⟨_, rfl⟩
  have HE := Hd.mk (cp_end a b hn)
  simp only [hn] at hle HN ⊢
  clear hn
  obtain ⟨hna, hnb⟩ := hle
  go_enter Tryz.func123, Tryz.ntmps123
  go_upto_region 2 with (fail)
  go_loopg [5] n (fun g kk wr => ∃ k : Nat, g + k = n ∧ kk = .int .i64 k ∧ Hd (Upd [] w wr))
  case atStart => exact ⟨0, by omega, rfl, Hd.mk (Upd.refl _ _)⟩
  case round =>
    obtain ⟨k, hg, rfl, HU⟩ := hrel
    have HG := Hd.mk hg
    clear hg
    by_cases hk : k < n
    · have h1 : k < a.size := by omega
      have h2 : k < b.size := by omega
      have d1 : decide (k < a.size) = true := decide_eq_true h1
      have d2 : decide (k < b.size) = true := decide_eq_true h2
      have d3 : ((a[k].toNat : Int) == (b[k].toNat : Int)) = true := by rw [u8_eq]; exact decide_eq_true (HN.out k hk h1 h2)
      go_upto_region 2 with (fail)
      refine wp_region_quiet_lit (by kernel_rfl) (by kernel_rfl) ?_
      repeat (go_big_quiet_step (fail))
      refine wpQuiet_nil ?_
      (intro _ hw'; obtain ⟨nq, hw''⟩ := hw'; subst hw'')
      go_wp2_with fail
      go_roundg (gk - 1)
      case measure => have := HG.out; omega
      case rel => exact ⟨k + 1, by have := HG.out; omega, by go_num, Hd.mk (HU.out.drewN _)⟩
    · have hkn : k = n := by have := HG.out; omega
      subst hkn
      clear hk
      by_cases h1 : k < a.size
      · have d1 : decide (k < a.size) = true := decide_eq_true h1
        by_cases h2 : k < b.size
        · have d2 : decide (k < b.size) = true := decide_eq_true h2
          have d3 : ((a[k].toNat : Int) == (b[k].toNat : Int)) = false := by rw [u8_eq]; exact decide_eq_false (HE.out h1 h2)
          go_upto_region 2 with (fail)
          refine wp_region_quiet_lit (by kernel_rfl) (by kernel_rfl) ?_
          repeat (go_big_quiet_step (fail))
          refine wpQuiet_nil ?_
          (intro _ hw'; obtain ⟨nq, hw''⟩ := hw'; subst hw'')
          go_wp2_with fail
          go_ret
          exact ⟨rfl, HU.out.drewN _⟩
        · have d2 : decide (k < b.size) = false := decide_eq_false h2
          go_upto_region 2 with (fail)
          refine wp_region_quiet_lit (by kernel_rfl) (by kernel_rfl) ?_
          repeat (go_big_quiet_step (fail))
          refine wpQuiet_nil ?_
          (intro _ hw'; obtain ⟨nq, hw''⟩ := hw'; subst hw'')
          go_wp2_with fail
          go_ret
          exact ⟨rfl, HU.out.drewN _⟩
      · have d1 : decide (k < a.size) = false := decide_eq_false h1
        go_upto_region 2 with (fail)
        refine wp_region_quiet_lit (by kernel_rfl) (by kernel_rfl) ?_
        repeat (go_big_quiet_step (fail))
        refine wpQuiet_nil ?_
        (intro _ hw'; obtain ⟨nq, hw''⟩ := hw'; subst hw'')
        go_wp2_with fail
        go_ret
        exact ⟨rfl, HU.out.drewN _⟩
end Go.Proofs.YtndlbkiogagnaaaGreatDoor
namespace Go.Proofs.YtndlbkiogagnaaaGreatDoor
set_option linter.unusedSimpArgs false
set_option linter.unusedVariables false
set_option linter.unnecessarySimpa false
open Go.RowKit BigFrame

theorem one_ptr {w : World} {X : Nat → Prop} {d : T} {p : Value} (hp : NdV w X d p) : p.oneCell' = true := by
  cases d with
  | nil => simp only [NdV] at hp; subst hp; rfl
  | node => simp only [NdV] at hp; obtain ⟨b, _, _, _, _, _, _, _, rfl, _⟩ := hp; rfl
theorem cells1_edge : ∀ (es : E) {w : World} {X : Nat → Prop} {cs : List Value}, EdV w X es cs → cs.all (·.oneCell') = true
  | .nil, _, _, _, h => by simp only [EdV] at h; subst h; rfl
  | .cons t d tl, w, X, cs, h => by
    simp only [EdV] at h
    obtain ⟨p, r, rfl, hp, hr⟩ := h
    simp only [List.all_cons, one_ptr hp, cells1_edge tl hr, Bool.and_true]
    rfl
set_option maxHeartbeats 1000000 in
theorem clone_ok (v : Value) (n : Nat) (cs : List Value) (w : World) (h : Sl w 201 2 v n cs) (h1 : cs.all (·.oneCell') = true) (hn : n ≤ 100000) :
    Calls Tryz.prog 170 #[v] w fun e w' => ∃ v', e = .returned v' ∧ Bld w w' 201 2 v' n cs := by
  rcases h.2 with ⟨rfl, rfl⟩ | ⟨g, o, cap, cur, rfl, hb, _⟩
  · have hcs : cs = [] := List.eq_nil_of_length_eq_zero (by simpa using h.1)
    subst hcs
    clear h h1
    have hnil := fun (W : World) => Lib.run_eql_slice_nil (P := Tryz.prog) W 162 201 none 0 0 0 0 Tryz.underlying162
    simp only [Option.isNone_none] at hnil
    go_enter Tryz.func170, Tryz.ntmps170
    go_wp2_with fail
    go_ret
    exact ⟨_, rfl, Bld.nil (Upd.refl _ _) _ _⟩
  · clear hb
    have HS := Hd.mk (And.intro h h1)
    clear h h1
    have hnil := fun (W : World) => Lib.run_eql_slice_nil (P := Tryz.prog) W 162 201 (some ⟨g, o, none⟩) n cap 0 0 Tryz.underlying162
    simp only [Option.isNone_some] at hnil
    have hE := (Blk.new w [] 201 _ rfl).sl 2 0 rfl (by unfold maxLen; omega)
    have hS := HS.out.1.alloc (.cells #[] 201)
    have HE := Hd.mk (And.intro hE hS)
    clear hE hS
    go_enter Tryz.func170, Tryz.ntmps170
    go_wp2_with (at_builtin; refine wpList_append_any rfl (.tmp 5) (.tmp 6) 162 rfl 201 (.agg #[.string ⟨#[]⟩, .pointer none]) 2 24 Tryz.underlying162 (by kernel_rfl) rfl _ 0 [] rfl HE.out.1 _ n cs rfl HE.out.2 HS.out.2 (by omega) (by omega) ?_)
    intro v' w' h3 hu ho
    have HR := Hd.mk (show Bld w w' 201 2 v' n cs from by
      have hb0 : Bld w (w.alloc (.cells #[] 201)) 201 2 (.slice (some ⟨w.heap.size, 0, none⟩) 0 0) 0 [] := ⟨HE.out.1, by simp [ownB], (Upd.refl [] w).alloc _⟩
      exact hb0.app h3 hu (fun k hk => by have := ho k hk; simpa using this))
    clear h3 hu ho
    go_wp2_with fail
    go_ret
    exact ⟨_, rfl, HR.out⟩
theorem nodup_le : ∀ (m : Nat) (l : List Nat), l.Nodup → (∀ x ∈ l, x < m) → l.length ≤ m
  | 0, l, _, h => by
    cases l with
    | nil => exact Nat.le_refl _
    | cons a r => have := h a (by simp); omega
  | m + 1, l, hn, h => by
    have := nodup_le m (l.erase m) (hn.erase _) (fun x hx => by
      have h1 := hn.mem_erase_iff.1 hx
      have := h x h1.2
      have := h1.1
      omega)
    by_cases hm : m ∈ l
    · rw [List.length_erase_of_mem hm] at this
      omega
    · rw [List.erase_of_not_mem hm] at this
      omega
def oN : Option UInt8 → Nat
  | some c => c.toNat
  | none => 256
theorem oN_inj {a b : Option UInt8} (h : oN a = oN b) : a = b := by
  cases a with
  | none => cases b with
    | none => rfl
    | some c => have := c.toNat_lt; simp only [oN] at h; omega
  | some d => cases b with
    | none => have := d.toNat_lt; simp only [oN] at h; omega
    | some c => simp only [oN] at h; rw [UInt8.toNat_inj.1 h]
theorem heads_nodup : ∀ {es : E}, OkE es → es.heads.Nodup
  | .nil, _ => List.nodup_nil
  | .cons t d tl, h => by
    simp only [OkE] at h
    exact List.nodup_cons.2 ⟨h.2.1, heads_nodup h.2.2.2⟩
theorem heads_len : ∀ (es : E), es.heads.length = es.len
  | .nil => rfl
  | .cons _ _ tl => by simp [E.heads, E.len, heads_len tl]
theorem OkE.len {es : E} (h : OkE es) : es.len ≤ 257 := by
  have := nodup_le 257 (es.heads.map oN) (by
    have := heads_nodup h
    unfold List.Nodup at *
    rw [List.pairwise_map]
    exact this.imp fun hne e => hne (oN_inj e)) (fun x hx => by
    obtain ⟨o, _, rfl⟩ := List.mem_map.1 hx
    cases o with
    | none => simp [oN]
    | some c => have := c.toNat_lt; simp only [oN]; omega)
  rwa [List.length_map, heads_len] at this
theorem NdV.form {w : World} {X : Nat → Prop} {d : T} {p : Value} (hp : NdV w X d p) : ∃ x, p = .pointer x := by
  cases d with
  | nil => simp only [NdV] at hp; exact ⟨_, hp⟩
  | node => simp only [NdV] at hp; obtain ⟨b, _, _, _, _, _, _, _, rfl, _⟩ := hp; exact ⟨_, rfl⟩
/-- Routes in a slice that is full. -/
def Ful (w : World) (X : Nat → Prop) (sv : Value) (en : List Rt) : Prop := ∃ a, sv = .slice a en.length en.length ∧ Sl w 90 3 sv en.length (en.flatMap Rt.cells) ∧ ∀ k, k ∈ ownB sv → ¬ X k
/-- A node like n, in a block b of its own, with edges of its own; what it leads to is as it was in w. -/
structure Cpy (w w' : World) (X : Nat → Prop) (b : Nat) (n : T) (ev nv pv rv sv : Value) (k : Nat) (cs : List Value) : Prop where
  blk : Blk w' b [ev, nv, pv, rv, sv] 164
  new : w.heap.size ≤ b
  es : Bld w w' 201 2 ev k cs
  ed : EdV w X n.es cs
  nx : NdV w X n.nx nv
  pa : NdV w X n.pa pv
  re : NdV w X n.re rv
  en : Ful w X sv n.en
/-- What copied leaves. -/
def CpyQ (w : World) (X : Nat → Prop) (n : T) (e : Ending) (w' : World) : Prop := ∃ b ev nv pv rv sv k cs, e = .returned (.pointer (some ⟨b, 0, none⟩)) ∧ Cpy w w' X b n ev nv pv rv sv k cs
/-- s[:n:n] -/
theorem run_full_sl {P : Program} (t e : TypeId) (size : Nat) (ht : P.underlying t = some (.slice e)) (hi : (P.info? e).map (·.size) = some size) (w : World) (v : Value) (n : Nat) (xs : List Value) (h : Sl w e size v n xs) :
    ∃ a, (∀ W, (Instr.slice t v none (some (.int .i64 n)) (some (.int .i64 n))).run P W = .ok (.slice a n n) W) ∧ Sl w e size (.slice a n n) n xs ∧ ∀ k, k ∈ ownB (.slice a n n) → k ∈ ownB v := by
  have hs : ∀ W, (sizeOf e).run P W = .ok size W := by
    intro W
    cases hq : P.info? e with
    | none => simp [hq] at hi
    | some i => have : i.size = size := by simpa [hq] using hi
                simp [sizeOf, typeInfo, hq, this]
  have hnm : n ≤ 9223372036854775807 := by
    rcases h.2 with ⟨_, rfl⟩ | ⟨_, _, _, _, _, _, h1, h2, _⟩
    · omega
    · unfold maxLen at h2; omega
  have hw : IntKind.i64.wrap (n : Int) = n := by rw [IntKind.wrap_i64]; omega
  rcases h.2 with ⟨rfl, rfl⟩ | ⟨g, o, cap, cur, rfl, hb, hnc, hcm, hfit, htake⟩
  · refine ⟨none, fun W => ?_, ⟨h.1, .inl ⟨rfl, rfl⟩⟩, by simp [ownB]⟩
    simp [Instr.slice, run_underlying ht, Instr.sliceBounds, Instr.sliceBound, asIntOf, hs]
  · have hle : n * size ≤ cap * size := Nat.mul_le_mul_right _ hnc
    refine ⟨some ⟨g, o, none⟩, fun W => ?_, ⟨h.1, .inr ⟨g, o, n, cur, rfl, hb, Nat.le_refl _, by omega, by omega, htake⟩⟩, by simp [ownB]⟩
    by_cases hc : n = 0
    · subst hc
      simp [Instr.slice, run_underlying ht, Instr.sliceBounds, Instr.sliceBound, asIntOf, hs, Addr.add_lit]
    · simp [Instr.slice, run_underlying ht, Instr.sliceBounds, Instr.sliceBound, asIntOf, hs, hnc, Addr.add_lit]
set_option maxHeartbeats 1000000 in
theorem copied_ok (X : Nat → Prop) (n : T) (v : Value) (w : World) (h : NdV w X n v) (hn : OkE n.es) : Calls Tryz.prog 152 #[v] w (CpyQ w X n) := by
  cases n with
  | nil =>
    simp only [NdV] at h
    subst h
    clear hn
    go_enter Tryz.func152, Tryz.ntmps152
    go_wp2_with fail
    go_ret
    refine ⟨w.heap.size, .slice none 0 0, .pointer none, .pointer none, .pointer none, .slice none 0 0, 0, [], rfl, ?_⟩
    have hu : Upd [] w (w.alloc (.cells #[.slice none 0 0, .pointer none, .pointer none, .pointer none, .slice none 0 0] 164)) := (Upd.refl _ _).alloc _
    exact ⟨Blk.new w [.slice none 0 0, .pointer none, .pointer none, .pointer none, .slice none 0 0] _ _ rfl, Nat.le_refl _, Bld.nil hu _ _, by simp [T.es, EdV], by simp [T.nx, NdV], by simp [T.pa, NdV], by simp [T.re, NdV], ⟨none, rfl, Sl.nil _ _ _, by simp [ownB]⟩⟩
  | node es nx pa re en =>
    simp only [NdV] at h
    obtain ⟨b, ev, nv, pv, rv, sv, k, cs, rfl, hb, hx1, h3, hx2, h4, h5, h6, h7, h8, hx3⟩ := h
    have hk : k ≤ 257 := by
      have h1 := h3.1
      have h2 := h4.length
      have := OkE.len hn
      simp only [T.es] at this
      omega
    obtain ⟨ea, ec, rfl⟩ := h3.form
    obtain ⟨sa, sc, rfl⟩ := h8.form
    obtain ⟨nv, rfl⟩ := h5.form
    obtain ⟨pv, rfl⟩ := h6.form
    obtain ⟨rv, rfl⟩ := h7.form
    have HH := Hd.mk (And.intro hb (And.intro h3 (And.intro h4 (And.intro h5 (And.intro h6 (And.intro h7 h8))))))
    have HO := Hd.mk hn
    have HX3 := Hd.mk hx3
    have c0 := hb.cell 0
    have c1 := hb.cell 1
    have c2 := hb.cell 2
    have c3 := hb.cell 3
    have c4 := hb.cell 4
    simp only [List.getElem?_cons_zero, List.getElem?_cons_succ] at c0 c1 c2 c3 c4
    have hblt := hb.lt
    clear hb hx1 h3 hx2 h4 h5 h6 h7 h8 hn hx3
    go_enter Tryz.func152, Tryz.ntmps152
    go_upto_region 4 with (fail)
    refine wp_abs (fun W => Blk W b [.slice ea k ec, .pointer nv, .pointer pv, .pointer rv, .slice sa en.length sc] 164 ∧ Blk W w.heap.size [.slice ea k ec, .pointer nv, .pointer pv, .pointer rv, .slice sa en.length sc] 164 ∧ Upd [] w W) ⟨HH.out.1.alloc _, Blk.new w [.slice ea k ec, .pointer nv, .pointer pv, .pointer rv, .slice sa en.length sc] _ _ rfl, (Upd.refl _ _).alloc _⟩ ?_
    clear c0 c1 c2 c3 c4
    have hbx : b ≠ w.heap.size := by omega
    have HX := Hd.mk (Nat.le_refl w.heap.size)
    generalize hxx : w.heap.size = x at hbx HX ⊢
    have HXX := Hd.mk hxx
    clear hxx hblt
    rintro w1 ⟨b1, b2, u1⟩
    have HB := Hd.mk (And.intro b1 (And.intro b2 u1))
    have c0 := b1.cell 0
    have c1 := b1.cell 1
    have c2 := b1.cell 2
    have c3 := b1.cell 3
    have c4 := b1.cell 4
    simp only [List.getElem?_cons_zero, List.getElem?_cons_succ] at c0 c1 c2 c3 c4
    clear b1 b2 u1
    go_wp2_with fail
    refine (clone_ok (.slice ea k ec) k cs w1 (HH.out.2.1.upd HB.out.2.2 (by simp)) (cells1_edge es (HH.out.2.2.1)) (by omega)).mono ?_
    rintro e w2 ⟨ev, rfl, hc⟩
    obtain ⟨xa, xc, rfl⟩ := hc.sl.form
    have HXL := Hd.mk (show x < w1.heap.size ∧ w.heap.size ≤ w1.heap.size from ⟨HB.out.2.1.lt, HB.out.2.2.size⟩)
    have HC := Hd.mk hc
    have hB2 := hc.upd.blk HB.out.2.1 (by simp)
    have hB1 := hc.upd.blk HB.out.1 (by simp)
    have f0 := hB2.cell 0
    have f1 := hB2.free 0
    simp only [List.getElem?_cons_zero] at f0
    have HBB := Hd.mk (And.intro (hB1.set_ne ⟨x, 0, none⟩ (.slice xa k xc) hbx) (hB2.set 0 (.slice xa k xc)))
    clear hc hB1 hB2 c0 c1 c2 c3 c4
    obtain ⟨sl, hsl, hful, hown⟩ := run_full_sl (P := Tryz.prog) 26 90 3 Tryz.underlying26 (by kernel_rfl) w _ en.length _ HH.out.2.2.2.2.2.2
    have HF := Hd.mk (And.intro hful hown)
    clear hful hown
    have HU2 := Hd.mk (show Upd [] w (w2.setCell ⟨x, 0, none⟩ (.slice xa k xc)) from (HB.out.2.2.trans HC.out.upd (by simp)).set _ _ (by have := HXX.out; simp; omega))
    have HU3 := Hd.mk (show Upd [x] w2 (w2.setCell ⟨x, 0, none⟩ (.slice xa k xc)) from (Upd.refl _ _).set _ _ (by simp))
    go_upto_region 5 with (fail)
    refine wp_abs (fun W => Blk W b [.slice ea k ec, .pointer nv, .pointer pv, .pointer rv, .slice sa en.length sc] 164 ∧ Blk W x [.slice xa k xc, .pointer nv, .pointer pv, .pointer rv, .slice sa en.length sc] 164 ∧ Upd [] w W ∧ Upd [x] w2 W) ⟨HBB.out.1, HBB.out.2, HU2.out, HU3.out⟩ ?_
    clear f0 f1 HBB HU2 HU3 HB
    rintro w3 ⟨b1, b2, u3, u4⟩
    have HB := Hd.mk (And.intro b1 (And.intro b2 (And.intro u3 u4)))
    have c4 := b1.cell 4
    have d4 := b2.cell 4
    have f4 := b2.free 4
    simp only [List.getElem?_cons_zero, List.getElem?_cons_succ] at c4 d4
    clear b1 b2 u3 u4
    refine wp_quiet_tail 16 (by kernel_rfl) (by kernel_rfl) ?_
    simp only [List.take_succ_cons, List.take_zero, List.drop_succ_cons, List.drop_zero]
    repeat (go_big_quiet_step (fail))
    refine wpQuiet_nil ?_
    (intro _ hw'; obtain ⟨nq, hw''⟩ := hw'; subst hw'')
    go_wp2_with fail
    go_ret
    refine ⟨x, .slice xa k xc, .pointer nv, .pointer pv, .pointer rv, .slice sl en.length en.length, k, cs, rfl, ?_⟩
    have hbl : Blk ((w3.drewN nq).setCell ⟨x, 4, none⟩ (.slice sl en.length en.length)) x [.slice xa k xc, .pointer nv, .pointer pv, .pointer rv, .slice sl en.length en.length] 164 := (HB.out.2.1.drewN nq).set 4 _
    have hu : Upd [] w ((w3.drewN nq).setCell ⟨x, 4, none⟩ (.slice sl en.length en.length)) := (HB.out.2.2.1.drewN nq).set _ _ (by have := HXX.out; simp; omega)
    have hu2 : Upd [x] w2 ((w3.drewN nq).setCell ⟨x, 4, none⟩ (.slice sl en.length en.length)) := (HB.out.2.2.2.drewN nq).set _ _ (by simp)
    have hne : ∀ q, q ∈ ownB (Value.slice xa k xc) → q ∉ [x] := fun q hq e => by
      rw [List.mem_singleton] at e
      have := HC.out.own q hq
      have := HXL.out.1
      omega
    refine ⟨hbl, by have := HXX.out; omega, ⟨HC.out.sl.upd hu2 hne, fun q hq => by have := HC.out.own q hq; have := HXL.out.2; omega, hu⟩, ?_, ?_, ?_, ?_, ?_⟩
    · exact HH.out.2.2.1
    · exact HH.out.2.2.2.1
    · exact HH.out.2.2.2.2.1
    · exact HH.out.2.2.2.2.2.1
    · exact ⟨sl, rfl, HF.out.1, fun k hk => HX3.out k (HF.out.2 k hk)⟩
end Go.Proofs.YtndlbkiogagnaaaGreatDoor
namespace Go.Proofs.YtndlbkiogagnaaaGreatDoor
set_option linter.unusedSimpArgs false
set_option linter.unusedVariables false
set_option linter.unnecessarySimpa false
open Go.RowKit BigFrame

/-- Behind i edges that begin unlike s, tl is left. -/
def Sk (s : Bs) : Nat → E → E → Prop
  | 0, es, tl => es = tl
  | i + 1, .cons t _ r, tl => cp t s = 0 ∧ Sk s i r tl
  | _ + 1, .nil, _ => False
theorem Sk.succ {s : Bs} : ∀ {i : Nat} {es : E} {t : Bs} {d : T} {tl : E}, Sk s i es (.cons t d tl) → cp t s = 0 → Sk s (i + 1) es tl
  | 0, es, t, d, tl, h, h0 => by simp only [Sk] at h; subst h; exact ⟨h0, rfl⟩
  | i + 1, .nil, _, _, _, h, _ => h.elim
  | i + 1, .cons t' d' r, t, d, tl, h, h0 => ⟨h.1, Sk.succ h.2 h0⟩
theorem Sk.len {s : Bs} : ∀ {i : Nat} {es tl : E}, Sk s i es tl → es.len = i + tl.len
  | 0, es, tl, h => by simp only [Sk] at h; subst h; omega
  | i + 1, .nil, _, h => h.elim
  | i + 1, .cons t' d' r, tl, h => by simp only [E.len]; rw [Sk.len h.2]; omega
theorem Sk.ok {s : Bs} : ∀ {i : Nat} {es tl : E}, Sk s i es tl → OkE es → OkE tl
  | 0, es, tl, h, ho => by simp only [Sk] at h; subst h; exact ho
  | i + 1, .nil, _, h, _ => h.elim
  | i + 1, .cons t' d' r, tl, h, ho => by simp only [OkE] at ho; exact Sk.ok h.2 ho.2.2.2
theorem Sk.at {s : Bs} {w : World} {X : Nat → Prop} : ∀ {i : Nat} {es : E} {t : Bs} {d : T} {tl : E} {cs : List Value}, Sk s i es (.cons t d tl) → EdV w X es cs → cs[i * 2]? = some (S t) ∧ ∃ p, cs[i * 2 + 1]? = some p ∧ NdV w X d p
  | 0, es, t, d, tl, cs, h, he => by
    simp only [Sk] at h
    subst h
    simp only [EdV] at he
    obtain ⟨p, r, rfl, hp, _⟩ := he
    exact ⟨rfl, p, rfl, hp⟩
  | i + 1, .nil, _, _, _, _, h, _ => h.elim
  | i + 1, .cons t' d' r, t, d, tl, cs, h, he => by
    simp only [EdV] at he
    obtain ⟨p, q, rfl, _, hr⟩ := he
    have := Sk.at h.2 hr
    rw [show (i + 1) * 2 = i * 2 + 1 + 1 by omega]
    simpa using this
theorem Sk.step {s : Bs} (hs : s ≠ []) : ∀ {i : Nat} {es tl : E}, Sk s i es tl → OkE es → stepE es s = stepE tl s
  | 0, es, tl, h, _ => by simp only [Sk] at h; subst h; rfl
  | i + 1, .nil, _, h, _ => h.elim
  | i + 1, .cons t' d' r, tl, h, ho => by
    simp only [OkE] at ho
    rw [stepE, if_neg, Sk.step hs h.2 ho.2.2.2]
    rw [h.1]
    intro e
    exact ho.1 (List.eq_nil_of_length_eq_zero e.symm)
/-- The i-th edge is another one. -/
def E.rep : E → Nat → Bs → T → E
  | .nil, _, _, _ => .nil
  | .cons _ _ r, 0, t, d => .cons t d r
  | .cons t' d' r, i + 1, t, d => .cons t' d' (r.rep i t d)
def E.snoc : E → Bs → T → E
  | .nil, t, d => .cons t d .nil
  | .cons t' d' r, t, d => .cons t' d' (r.snoc t d)
theorem EdV.rep {s : Bs} {w : World} {X : Nat → Prop} : ∀ {i : Nat} {es : E} {t : Bs} {d : T} {tl : E} {cs : List Value} {t' : Bs} {d' : T} {p' : Value}, Sk s i es (.cons t d tl) → EdV w X es cs → NdV w X d' p' → EdV w X (es.rep i t' d') ((cs.set (i * 2) (S t')).set (i * 2 + 1) p')
  | 0, es, t, d, tl, cs, t', d', p', h, he, hp' => by
    simp only [Sk] at h
    subst h
    simp only [EdV] at he
    obtain ⟨p, r, rfl, _, hr⟩ := he
    simp only [E.rep, EdV]
    exact ⟨p', r, rfl, hp', hr⟩
  | i + 1, .nil, _, _, _, _, _, _, _, h, _, _ => h.elim
  | i + 1, .cons t1 d1 r, t, d, tl, cs, t', d', p', h, he, hp' => by
    simp only [EdV] at he
    obtain ⟨p, q, rfl, hp, hr⟩ := he
    have := EdV.rep (t' := t') h.2 hr hp'
    simp only [E.rep, EdV]
    refine ⟨p, _, ?_, hp, this⟩
    rw [show (i + 1) * 2 = i * 2 + 1 + 1 by omega]
    simp
theorem set_same {α : Type} {l : List α} {j : Nat} {x : α} (h : l[j]? = some x) : l.set j x = l := by
  apply List.ext_getElem?
  intro i
  rw [List.getElem?_set]
  split
  · rename_i e
    subst e
    rw [h]
    have := (List.getElem?_eq_some_iff.1 h).1
    rw [if_pos this]
  · rfl
theorem EdV.rep1 {s : Bs} {w : World} {X : Nat → Prop} {i : Nat} {es : E} {t : Bs} {d : T} {tl : E} {cs : List Value} {d' : T} {p' : Value} (h : Sk s i es (.cons t d tl)) (he : EdV w X es cs) (hp : NdV w X d' p') : EdV w X (es.rep i t d') (cs.set (i * 2 + 1) p') := by
  have h1 := EdV.rep (t' := t) h he hp
  have h2 := (Sk.at h he).1
  rw [set_same h2] at h1
  exact h1
theorem EdV.snoc {w : World} {X : Nat → Prop} : ∀ {es : E} {cs : List Value} {t : Bs} {d : T} {p : Value}, EdV w X es cs → NdV w X d p → EdV w X (es.snoc t d) (cs ++ [S t, p])
  | .nil, cs, t, d, p, he, hp => by
    simp only [EdV] at he
    subst he
    simp only [E.snoc, EdV]
    exact ⟨p, [], rfl, hp, rfl⟩
  | .cons t' d' r, cs, t, d, p, he, hp => by
    simp only [EdV] at he
    obtain ⟨q, x, rfl, hq, hr⟩ := he
    simp only [E.snoc, EdV]
    exact ⟨q, _, rfl, hq, EdV.snoc hr hp⟩
theorem word_rep {s : Bs} {f : T → T} : ∀ {i : Nat} {es : E} {t : Bs} {d : T} {tl : E}, Sk s i es (.cons t d tl) → cp t s ≠ 0 →
    wordE es s f = if cp t s = t.length then es.rep i t (wordT d (s.drop (cp t s)) f) else es.rep i (t.take (cp t s)) (midT (t.drop (cp t s)) d (s.drop (cp t s)) f)
  | 0, es, t, d, tl, h, h0 => by
    simp only [Sk] at h
    subst h
    rw [wordE, if_neg h0]
    by_cases h1 : cp t s = t.length
    · rw [if_pos h1, if_pos h1, h1]; rfl
    · rw [if_neg h1, if_neg h1]; rfl
  | i + 1, .nil, _, _, _, h, _ => h.elim
  | i + 1, .cons t1 d1 r, t, d, tl, h, h0 => by
    rw [wordE, if_pos h.1, word_rep h.2 h0]
    by_cases h1 : cp t s = t.length
    · rw [if_pos h1, if_pos h1]; rfl
    · rw [if_neg h1, if_neg h1]; rfl
theorem word_end {s : Bs} {f : T → T} : ∀ {i : Nat} {es : E}, Sk s i es .nil → wordE es s f = es.snoc s (fresh (f .nil))
  | 0, es, h => by
    simp only [Sk] at h
    subst h
    rw [wordE]
    rfl
  | i + 1, .nil, h => h.elim
  | i + 1, .cons t1 d1 r, h => by
    rw [wordE, if_pos h.1, word_end h.2]
    rfl
/-- What parts an edge, by word. -/
def midN (t : Bs) (d : T) : T := .node (.cons t d .nil) .nil .nil .nil []
theorem word_mid (t : Bs) (d : T) (s : Bs) (f : T → T) (h : cp t s = 0) : wordT (midN t d) s f = midT t d s f := by
  unfold midN midT
  rw [wordT]
  split
  · rfl
  · rw [wordE, if_pos h, wordE]
theorem word_fresh (f : T → T) : wordT .nil [] f = fresh (f .nil) := by rw [wordT, if_pos rfl]
end Go.Proofs.YtndlbkiogagnaaaGreatDoor
namespace Go.Proofs.YtndlbkiogagnaaaGreatDoor
set_option linter.unusedSimpArgs false
set_option linter.unusedVariables false
set_option linter.unnecessarySimpa false
open Go.RowKit BigFrame

/-- A call of a Go function that makes its answer anew, as one step of a region that draws. -/
theorem step_func_ex {P : Program} {ops : Array Oper} {o : Oper} {a : Act} {w : World} {K : Act → World → Prop} {Q : Exit → Act → World → Prop} {E : Prop} (hgd : o.guard = none) (f : FuncId) (xs : Array Operand) (ts : Array TypeId)
    (ho : o.op = .call { callee := .value (.func f), args := xs, argTypes := ts }) (vals : Array Value) (hv : xs.map a.eval = vals) (hcf : (callFunc f (#[] ++ vals ++ #[])).run P w = .ok (.enter f vals) w) (h : Calls P f vals w fun e w' => ∃ v, e = .returned v ∧ K (a.put o.dst v) w') :
    if Region.wanted o (yielded ops a.tmps) = true then Oper.wp P o a w K Q else E := by
  have hw : Region.wanted o (yielded ops a.tmps) = true := by simp [Region.wanted, hgd]
  rw [if_pos hw]
  subst hv
  have key : (execOp a.eval o).run P w = .ok (.enter f (xs.map a.eval)) w := by
    rw [← hcf]
    cases o
    simp only at ho
    subst ho
    rfl
  unfold Oper.wp
  rw [key]
  exact h.mono fun e w' h' => by obtain ⟨v, rfl, h2⟩ := h'; exact h2
/-- No shape has more than N routes. -/
def Bd (N : Nat) (n : T) : Prop := ∀ pat, Nm pat → (den n pat).length ≤ N
theorem Bd.nil (N : Nat) : Bd N .nil := fun pat _ => by rw [den_nil]; exact Nat.zero_le _
/-- What a maker of nodes leaves. -/
def NdQ (w : World) (X : Nat → Prop) (n : T) (e : Ending) (w' : World) : Prop := ∃ v', e = .returned v' ∧ NdV w' X n v' ∧ Upd [] w w'
/-- A function value that makes f of a node. -/
structure Then (w : World) (g : Nat) (caps : Array Value) (N : Nat) (f : T → T) : Prop where
  ent : ∀ (args : Array Value) (W : World), (callFunc g args).run Tryz.prog W = .ok (.enter g args) W
  run : ∀ W X m v, Upd [] w W → (∀ k, X k → k < W.heap.size) → NdV W X m v → Ok m → Bd N m → Calls Tryz.prog g (#[v] ++ caps) W (NdQ W X (f m))
theorem Then.up {w w' : World} {g : Nat} {caps : Array Value} {N : Nat} {f : T → T} (h : Then w g caps N f) (hu : Upd [] w w') : Then w' g caps N f :=
  ⟨h.ent, fun W X m v hW => h.run W X m v (hu.trans hW (by simp))⟩
theorem S_nil : S [] = .string ⟨#[]⟩ := rfl
theorem Cpy.forms {w w' : World} {X : Nat → Prop} {b : Nat} {n : T} {ev nv pv rv sv : Value} {k : Nat} {cs : List Value} (h : Cpy w w' X b n ev nv pv rv sv k cs) : ∃ ea ec np pp rp sa sc, ev = .slice ea k ec ∧ nv = .pointer np ∧ pv = .pointer pp ∧ rv = .pointer rp ∧ sv = .slice sa sc sc := by
  obtain ⟨ea, ec, h1⟩ := h.es.sl.form
  obtain ⟨np, h2⟩ := h.nx.form
  obtain ⟨pp, h3⟩ := h.pa.form
  obtain ⟨rp, h4⟩ := h.re.form
  obtain ⟨sa, h5, _⟩ := h.en
  exact ⟨ea, ec, np, pp, rp, sa, _, h1, h2, h3, h4, h5⟩
/-- A node of its parts. -/
theorem NdV.mk {w : World} {X : Nat → Prop} {es : E} {nx pa re : T} {en : List Rt} {b : Nat} {ev nv pv rv sv : Value} {n : Nat} {cs : List Value} (h2 : Blk w b [ev, nv, pv, rv, sv] 164) (hx : ¬ X b) (h3 : Sl w 201 2 ev n cs) (hx2 : ∀ k, k ∈ ownB ev → ¬ X k) (h4 : EdV w X es cs) (h5 : NdV w X nx nv) (h6 : NdV w X pa pv) (h7 : NdV w X re rv) (h8 : Sl w 90 3 sv en.length (en.flatMap Rt.cells)) (hx3 : ∀ k, k ∈ ownB sv → ¬ X k) :
    NdV w X (.node es nx pa re en) (.pointer (some ⟨b, 0, none⟩)) := by
  simp only [NdV]
  exact ⟨b, ev, nv, pv, rv, sv, n, cs, rfl, h2, hx, h3, hx2, h4, h5, h6, h7, h8, hx3⟩
theorem Ful.sl {w : World} {X : Nat → Prop} {sv : Value} {en : List Rt} (h : Ful w X sv en) : Sl w 90 3 sv en.length (en.flatMap Rt.cells) := by
  obtain ⟨_, _, h, _⟩ := h; exact h
theorem Ful.av {w : World} {X : Nat → Prop} {sv : Value} {en : List Rt} (h : Ful w X sv en) : ∀ k, k ∈ ownB sv → ¬ X k := by
  obtain ⟨_, _, _, h⟩ := h; exact h
theorem word_empty (n : T) (f : T → T) : wordT n [] f = .node n.es (f n.nx) n.pa n.re n.en := by
  cases n with
  | nil => rw [wordT, if_pos rfl]; rfl
  | node => rw [wordT, if_pos rfl]; rfl
theorem step_empty (n : T) : step n [] = n.nx := by
  cases n with
  | nil => rw [step]; rfl
  | node => rw [step, if_pos rfl]; rfl
/-- A copied node whose next is another one. -/
theorem Cpy.next {w w1 w2 : World} {X : Nat → Prop} {x : Nat} {n m : T} {ev nv pv rv sv p : Value} {k : Nat} {cs : List Value} (h : Cpy w w1 X x n ev nv pv rv sv k cs) (hX : ∀ k, X k → k < w.heap.size) (hu : Upd [] w1 w2) (hp : NdV w2 (fun k => X k ∨ k = x) m p) :
    NdV (w2.setCell ⟨x, 1, none⟩ p) X (.node n.es m n.pa n.re n.en) (.pointer (some ⟨x, 0, none⟩)) ∧ Upd [] w (w2.setCell ⟨x, 1, none⟩ p) := by
  have b2 := hu.blk h.blk (by simp)
  have u0 : Upd [] w w2 := h.es.upd.trans hu (by simp)
  have u1 : Upd [] w (w2.setCell ⟨x, 1, none⟩ p) := u0.set _ _ (by have := h.new; simp; omega)
  have u2 : Upd [x] w2 (w2.setCell ⟨x, 1, none⟩ p) := (Upd.refl _ _).set _ _ (by simp)
  have hn := h.new
  refine ⟨NdV.mk (b2.set 1 p) (fun e => by have := hX x e; omega) ((h.es.sl.upd hu (by simp)).upd u2 (fun q hq e => by
      rw [List.mem_singleton] at e
      subst e
      exact (h.es.sl.upd hu (by simp)).other (t := 164) (by decide) _ hq _ b2)) (fun q hq e => by have := h.es.own q hq; have := hX q e; omega) (h.ed.upd u1) (hp.move u2 (by simp) (fun q hq => .inl (.inl hq))) (h.pa.upd u1) (h.re.upd u1) (h.en.sl.upd u1 (by simp)) h.en.av, u1⟩
/-- A store into a slice of whatever elements. -/
theorem Sl.setj {w : World} {e : TypeId} {sz n cap g o : Nat} {xs : List Value} (h : Sl w e sz (.slice (Option.some ⟨g, o, none⟩) n cap) n xs) (j : Nat) (hj : j < n * sz) (x : Value) : Sl (w.setCell ⟨g, o + j, none⟩ x) e sz (.slice (Option.some ⟨g, o, none⟩) n cap) n (xs.set j x) := by
  refine ⟨by rw [List.length_set]; exact h.1, ?_⟩
  rcases h.2 with ⟨h2, _⟩ | ⟨g', o', cap', cur, h2, hb, h3, h4, hl, hx⟩
  · cases h2
  · simp only [Value.slice.injEq, Option.some.injEq, Addr.mk.injEq] at h2
    obtain ⟨⟨rfl, rfl, _⟩, _, rfl⟩ := h2
    refine .inr ⟨g, o, cap, _, rfl, hb.set _ _, h3, h4, by simpa using hl, ?_⟩
    have hle : n * sz ≤ cap * sz := Nat.mul_le_mul_right _ h3
    rw [← hx]
    apply List.ext_getElem?
    intro i
    rw [List.getElem?_take, List.getElem?_set, List.getElem?_take, List.getElem?_drop, List.getElem?_drop, List.getElem?_set, List.length_take, List.length_drop]
    by_cases hi : i < n * sz
    · simp only [hi, if_true]
      by_cases e : j = i
      · subst e
        have h5 : o + j < cur.length := by omega
        simp [h5]
        omega
      · have h7 : ¬ (o + j = o + i) := by omega
        simp [e, h7]
    · have : ¬ j = i := by omega
      simp [hi, this]
/-- The blocks that a copy's edges are in are its own. -/
theorem Cpy.eb {w w' : World} {X : Nat → Prop} {b : Nat} {n : T} {eb eo ec : Nat} {nv pv rv sv : Value} {k : Nat} {cs : List Value} (h : Cpy w w' X b n (.slice (some ⟨eb, eo, none⟩) k ec) nv pv rv sv k cs) : w.heap.size ≤ eb ∧ eb < w'.heap.size ∧ b ≠ eb :=
  ⟨h.es.own eb (by simp [ownB]), h.es.sl.lt eb (by simp [ownB]), fun e => h.es.sl.other (t := 164) (by decide) eb (by simp [ownB]) _ (e ▸ h.blk)⟩
/-- An edge of a copy leads elsewhere. -/
theorem Cpy.edge1 {w w1 w2 : World} {X : Nat → Prop} {x : Nat} {n : T} {eb eo ec : Nat} {nv pv rv sv p' : Value} {k : Nat} {cs : List Value} (h : Cpy w w1 X x n (.slice (some ⟨eb, eo, none⟩) k ec) nv pv rv sv k cs) (hX : ∀ k, X k → k < w.heap.size) (hu : Upd [] w1 w2)
    {s : Bs} {i : Nat} {t : Bs} {d d' : T} {tl : E} (hs : Sk s i n.es (.cons t d tl)) (hp : NdV w2 (fun k => X k ∨ k = eb) d' p') :
    NdV (w2.setCell ⟨eb, eo + (i * 2 + 1), none⟩ p') X (.node (n.es.rep i t d') n.nx n.pa n.re n.en) (.pointer (some ⟨x, 0, none⟩)) ∧ Upd [] w (w2.setCell ⟨eb, eo + (i * 2 + 1), none⟩ p') := by
  obtain ⟨g1, g2, g3⟩ := h.eb
  have b2 := hu.blk h.blk (by simp)
  have u0 : Upd [] w w2 := h.es.upd.trans hu (by simp)
  have u1 : Upd [] w (w2.setCell ⟨eb, eo + (i * 2 + 1), none⟩ p') := u0.set _ _ (by simp; omega)
  have u2 : Upd [eb] w2 (w2.setCell ⟨eb, eo + (i * 2 + 1), none⟩ p') := (Upd.refl _ _).set _ _ (by simp)
  have hn := h.new
  have hlen := hs.len
  have hl2 := h.ed.length
  have hl3 := h.es.sl.1
  simp only [E.len] at hlen
  refine ⟨NdV.mk (b2.set_ne _ _ g3) (fun e => by have := hX x e; omega) ((h.es.sl.upd hu (by simp)).setj (i * 2 + 1) (by omega) p') (fun q hq e => by have := h.es.own q hq; have := hX q e; omega)
    (EdV.rep1 hs (h.ed.upd u1) (hp.move u2 (by simp) (fun q hq => .inl (.inl hq)))) (h.nx.upd u1) (h.pa.upd u1) (h.re.upd u1) (h.en.sl.upd u1 (by simp)) h.en.av, u1⟩
/-- An edge of a copy is another one. -/
theorem Cpy.edge2 {w w1 w2 : World} {X : Nat → Prop} {x : Nat} {n : T} {eb eo ec : Nat} {nv pv rv sv p' : Value} {k : Nat} {cs : List Value} (h : Cpy w w1 X x n (.slice (some ⟨eb, eo, none⟩) k ec) nv pv rv sv k cs) (hX : ∀ k, X k → k < w.heap.size) (hu : Upd [] w1 w2)
    {s : Bs} {i : Nat} {t : Bs} {d d' : T} {tl : E} (hs : Sk s i n.es (.cons t d tl)) (t' : Bs) (hp : NdV w2 (fun k => X k ∨ k = eb) d' p') :
    NdV ((w2.setCell ⟨eb, eo + i * 2, none⟩ (S t')).setCell ⟨eb, eo + (i * 2 + 1), none⟩ p') X (.node (n.es.rep i t' d') n.nx n.pa n.re n.en) (.pointer (some ⟨x, 0, none⟩)) ∧ Upd [] w ((w2.setCell ⟨eb, eo + i * 2, none⟩ (S t')).setCell ⟨eb, eo + (i * 2 + 1), none⟩ p') := by
  obtain ⟨g1, g2, g3⟩ := h.eb
  have b2 := hu.blk h.blk (by simp)
  have u0 : Upd [] w w2 := h.es.upd.trans hu (by simp)
  have u1 : Upd [] w ((w2.setCell ⟨eb, eo + i * 2, none⟩ (S t')).setCell ⟨eb, eo + (i * 2 + 1), none⟩ p') := (u0.set _ _ (by simp; omega)).set _ _ (by simp; omega)
  have u2 : Upd [eb] w2 ((w2.setCell ⟨eb, eo + i * 2, none⟩ (S t')).setCell ⟨eb, eo + (i * 2 + 1), none⟩ p') := ((Upd.refl _ _).set _ _ (by simp)).set _ _ (by simp)
  have hn := h.new
  have hlen := hs.len
  have hl2 := h.ed.length
  have hl3 := h.es.sl.1
  simp only [E.len] at hlen
  refine ⟨NdV.mk ((b2.set_ne _ _ g3).set_ne _ _ g3) (fun e => by have := hX x e; omega) (((h.es.sl.upd hu (by simp)).setj (i * 2) (by omega) (S t')).setj (i * 2 + 1) (by omega) p') (fun q hq e => by have := h.es.own q hq; have := hX q e; omega)
    (EdV.rep hs (h.ed.upd u1) (hp.move u2 (by simp) (fun q hq => .inl (.inl hq)))) (h.nx.upd u1) (h.pa.upd u1) (h.re.upd u1) (h.en.sl.upd u1 (by simp)) h.en.av, u1⟩
/-- A copy has an edge more. -/
theorem Cpy.more {w w1 w2 w3 : World} {X : Nat → Prop} {x : Nat} {n : T} {ev ev' nv pv rv sv p' : Value} {k : Nat} {cs : List Value} (h : Cpy w w1 X x n ev nv pv rv sv k cs) (hX : ∀ k, X k → k < w.heap.size) (hu : Upd [] w1 w2)
    {t' : Bs} {d' : T} (hp : NdV w2 (fun k => X k ∨ k = x ∨ k ∈ ownB ev) d' p') (hs : Sl w3 201 2 ev' (k + 1) (cs ++ [S t', p'])) (hu3 : Upd (ownB ev) w2 w3) (ho : ∀ k, k ∈ ownB ev' → k ∈ ownB ev ∨ w2.heap.size ≤ k) :
    NdV (w3.setCell ⟨x, 0, none⟩ ev') X (.node (n.es.snoc t' d') n.nx n.pa n.re n.en) (.pointer (some ⟨x, 0, none⟩)) ∧ Upd [] w (w3.setCell ⟨x, 0, none⟩ ev') := by
  have hn := h.new
  have hne : x ∉ ownB ev := fun e => h.es.sl.other (t := 164) (by decide) x e _ h.blk
  have b3 := hu3.blk (hu.blk h.blk (by simp)) hne
  have u0 : Upd [] w w3 := (h.es.upd.trans hu (by simp)).trans hu3 (fun q hq e => by have := h.es.own q e; omega)
  have u1 : Upd [] w (w3.setCell ⟨x, 0, none⟩ ev') := u0.set _ _ (by simp; omega)
  have u2 : Upd (x :: ownB ev) w2 (w3.setCell ⟨x, 0, none⟩ ev') := (hu3.mono (fun k _ hk => List.mem_cons_of_mem _ hk)).set _ _ (by simp)
  have u3 : Upd [x] w3 (w3.setCell ⟨x, 0, none⟩ ev') := (Upd.refl _ _).set _ _ (by simp)
  refine ⟨NdV.mk (b3.set 0 ev') (fun e => by have := hX x e; omega) (hs.upd u3 (fun q hq e => ?_)) (fun q hq e => ?_) (EdV.snoc (h.ed.upd u1) (hp.move u2 (fun q hq => ?_) (fun q hq => .inl (.inl hq)))) (h.nx.upd u1) (h.pa.upd u1) (h.re.upd u1) (h.en.sl.upd u1 (by simp)) h.en.av, u1⟩
  · rw [List.mem_singleton] at e
    subst e
    exact hs.other (t := 164) (by decide) _ hq _ b3
  · have h1 := hX q e
    have h2 := h.es.upd.size
    have h3 := hu.size
    rcases ho q hq with h4 | h4
    · have := h.es.own q h4; omega
    · omega
  · rcases List.mem_cons.1 hq with hq | hq
    · exact .inr (.inl hq)
    · exact .inr (.inr hq)
theorem word_more {n : T} {s : Bs} {f : T → T} (hs : s ≠ []) : wordT n s f = .node (wordE n.es s f) n.nx n.pa n.re n.en := by
  cases n with
  | nil => rw [wordT, if_neg hs]; simp only [T.es, wordE]; rfl
  | node => rw [wordT, if_neg hs]; rfl
theorem Cpy.word1 {w w1 w2 : World} {X : Nat → Prop} {x : Nat} {n : T} {eb eo ec : Nat} {nv pv rv sv p' : Value} {k : Nat} {cs : List Value} (h : Cpy w w1 X x n (.slice (some ⟨eb, eo, none⟩) k ec) nv pv rv sv k cs) (hX : ∀ k, X k → k < w.heap.size) (hu : Upd [] w1 w2)
    {s : Bs} {i c : Nat} {t : Bs} {d : T} {tl : E} {f : T → T} (hs : Sk s i n.es (.cons t d tl)) (hne : s ≠ []) (hc : cp t s = c) (h0 : c ≠ 0) (h1 : c = t.length) (hp : NdV w2 (fun k => X k ∨ k = eb) (wordT d (s.drop c) f) p') :
    NdV (w2.setCell ⟨eb, eo + i * 2 + 1, none⟩ p') X (wordT n s f) (.pointer (some ⟨x, 0, none⟩)) ∧ Upd [] w (w2.setCell ⟨eb, eo + i * 2 + 1, none⟩ p') := by
  have := h.edge1 hX hu hs hp
  rw [← Nat.add_assoc] at this
  rw [word_more hne, word_rep hs (by rw [hc]; exact h0), if_pos (by rw [hc]; exact h1), hc]
  exact this
theorem Cpy.word2 {w w1 w2 : World} {X : Nat → Prop} {x : Nat} {n : T} {eb eo ec : Nat} {nv pv rv sv p' : Value} {k : Nat} {cs : List Value} (h : Cpy w w1 X x n (.slice (some ⟨eb, eo, none⟩) k ec) nv pv rv sv k cs) (hX : ∀ k, X k → k < w.heap.size) (hu : Upd [] w1 w2)
    {s : Bs} {i c : Nat} {t : Bs} {d : T} {tl : E} {f : T → T} (hs : Sk s i n.es (.cons t d tl)) (hne : s ≠ []) (hc : cp t s = c) (h0 : c ≠ 0) (h1 : c ≠ t.length) (hp : NdV w2 (fun k => X k ∨ k = eb) (midT (t.drop c) d (s.drop c) f) p') (tv : Value) (htv : tv = S (t.take c)) :
    NdV ((w2.setCell ⟨eb, eo + i * 2, none⟩ tv).setCell ⟨eb, eo + i * 2 + 1, none⟩ p') X (wordT n s f) (.pointer (some ⟨x, 0, none⟩)) ∧ Upd [] w ((w2.setCell ⟨eb, eo + i * 2, none⟩ tv).setCell ⟨eb, eo + i * 2 + 1, none⟩ p') := by
  subst htv
  have := h.edge2 hX hu hs (t.take c) hp
  rw [← Nat.add_assoc] at this
  rw [word_more hne, word_rep hs (by rw [hc]; exact h0), if_neg (by rw [hc]; exact h1), hc]
  exact this
theorem Cpy.word3 {w w1 w2 w3 : World} {X : Nat → Prop} {x : Nat} {n : T} {ev ev' nv pv rv sv p' : Value} {k : Nat} {cs : List Value} (h : Cpy w w1 X x n ev nv pv rv sv k cs) (hX : ∀ k, X k → k < w.heap.size) (hu : Upd [] w1 w2)
    {s : Bs} {i : Nat} {f : T → T} (hsk : Sk s i n.es .nil) (hne : s ≠ []) (hp : NdV w2 (fun k => X k ∨ k = x ∨ k ∈ ownB ev) (fresh (f .nil)) p') (sv' : Value) (hsv : sv' = S s) (hs : Sl w3 201 2 ev' (k + 1) (cs ++ [sv', p'])) (hu3 : Upd (ownB ev) w2 w3) (ho : ∀ k, k ∈ ownB ev' → k ∈ ownB ev ∨ w2.heap.size ≤ k) :
    NdV (w3.setCell ⟨x, 0, none⟩ ev') X (wordT n s f) (.pointer (some ⟨x, 0, none⟩)) ∧ Upd [] w (w3.setCell ⟨x, 0, none⟩ ev') := by
  subst hsv
  rw [word_more hne, word_end hsk]
  exact h.more hX hu hp hs hu3 ho
theorem mid_ok {t : Bs} {d : T} (ht : t ≠ []) (hd : Ok d ∧ d ≠ .nil) : Ok (midN t d) := by
  unfold midN
  refine Ok.mk ?_ Ok.nil Ok.nil Ok.nil
  simp only [OkE, E.heads]
  exact ⟨ht, by simp, hd, trivial⟩
theorem step_midN {t s : Bs} {d : T} (ht : t ≠ []) (h : cp t s = 0) : step (midN t d) s = .nil := by
  unfold midN
  rw [step]
  split
  · rfl
  · rw [stepE, if_neg, stepE]
    rw [h]
    intro e
    exact ht (List.eq_nil_of_length_eq_zero e.symm)
theorem word_mid' (t s : Bs) (d : T) (f : T → T) : wordT (midN (t.drop (cp t s)) d) (s.drop (cp t s)) f = midT (t.drop (cp t s)) d (s.drop (cp t s)) f := word_mid _ _ _ _ (cp_drop t s)
theorem step_es {n : T} {s : Bs} (hs : s ≠ []) : step n s = stepE n.es s := by
  cases n with
  | nil => rw [step, T.es, stepE]
  | node => rw [step, if_neg hs]; rfl
theorem step_edge {n : T} {s : Bs} {i c : Nat} {t : Bs} {d : T} {tl : E} (h : Sk s i n.es (.cons t d tl)) (hs : s ≠ []) (ho : Ok n) (hc : cp t s = c) (h1 : c = t.length) : step n s = step d (s.drop c) := by
  rw [step_es hs, Sk.step hs h ho.parts.1, stepE, if_pos (hc.trans h1), h1]
/-- A node that parts an edge, in memory. -/
theorem NdV.mid {w : World} {X : Nat → Prop} {t : Bs} {d : T} {b eb : Nat} {tv p : Value} (hb : Blk w b [.slice (some ⟨eb, 0, none⟩) 1 1, .pointer none, .pointer none, .pointer none, .slice none 0 0] 164) (he : Blk w eb [tv, p] 201) (htv : tv = S t) (hx : ¬ X b) (hx2 : ¬ X eb) (hd : NdV w X d p) : NdV w X (midN t d) (.pointer (some ⟨b, 0, none⟩)) := by
  subst htv
  unfold midN
  refine NdV.mk hb hx (he.sl 2 1 rfl (by unfold maxLen; omega)) (by simp [ownB]; exact hx2) ?_ (by simp [NdV]) (by simp [NdV]) (by simp [NdV]) (Sl.nil _ _ _) (by simp [ownB])
  simp only [EdV]
  exact ⟨p, [], rfl, hd, rfl⟩
end Go.Proofs.YtndlbkiogagnaaaGreatDoor
