/- Tries: a node like another one. -/
import Derived.Test.YtiombjmkaejjfaaDoorV2
namespace Go.Proofs.YtiombjmkaejjfaaDoor
set_option linter.unusedSimpArgs false
set_option linter.unusedVariables false
set_option linter.unnecessarySimpa false
open Go.RowKit BigFrame

theorem one_ptr {w : World} {X : Nat → Prop} {d : T} {p : Value} (hp : NdV w X d p) : p.oneCell' = true := by
  cases d with
  | nil => simp only [NdV] at hp; subst hp; rfl
  | node => simp only [NdV] at hp; obtain ⟨b, _, _, _, _, _, _, _, rfl, _⟩ := hp; rfl
theorem cells1_edge : ∀ (es : E) {w : World} {X : Nat → Prop} {cs : List Value}, EdV w X es cs → cs.all (·.oneCell') = true
  | .nil, _, _, _, h => by simp only [EdV] at h; subst h; rfl
  | .cons t d tl, w, X, cs, h => by
    simp only [EdV] at h
    obtain ⟨p, r, rfl, hp, hr⟩ := h
    simp only [List.all_cons, one_ptr hp, cells1_edge tl hr, Bool.and_true]
    rfl
set_option maxHeartbeats 1000000 in
theorem clone_ok (v : Value) (n : Nat) (cs : List Value) (w : World) (h : Sl w 91 2 v n cs) (h1 : cs.all (·.oneCell') = true) (hn : n ≤ 100000) :
    Calls Tryd.prog 45 #[v] w fun e w' => ∃ v', e = .returned v' ∧ Bld w w' 91 2 v' n cs := by
  rcases h.2 with ⟨rfl, rfl⟩ | ⟨g, o, cap, cur, rfl, hb, _⟩
  · have hcs : cs = [] := List.eq_nil_of_length_eq_zero (by simpa using h.1)
    subst hcs
    clear h h1
    have hnil := fun (W : World) => Lib.run_eql_slice_nil (P := Tryd.prog) W 74 91 none 0 0 0 0 Tryd.underlying74
    simp only [Option.isNone_none] at hnil
    go_enter Tryd.func45, Tryd.ntmps45
    go_wp2_with fail
    go_ret
    exact ⟨_, rfl, Bld.nil (Upd.refl _ _) _ _⟩
  · clear hb
    have HS := Hd.mk (And.intro h h1)
    clear h h1
    have hnil := fun (W : World) => Lib.run_eql_slice_nil (P := Tryd.prog) W 74 91 (some ⟨g, o, none⟩) n cap 0 0 Tryd.underlying74
    simp only [Option.isNone_some] at hnil
    have hE := (Blk.new w [] 91 _ rfl).sl 2 0 rfl (by unfold maxLen; omega)
    have hS := HS.out.1.alloc (.cells #[] 91)
    have HE := Hd.mk (And.intro hE hS)
    clear hE hS
    go_enter Tryd.func45, Tryd.ntmps45
    go_wp2_with (at_builtin; refine wpList_append_any rfl (.tmp 5) (.tmp 6) 74 rfl 91 (.agg #[.string ⟨#[]⟩, .pointer none]) 2 24 Tryd.underlying74 (by kernel_rfl) rfl _ 0 [] rfl HE.out.1 _ n cs rfl HE.out.2 HS.out.2 (by omega) (by omega) ?_)
    intro v' w' h3 hu ho
    have HR := Hd.mk (show Bld w w' 91 2 v' n cs from by
      have hb0 : Bld w (w.alloc (.cells #[] 91)) 91 2 (.slice (some ⟨w.heap.size, 0, none⟩) 0 0) 0 [] := ⟨HE.out.1, by simp [ownB], (Upd.refl [] w).alloc _⟩
      exact hb0.app h3 hu (fun k hk => by have := ho k hk; simpa using this))
    clear h3 hu ho
    go_wp2_with fail
    go_ret
    exact ⟨_, rfl, HR.out⟩
theorem nodup_le : ∀ (m : Nat) (l : List Nat), l.Nodup → (∀ x ∈ l, x < m) → l.length ≤ m
  | 0, l, _, h => by
    cases l with
    | nil => exact Nat.le_refl _
    | cons a r => have := h a (by simp); omega
  | m + 1, l, hn, h => by
    have := nodup_le m (l.erase m) (hn.erase _) (fun x hx => by
      have h1 := hn.mem_erase_iff.1 hx
      have := h x h1.2
      have := h1.1
      omega)
    by_cases hm : m ∈ l
    · rw [List.length_erase_of_mem hm] at this
      omega
    · rw [List.erase_of_not_mem hm] at this
      omega
def oN : Option UInt8 → Nat
  | some c => c.toNat
  | none => 256
theorem oN_inj {a b : Option UInt8} (h : oN a = oN b) : a = b := by
  cases a with
  | none => cases b with
    | none => rfl
    | some c => have := c.toNat_lt; simp only [oN] at h; omega
  | some d => cases b with
    | none => have := d.toNat_lt; simp only [oN] at h; omega
    | some c => simp only [oN] at h; rw [UInt8.toNat_inj.1 h]
theorem heads_nodup : ∀ {es : E}, OkE es → es.heads.Nodup
  | .nil, _ => List.nodup_nil
  | .cons t d tl, h => by
    simp only [OkE] at h
    exact List.nodup_cons.2 ⟨h.2.1, heads_nodup h.2.2.2⟩
theorem heads_len : ∀ (es : E), es.heads.length = es.len
  | .nil => rfl
  | .cons _ _ tl => by simp [E.heads, E.len, heads_len tl]
theorem OkE.len {es : E} (h : OkE es) : es.len ≤ 257 := by
  have := nodup_le 257 (es.heads.map oN) (by
    have := heads_nodup h
    unfold List.Nodup at *
    rw [List.pairwise_map]
    exact this.imp fun hne e => hne (oN_inj e)) (fun x hx => by
    obtain ⟨o, _, rfl⟩ := List.mem_map.1 hx
    cases o with
    | none => simp [oN]
    | some c => have := c.toNat_lt; simp only [oN]; omega)
  rwa [List.length_map, heads_len] at this
theorem NdV.form {w : World} {X : Nat → Prop} {d : T} {p : Value} (hp : NdV w X d p) : ∃ x, p = .pointer x := by
  cases d with
  | nil => simp only [NdV] at hp; exact ⟨_, hp⟩
  | node => simp only [NdV] at hp; obtain ⟨b, _, _, _, _, _, _, _, rfl, _⟩ := hp; exact ⟨_, rfl⟩
/-- Routes in a slice that is full. -/
def Ful (w : World) (X : Nat → Prop) (sv : Value) (en : List Rt) : Prop := ∃ a, sv = .slice a en.length en.length ∧ Sl w 26 3 sv en.length (en.flatMap Rt.cells) ∧ ∀ k, k ∈ ownB sv → ¬ X k
/-- A node like n, in a block b of its own, with edges of its own; what it leads to is as it was in w. -/
structure Cpy (w w' : World) (X : Nat → Prop) (b : Nat) (n : T) (ev nv pv rv sv : Value) (k : Nat) (cs : List Value) : Prop where
  blk : Blk w' b [ev, nv, pv, rv, sv] 76
  new : w.heap.size ≤ b
  es : Bld w w' 91 2 ev k cs
  ed : EdV w X n.es cs
  nx : NdV w X n.nx nv
  pa : NdV w X n.pa pv
  re : NdV w X n.re rv
  en : Ful w X sv n.en
/-- What copied leaves. -/
def CpyQ (w : World) (X : Nat → Prop) (n : T) (e : Ending) (w' : World) : Prop := ∃ b ev nv pv rv sv k cs, e = .returned (.pointer (some ⟨b, 0, none⟩)) ∧ Cpy w w' X b n ev nv pv rv sv k cs
/-- s[:n:n] -/
theorem run_full_sl {P : Program} (t e : TypeId) (size : Nat) (ht : P.underlying t = some (.slice e)) (hi : (P.info? e).map (·.size) = some size) (w : World) (v : Value) (n : Nat) (xs : List Value) (h : Sl w e size v n xs) :
    ∃ a, (∀ W, (Instr.slice t v none (some (.int .i64 n)) (some (.int .i64 n))).run P W = .ok (.slice a n n) W) ∧ Sl w e size (.slice a n n) n xs ∧ ∀ k, k ∈ ownB (.slice a n n) → k ∈ ownB v := by
  have hs : ∀ W, (sizeOf e).run P W = .ok size W := by
    intro W
    cases hq : P.info? e with
    | none => simp [hq] at hi
    | some i => have : i.size = size := by simpa [hq] using hi
                simp [sizeOf, typeInfo, hq, this]
  have hnm : n ≤ 9223372036854775807 := by
    rcases h.2 with ⟨_, rfl⟩ | ⟨_, _, _, _, _, _, h1, h2, _⟩
    · omega
    · unfold maxLen at h2; omega
  have hw : IntKind.i64.wrap (n : Int) = n := by rw [IntKind.wrap_i64]; omega
  rcases h.2 with ⟨rfl, rfl⟩ | ⟨g, o, cap, cur, rfl, hb, hnc, hcm, hfit, htake⟩
  · refine ⟨none, fun W => ?_, ⟨h.1, .inl ⟨rfl, rfl⟩⟩, by simp [ownB]⟩
    simp [Instr.slice, run_underlying ht, Instr.sliceBounds, Instr.sliceBound, asIntOf, hs]
  · have hle : n * size ≤ cap * size := Nat.mul_le_mul_right _ hnc
    refine ⟨some ⟨g, o, none⟩, fun W => ?_, ⟨h.1, .inr ⟨g, o, n, cur, rfl, hb, Nat.le_refl _, by omega, by omega, htake⟩⟩, by simp [ownB]⟩
    by_cases hc : n = 0
    · subst hc
      simp [Instr.slice, run_underlying ht, Instr.sliceBounds, Instr.sliceBound, asIntOf, hs, Addr.add_lit]
    · simp [Instr.slice, run_underlying ht, Instr.sliceBounds, Instr.sliceBound, asIntOf, hs, hnc, Addr.add_lit]
set_option maxHeartbeats 1000000 in
theorem copied_ok (X : Nat → Prop) (n : T) (v : Value) (w : World) (h : NdV w X n v) (hn : OkE n.es) : Calls Tryd.prog 35 #[v] w (CpyQ w X n) := by
  cases n with
  | nil =>
    simp only [NdV] at h
    subst h
    clear hn
    go_enter Tryd.func35, Tryd.ntmps35
    go_wp2_with fail
    go_ret
    refine ⟨w.heap.size, .slice none 0 0, .pointer none, .pointer none, .pointer none, .slice none 0 0, 0, [], rfl, ?_⟩
    have hu : Upd [] w (w.alloc (.cells #[.slice none 0 0, .pointer none, .pointer none, .pointer none, .slice none 0 0] 76)) := (Upd.refl _ _).alloc _
    exact ⟨Blk.new w [.slice none 0 0, .pointer none, .pointer none, .pointer none, .slice none 0 0] _ _ rfl, Nat.le_refl _, Bld.nil hu _ _, by simp [T.es, EdV], by simp [T.nx, NdV], by simp [T.pa, NdV], by simp [T.re, NdV], ⟨none, rfl, Sl.nil _ _ _, by simp [ownB]⟩⟩
  | node es nx pa re en =>
    simp only [NdV] at h
    obtain ⟨b, ev, nv, pv, rv, sv, k, cs, rfl, hb, hx1, h3, hx2, h4, h5, h6, h7, h8, hx3⟩ := h
    have hk : k ≤ 257 := by
      have h1 := h3.1
      have h2 := h4.length
      have := OkE.len hn
      simp only [T.es] at this
      omega
    obtain ⟨ea, ec, rfl⟩ := h3.form
    obtain ⟨sa, sc, rfl⟩ := h8.form
    obtain ⟨nv, rfl⟩ := h5.form
    obtain ⟨pv, rfl⟩ := h6.form
    obtain ⟨rv, rfl⟩ := h7.form
    have HH := Hd.mk (And.intro hb (And.intro h3 (And.intro h4 (And.intro h5 (And.intro h6 (And.intro h7 h8))))))
    have HO := Hd.mk hn
    have HX3 := Hd.mk hx3
    have c0 := hb.cell 0
    have c1 := hb.cell 1
    have c2 := hb.cell 2
    have c3 := hb.cell 3
    have c4 := hb.cell 4
    simp only [List.getElem?_cons_zero, List.getElem?_cons_succ] at c0 c1 c2 c3 c4
    have hblt := hb.lt
    clear hb hx1 h3 hx2 h4 h5 h6 h7 h8 hn hx3
    go_enter Tryd.func35, Tryd.ntmps35
    go_upto_region 4 with (fail)
    refine wp_abs (fun W => Blk W b [.slice ea k ec, .pointer nv, .pointer pv, .pointer rv, .slice sa en.length sc] 76 ∧ Blk W w.heap.size [.slice ea k ec, .pointer nv, .pointer pv, .pointer rv, .slice sa en.length sc] 76 ∧ Upd [] w W) ⟨HH.out.1.alloc _, Blk.new w [.slice ea k ec, .pointer nv, .pointer pv, .pointer rv, .slice sa en.length sc] _ _ rfl, (Upd.refl _ _).alloc _⟩ ?_
    clear c0 c1 c2 c3 c4
    have hbx : b ≠ w.heap.size := by omega
    have HX := Hd.mk (Nat.le_refl w.heap.size)
    generalize hxx : w.heap.size = x at hbx HX ⊢
    have HXX := Hd.mk hxx
    clear hxx hblt
    rintro w1 ⟨b1, b2, u1⟩
    have HB := Hd.mk (And.intro b1 (And.intro b2 u1))
    have c0 := b1.cell 0
    have c1 := b1.cell 1
    have c2 := b1.cell 2
    have c3 := b1.cell 3
    have c4 := b1.cell 4
    simp only [List.getElem?_cons_zero, List.getElem?_cons_succ] at c0 c1 c2 c3 c4
    clear b1 b2 u1
    go_wp2_with fail
    refine (clone_ok (.slice ea k ec) k cs w1 (HH.out.2.1.upd HB.out.2.2 (by simp)) (cells1_edge es (HH.out.2.2.1)) (by omega)).mono ?_
    rintro e w2 ⟨ev, rfl, hc⟩
    obtain ⟨xa, xc, rfl⟩ := hc.sl.form
    have HXL := Hd.mk (show x < w1.heap.size ∧ w.heap.size ≤ w1.heap.size from ⟨HB.out.2.1.lt, HB.out.2.2.size⟩)
    have HC := Hd.mk hc
    have hB2 := hc.upd.blk HB.out.2.1 (by simp)
    have hB1 := hc.upd.blk HB.out.1 (by simp)
    have f0 := hB2.cell 0
    have f1 := hB2.free 0
    simp only [List.getElem?_cons_zero] at f0
    have HBB := Hd.mk (And.intro (hB1.set_ne ⟨x, 0, none⟩ (.slice xa k xc) hbx) (hB2.set 0 (.slice xa k xc)))
    clear hc hB1 hB2 c0 c1 c2 c3 c4
    obtain ⟨sl, hsl, hful, hown⟩ := run_full_sl (P := Tryd.prog) 24 26 3 Tryd.underlying24 (by kernel_rfl) w _ en.length _ HH.out.2.2.2.2.2.2
    have HF := Hd.mk (And.intro hful hown)
    clear hful hown
    have HU2 := Hd.mk (show Upd [] w (w2.setCell ⟨x, 0, none⟩ (.slice xa k xc)) from (HB.out.2.2.trans HC.out.upd (by simp)).set _ _ (by have := HXX.out; simp; omega))
    have HU3 := Hd.mk (show Upd [x] w2 (w2.setCell ⟨x, 0, none⟩ (.slice xa k xc)) from (Upd.refl _ _).set _ _ (by simp))
    go_upto_region 5 with (fail)
    refine wp_abs (fun W => Blk W b [.slice ea k ec, .pointer nv, .pointer pv, .pointer rv, .slice sa en.length sc] 76 ∧ Blk W x [.slice xa k xc, .pointer nv, .pointer pv, .pointer rv, .slice sa en.length sc] 76 ∧ Upd [] w W ∧ Upd [x] w2 W) ⟨HBB.out.1, HBB.out.2, HU2.out, HU3.out⟩ ?_
    clear f0 f1 HBB HU2 HU3 HB
    rintro w3 ⟨b1, b2, u3, u4⟩
    have HB := Hd.mk (And.intro b1 (And.intro b2 (And.intro u3 u4)))
    have c4 := b1.cell 4
    have d4 := b2.cell 4
    have f4 := b2.free 4
    simp only [List.getElem?_cons_zero, List.getElem?_cons_succ] at c4 d4
    clear b1 b2 u3 u4
    refine wp_quiet_tail 16 (by kernel_rfl) (by kernel_rfl) ?_
    simp only [List.take_succ_cons, List.take_zero, List.drop_succ_cons, List.drop_zero]
    repeat (go_big_quiet_step (fail))
    refine wpQuiet_nil ?_
    (intro _ hw'; obtain ⟨nq, hw''⟩ := hw'; subst hw'')
    go_wp2_with fail
    go_ret
    refine ⟨x, .slice xa k xc, .pointer nv, .pointer pv, .pointer rv, .slice sl en.length en.length, k, cs, rfl, ?_⟩
    have hbl : Blk ((w3.drewN nq).setCell ⟨x, 4, none⟩ (.slice sl en.length en.length)) x [.slice xa k xc, .pointer nv, .pointer pv, .pointer rv, .slice sl en.length en.length] 76 := (HB.out.2.1.drewN nq).set 4 _
    have hu : Upd [] w ((w3.drewN nq).setCell ⟨x, 4, none⟩ (.slice sl en.length en.length)) := (HB.out.2.2.1.drewN nq).set _ _ (by have := HXX.out; simp; omega)
    have hu2 : Upd [x] w2 ((w3.drewN nq).setCell ⟨x, 4, none⟩ (.slice sl en.length en.length)) := (HB.out.2.2.2.drewN nq).set _ _ (by simp)
    have hne : ∀ q, q ∈ ownB (Value.slice xa k xc) → q ∉ [x] := fun q hq e => by
      rw [List.mem_singleton] at e
      have := HC.out.own q hq
      have := HXL.out.1
      omega
    refine ⟨hbl, by have := HXX.out; omega, ⟨HC.out.sl.upd hu2 hne, fun q hq => by have := HC.out.own q hq; have := HXL.out.2; omega, hu⟩, ?_, ?_, ?_, ?_, ?_⟩
    · exact HH.out.2.2.1
    · exact HH.out.2.2.2.1
    · exact HH.out.2.2.2.2.1
    · exact HH.out.2.2.2.2.2.1
    · exact ⟨sl, rfl, HF.out.1, fun k hk => HX3.out k (HF.out.2 k hk)⟩
end Go.Proofs.YtiombjmkaejjfaaDoor
