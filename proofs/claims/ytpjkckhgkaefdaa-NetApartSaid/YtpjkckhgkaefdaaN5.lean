/- Accept and dial. -/
import Derived.Test.YtpjkckhgkaefdaaN4
import Derived.Deep.DeepCutAuto
import Derived.Deep.RegionLaw
namespace Go.Proofs.Ytpjkckhgkaefdaa
set_option linter.unusedSimpArgs false
set_option linter.unusedVariables false
set_option linter.unnecessarySimpa false
open Go.RowKit BigFrame

/-- append to a slice anywhere, as one step of a region that draws. -/
theorem step_append_sl {P : Program} {ops : Array Oper} {o : Oper} {a : Act} {w : World} {K : Act → World → Prop} {Q : Exit → Act → World → Prop} {E : Prop} (hgd : o.guard = none) (s x : Operand) (t : TypeId)
    (ho : o.op = .call { callee := .builtin .append, args := #[s, x], argTypes := #[t, t] })
    (e : TypeId) (z : Value) (size bytes : Nat) (ht : P.underlying t = some (.slice e)) (hi : (P.info? e).map (fun i => (i.zero, i.size, i.bytes)) = some (some z, size, bytes)) (hzs : z.cells.size = size)
    (v : Value) (n : Nat) (xs : List Value) (hs : a.eval s = v) (hown : Sl w e size v n xs)
    (ad : Addr) (m c : Nat) (news : List Value) (hx : a.eval x = .slice (some ad) m c) (hl : news.length = m * size) (hnews : ∀ j u, news[j]? = some u → w.cell? (ad.add j) = some u) (h1 : news.all (·.oneCell') = true)
    (hm : 0 < m) (h63 : n + m ≤ maxLen) (hbytes : (n + m) * bytes ≤ 140737488355328)
    (h : ∀ g off cap w', Sl w' e size (.slice (some ⟨g, off, none⟩) (n + m) cap) (n + m) (xs ++ news) → Upd (ownB v) w w' → (g ∈ ownB v ∨ w.heap.size ≤ g) → g < w'.heap.size → K (a.put o.dst (.slice (some ⟨g, off, none⟩) (n + m) cap)) w') :
    if Region.wanted o (yielded ops a.tmps) = true then Oper.wp P o a w K Q else E := by
  have hw : Region.wanted o (yielded ops a.tmps) = true := by simp [Region.wanted, hgd]
  rw [if_pos hw]
  exact wp_append_sl s x t ho e z size bytes ht hi hzs v n xs hs hown ad m c news hx hl hnews h1 hm h63 hbytes h

theorem Stepd.after {w W w' : World} {p n : Nat} {M : Nat → Cn} {D : List Nat} {F F' : List Nat} (h : Stepd W w' p n M D F') (hu : Upd F w W) (hF : ∀ k, k ∈ F' → k ∈ F ∨ w.heap.size ≤ k) : Stepd w w' p n M D F := by
  obtain ⟨F2, h1, h2, h3⟩ := h
  refine ⟨F2, h1, hu.trans h2 (fun k hk e => ?_), fun k hk => ?_⟩
  · rcases hF k e with h | h
    · exact h
    · omega
  · have := hu.size
    rcases h3 k hk with h | h
    · exact hF k h
    · exact .inr (by omega)

set_option maxHeartbeats 1000000 in
theorem accept_none (p n : Nat) (M : Nat → Cn) (F : List Nat) (w : World) (h : NetAt w p n M [] F) :
    Calls Try.prog 10 #[.pointer (some ⟨p, 0, none⟩)] w fun e w' => e = .returned (.tuple #[.int .i64 0, .bool false]) ∧ Stepd w w' p n M [] F := by
  obtain ⟨sc, sd, bs, vs, h, rfl⟩ := h
  obtain ⟨ad, cd, rfl⟩ := h.dials.form
  have h1 := h.head
  simp only [List.length_nil] at h1 h
  have c0 := h1.cell 0
  have c1 := h1.cell 1
  simp only [List.getElem?_cons_zero, List.getElem?_cons_succ] at c0 c1
  clear h1
  go_enter Try.func10, Try.ntmps10
  go_wp2_with fail
  go_ret2
  exact ⟨rfl, h.stay (Upd.refl [] _)⟩

def takeTo (M : Nat → Cn) (d : Nat) (x : Cn) : Nat → Cn := upM M d { x with taken := true }

set_option maxHeartbeats 1000000 in
theorem accept_one (p n d : Nat) (M : Nat → Cn) (D : List Nat) (F : List Nat) (w : World) (h : NetAt w p n M (d :: D) F) (hl : D.length ≤ 1000000) :
    Calls Try.prog 10 #[.pointer (some ⟨p, 0, none⟩)] w fun e w' => e = .returned (.tuple #[.int .i64 d, .bool true]) ∧ Stepd w w' p n (takeTo M d (M d)) D F := by
  obtain ⟨sc, sd, bs, vs, h, rfl⟩ := h
  have hd := h.few d (by simp)
  have h1 := h.head
  have hb := h.blk d hd
  obtain ⟨v', hrun, sl', hob⟩ := run_from_sl (P := Try.prog) 25 3 1 Try.underlying25 (by kernel_rfl) w _ _ _ h.dials 1 (by simp) (by simp; omega)
  obtain ⟨g, o, cap, rfl, h2, h3, h4⟩ := h.dials.some (by simp)
  have hc := h4 0 (by simp)
  obtain ⟨g2, o2, cap2, rfl, h5, h6, h7⟩ := h.conns.some (by omega)
  have hcd := h7 d (by omega)
  simp only [List.getElem?_map, List.getElem?_range hd, Option.map_some] at hcd
  simp only [List.map_cons, List.getElem?_cons_zero, Nat.add_zero] at hc
  simp only [List.length_cons, List.map_cons, List.drop_succ_cons, List.drop_zero, Nat.one_mul, Nat.add_sub_cancel] at sl' h1
  obtain ⟨a2, k2, rfl⟩ := sl'.form
  have hrun : ∀ W, (Instr.slice 25 (.slice (some ⟨g, o, none⟩) (D.length + 1) cap) (some (.int .i64 1)) none none).run Try.prog W = .ok (.slice a2 D.length k2) W := hrun
  have hh := h1
  have c0 := h1.cell 0
  have c1 := h1.cell 1
  simp only [List.getElem?_cons_zero, List.getElem?_cons_succ] at c0 c1
  have fr1 := h1.free 1
  have hn0 : ¬ (D.length + 1 : Nat) = 0 := by omega
  have ST := Hd.mk (And.intro h (And.intro sl' (And.intro hob hh)))
  clear h1 h sl' hob h4 h7 hh hb
  have hd0 : decide ((d : Int) < n) = true := decide_eq_true (by omega)
  go_enter Try.func10, Try.ntmps10
  go_upto_region 5 with (fail)
  obtain ⟨h, sl', hob, hh⟩ := ST.out
  have hu : Upd [p] w (w.setCell ⟨p, 1, none⟩ (.slice a2 D.length k2)) := (Upd.refl [p] w).set _ _ (by simp)
  have ot : ∀ {e : TypeId} {sz m : Nat} {v : Value} {xs : List Value}, Sl w e sz v m xs → 27 ≠ e → Sl (w.setCell ⟨p, 1, none⟩ (.slice a2 D.length k2)) e sz v m xs := fun hs ht => hs.upd hu (fun k hk e => by simp at e; subst e; exact hs.other ht _ hk _ hh)
  have bt : ∀ {b : Nat} {cs : List Value} {t : TypeId}, Blk w b cs t → 27 ≠ t → Blk (w.setCell ⟨p, 1, none⟩ (.slice a2 D.length k2)) b cs t := fun hs ht => hu.blk hs (fun e => by simp at e; subst e; exact ht (hh.uniq hs).2)
  have hn : IsN (w.setCell ⟨p, 1, none⟩ (.slice a2 D.length k2)) p n M D (.slice (some ⟨g2, o2, none⟩) n cap2) (.slice a2 D.length k2) bs vs :=
    ⟨hh.set 1 _, ot h.conns (by decide), ot sl' (by decide), fun i hi => bt (h.blk i hi) (by decide), fun i hi => ot (h.inn i hi) (by decide), h.inj, h.apart, fun d hd => h.few d (by simp [hd])⟩
  refine wp_abs (fun W => IsN W p n M D (.slice (some ⟨g2, o2, none⟩) n cap2) (.slice a2 D.length k2) bs vs ∧ Upd [p] w W) ⟨hn, hu⟩ ?_
  clear hn hu ot bt hc c0 c1 fr1 hcd hrun
  rintro W ⟨hn, hu⟩
  have hb := hn.blk d hd
  have fr4 := hb.free 4
  have hcb := hb
  have m0 := hcb.cell 0
  have m1 := hcb.cell 1
  have m2 := hcb.cell 2
  have m3 := hcb.cell 3
  have m4 := hcb.cell 4
  have m5 := hcb.cell 5
  have m6 := hcb.cell 6
  simp only [Cn.cells, List.getElem?_cons_zero, List.getElem?_cons_succ] at m0 m1 m2 m3 m4 m5 m6
  clear hcb
  have hcd := hn.conns.cell d (by omega)
  simp only [List.getElem?_map, List.getElem?_range hd, Option.map_some] at hcd
  have c0 := hn.head.cell 0
  simp only [List.getElem?_cons_zero] at c0
  have HN := Hd.mk hn
  clear hn hb h sl' hob hh
  go_wp2_with fail
  go_ret2
  obtain ⟨h, sl', hob, hh⟩ := ST.out
  refine ⟨rfl, (HN.out.cell d hd { M d with taken := true } 4 (.bool true) rfl rfl).after (hu.mono (by intro k _ e; simp at e; subst e; simp [foot])) (fun k hk => .inl ?_)⟩
  rw [foot_in] at hk ⊢
  rw [hob] at hk
  exact hk

theorem Sl.sep {w : World} {e e' : TypeId} {sz n sz' n' : Nat} {v v' : Value} {xs xs' : List Value} (h : Sl w e sz v n xs) (h' : Sl w e' sz' v' n' xs') (hne : e ≠ e') : ∀ k, k ∈ ownB v → k ∉ ownB v' := by
  intro k hk hk'
  rcases h.2 with ⟨rfl, _⟩ | ⟨g, o, cap, cur, rfl, hg, _⟩
  · simp [ownB] at hk
  · simp [ownB] at hk; subst hk; exact h'.other hne _ hk' _ hg

theorem IsN.grow {w w4 : World} {p n : Nat} {M : Nat → Cn} {D : List Nat} {sc sd : Value} {bs : Nat → Nat} {vs : Nat → Value} (h : IsN w p n M D sc sd bs vs) (uh : Upd (ownB sc) w w4) (nb : Blk w4 w.heap.size (Cn.new.cells (.slice none 0 0)) 53)
    (g4 o4 k4 : Nat) (s4 : Sl w4 51 1 (.slice (some ⟨g4, o4, none⟩) (n + 1) k4) (n + 1) (((List.range n).map fun i => .pointer (some ⟨bs i, 0, none⟩)) ++ [.pointer (some ⟨w.heap.size, 0, none⟩)])) (hg4 : g4 ∈ ownB sc ∨ w.heap.size ≤ g4) :
    IsN (w4.setCell ⟨p, 0, none⟩ (.slice (some ⟨g4, o4, none⟩) (n + 1) k4)) p (n + 1) (upM M n Cn.new) D (.slice (some ⟨g4, o4, none⟩) (n + 1) k4) sd (upM bs n w.heap.size) (upM vs n (.slice none 0 0)) ∧
    Upd (foot p n sc sd bs vs) w (w4.setCell ⟨p, 0, none⟩ (.slice (some ⟨g4, o4, none⟩) (n + 1) k4)) ∧
    ∀ k, k ∈ foot p (n + 1) (.slice (some ⟨g4, o4, none⟩) (n + 1) k4) sd (upM bs n w.heap.size) (upM vs n (.slice none 0 0)) → k ∈ foot p n sc sd bs vs ∨ w.heap.size ≤ k := by
  have hh4 := uh.blk h.head (fun e => h.conns.other (by decide) _ e _ h.head)
  have hlt := h.head.lt
  have hu4 : Upd [p] w4 (w4.setCell ⟨p, 0, none⟩ (.slice (some ⟨g4, o4, none⟩) (n + 1) k4)) := (Upd.refl [p] w4).set _ _ (by simp)
  have hu : Upd (p :: ownB sc) w (w4.setCell ⟨p, 0, none⟩ (.slice (some ⟨g4, o4, none⟩) (n + 1) k4)) := (uh.mono (T := p :: ownB sc) (by intro k _ e; simp [e])).set _ _ (by simp)
  have bi : ∀ i, i < n → upM bs n w.heap.size i = bs i := fun i hi => upM_ne _ _ _ (by omega)
  have vi : ∀ i, i < n → upM vs n (.slice none 0 0) i = vs i := fun i hi => upM_ne _ _ _ (by omega)
  have mi : ∀ i, i < n → upM M n Cn.new i = M i := fun i hi => upM_ne _ _ _ (by omega)
  refine ⟨⟨(hh4.set 0 _), ?_, ?_, ?_, ?_, ?_, ?_, fun d hd => by have := h.few d hd; omega⟩, hu.mono ?_, ?_⟩
  · have : (List.range (n + 1)).map (fun i => Value.pointer (some ⟨upM bs n w.heap.size i, 0, none⟩)) = ((List.range n).map fun i => .pointer (some ⟨bs i, 0, none⟩)) ++ [.pointer (some ⟨w.heap.size, 0, none⟩)] := by
      rw [List.range_succ, List.map_append]
      congr 1
      · exact List.map_congr_left fun i hi => by rw [bi i (by simpa using hi)]
      · simp [upM]
    rw [this]
    exact s4.upd hu4 (fun k hk e => by simp at e; subst e; exact s4.other (by decide) _ hk _ hh4)
  · exact h.dials.upd hu (fun k hk e => by
      simp only [List.mem_cons] at e
      rcases e with rfl | e
      · exact h.dials.other (by decide) _ hk _ h.head
      · exact h.dials.sep h.conns (by decide) k hk e)
  · intro i hi
    by_cases e : i = n
    · subst e
      rw [upM_self, upM_self, upM_self]
      exact hu4.blk nb (by simp; omega)
    · rw [bi i (by omega), vi i (by omega), mi i (by omega)]
      refine hu.blk (h.blk i (by omega)) (fun e2 => ?_)
      simp only [List.mem_cons] at e2
      rcases e2 with e2 | e2
      · have := (h.head.uniq (e2 ▸ h.blk i (by omega))).2; revert this; decide
      · exact h.conns.other (by decide) _ e2 _ (h.blk i (by omega))
  · intro i hi
    by_cases e : i = n
    · subst e
      rw [upM_self, upM_self]
      exact Sl.nil _ _ _
    · rw [vi i (by omega), mi i (by omega)]
      exact (h.inn i (by omega)).upd hu (fun k hk e2 => by
        simp only [List.mem_cons] at e2
        rcases e2 with rfl | e2
        · exact (h.inn i (by omega)).other (by decide) _ hk _ h.head
        · exact (h.inn i (by omega)).sep h.conns (by decide) k hk e2)
  · intro i j hi hj e
    by_cases e1 : i = n <;> by_cases e2 : j = n
    · omega
    · subst e1
      rw [upM_self, bi j (by omega)] at e
      have := (h.blk j (by omega)).lt
      omega
    · subst e2
      rw [upM_self, bi i (by omega)] at e
      have := (h.blk i (by omega)).lt
      omega
    · rw [bi i (by omega), bi j (by omega)] at e
      exact h.inj i j (by omega) (by omega) e
  · intro i j hi hj hij k hk hk2
    by_cases e1 : i = n
    · subst e1; rw [upM_self] at hk; simp [ownB] at hk
    · by_cases e2 : j = n
      · subst e2; rw [upM_self] at hk2; simp [ownB] at hk2
      · rw [vi i (by omega)] at hk
        rw [vi j (by omega)] at hk2
        exact h.apart i j (by omega) (by omega) hij k hk hk2
  · intro k _ hk
    simp only [List.mem_cons] at hk
    rw [foot_in]
    rcases hk with hk | hk
    · exact .inl hk
    · exact .inr (.inl hk)
  · intro k hk
    rw [foot_in] at hk ⊢
    rcases hk with h1 | h1 | h1 | ⟨i, hi, h1⟩ | ⟨i, hi, h1⟩
    · exact .inl (.inl h1)
    · simp [ownB] at h1
      subst h1
      rcases hg4 with h2 | h2
      · exact .inl (.inr (.inl h2))
      · exact .inr h2
    · exact .inl (.inr (.inr (.inl h1)))
    · by_cases e : i = n
      · subst e; rw [upM_self] at h1; exact .inr (by omega)
      · rw [bi i (by omega)] at h1
        exact .inl (.inr (.inr (.inr (.inl ⟨i, by omega, h1⟩))))
    · by_cases e : i = n
      · subst e; rw [upM_self] at h1; simp [ownB] at h1
      · rw [vi i (by omega)] at h1
        exact .inl (.inr (.inr (.inr (.inr ⟨i, by omega, h1⟩))))

theorem IsN.wait {w w4 : World} {p n : Nat} {M : Nat → Cn} {D : List Nat} {sc sd : Value} {bs : Nat → Nat} {vs : Nat → Value} (h : IsN w p n M D sc sd bs vs) (uh : Upd (ownB sd) w w4) (d : Nat) (hd : d < n)
    (g4 o4 k4 : Nat) (s4 : Sl w4 3 1 (.slice (some ⟨g4, o4, none⟩) (D.length + 1) k4) (D.length + 1) ((D.map fun (d : Nat) => .int .i64 d) ++ [.int .i64 d])) (hg4 : g4 ∈ ownB sd ∨ w.heap.size ≤ g4) :
    Stepd w (w4.setCell ⟨p, 1, none⟩ (.slice (some ⟨g4, o4, none⟩) (D.length + 1) k4)) p n M (D ++ [d]) (foot p n sc sd bs vs) := by
  have hh4 := uh.blk h.head (fun e => h.dials.other (by decide) _ e _ h.head)
  have hu4 : Upd [p] w4 (w4.setCell ⟨p, 1, none⟩ (.slice (some ⟨g4, o4, none⟩) (D.length + 1) k4)) := (Upd.refl [p] w4).set _ _ (by simp)
  have hu : Upd (p :: ownB sd) w (w4.setCell ⟨p, 1, none⟩ (.slice (some ⟨g4, o4, none⟩) (D.length + 1) k4)) := (uh.mono (T := p :: ownB sd) (by intro k _ e; simp [e])).set _ _ (by simp)
  refine ⟨_, ⟨sc, .slice (some ⟨g4, o4, none⟩) (D.length + 1) k4, bs, vs, ⟨hh4.set 1 _, ?_, ?_, ?_, ?_, h.inj, h.apart, ?_⟩, rfl⟩, hu.mono ?_, ?_⟩
  · exact h.conns.upd hu (fun k hk e => by
      simp only [List.mem_cons] at e
      rcases e with rfl | e
      · exact h.conns.other (by decide) _ hk _ h.head
      · exact h.conns.sep h.dials (by decide) k hk e)
  · rw [List.length_append, List.map_append]
    exact s4.upd hu4 (fun k hk e => by simp at e; subst e; exact s4.other (by decide) _ hk _ hh4)
  · intro i hi
    refine hu.blk (h.blk i hi) (fun e2 => ?_)
    simp only [List.mem_cons] at e2
    rcases e2 with e2 | e2
    · have := (h.head.uniq (e2 ▸ h.blk i hi)).2; revert this; decide
    · exact h.dials.other (by decide) _ e2 _ (h.blk i hi)
  · intro i hi
    exact (h.inn i hi).upd hu (fun k hk e2 => by
      simp only [List.mem_cons] at e2
      rcases e2 with rfl | e2
      · exact (h.inn i hi).other (by decide) _ hk _ h.head
      · exact (h.inn i hi).sep h.dials (by decide) k hk e2)
  · intro e he
    rcases List.mem_append.1 he with h1 | h1
    · exact h.few e h1
    · simp at h1; omega
  · intro k _ hk
    simp only [List.mem_cons] at hk
    rw [foot_in]
    rcases hk with hk | hk
    · exact .inl hk
    · exact .inr (.inr (.inl hk))
  · intro k hk
    rw [foot_in] at hk ⊢
    rcases hk with h1 | h1 | h1 | h1 | h1
    · exact .inl (.inl h1)
    · exact .inl (.inr (.inl h1))
    · simp [ownB] at h1
      subst h1
      rcases hg4 with h2 | h2
      · exact .inl (.inr (.inr (.inl h2)))
      · exact .inr h2
    · exact .inl (.inr (.inr (.inr (.inl h1))))
    · exact .inl (.inr (.inr (.inr (.inr h1))))

def dialTo (M : Nat → Cn) (n : Nat) : Nat → Cn := upM M n Cn.new

set_option maxHeartbeats 1000000 in
theorem dial_ok (p n : Nat) (M : Nat → Cn) (D : List Nat) (F : List Nat) (w : World) (h : NetAt w p n M D F) (hn : n ≤ 1000000) (hl : D.length ≤ 1000000) :
    Calls Try.prog 8 #[.pointer (some ⟨p, 0, none⟩)] w fun e w' => e = .returned (.int .i64 n) ∧ Stepd w w' p (n + 1) (dialTo M n) (D ++ [n]) F := by
  obtain ⟨sc, sd, bs, vs, h, rfl⟩ := h
  have h1 := h.head
  have hh := h1
  have c0 := h1.cell 0
  have c1 := h1.cell 1
  simp only [List.getElem?_cons_zero, List.getElem?_cons_succ] at c0 c1
  have hcs := h.conns
  have HN := Hd.mk h
  clear h1 h
  go_enter Try.func8, Try.ntmps8
  go_wp2_with (first
      | (at_builtin; refine wpList_append_sl rfl (.tmp 7) (.tmp 10) 24 rfl 51 (.pointer none) 1 8 Try.underlying24 (by kernel_rfl) rfl _ _ _ rfl ((hcs.alloc _).alloc _) ⟨w.heap.size + 1, 0, none⟩ 1 1 [.pointer (some ⟨w.heap.size, 0, none⟩)] rfl rfl (Blk.news (Blk.new (w.alloc _) _ _ _ (by simp))) rfl (by omega) (by unfold maxLen; omega) (by omega) ?_))
  intro g4 o4 k4 w4 s4 u4 hg4 hl4
  have uh : Upd (ownB sc) w w4 := (((Upd.refl _ w).alloc _).alloc _).trans u4 (fun _ _ h => h)
  have nb := u4.blk (k := w.heap.size) ((Blk.new w [.slice none 0 0, .int .i64 0, .bool false, .bool false, .bool false, .bool false, .string ⟨#[]⟩] 53 _ rfl).alloc _) (fun e => by have := hcs.lt _ e; omega)
  have hh4 := uh.blk hh (fun e => hcs.other (by decide) _ e _ hh)
  have fr0 := hh4.free 0
  have cc0 := hh4.cell 0
  simp only [List.getElem?_cons_zero] at cc0
  have X4 := Hd.mk (HN.out.grow uh nb g4 o4 k4 s4 (hg4.imp id (fun h => by omega)))
  clear uh nb hh4 s4 hg4 u4 c0 c1 hcs hh
  go_upto_region 2 with (fail)
  refine wp_abs (fun W => IsN W p (n + 1) (upM M n Cn.new) D (.slice (some ⟨g4, o4, none⟩) (n + 1) k4) sd (upM bs n w.heap.size) (upM vs n (.slice none 0 0)) ∧ Upd (foot p n sc sd bs vs) w W) ⟨X4.out.1, X4.out.2.1⟩ ?_
  rintro W ⟨hW, hu⟩
  have hh := hW.head
  have hds := hW.dials
  obtain ⟨ad, cd, rfl⟩ := hds.form
  have h1 := hh
  have c0 := h1.cell 0
  have c1 := h1.cell 1
  simp only [List.getElem?_cons_zero, List.getElem?_cons_succ] at c0 c1
  have HW := Hd.mk (And.intro hW hu)
  have hwr : IntKind.i64.wrap (n : Int) = n := by rw [IntKind.wrap_i64]; omega
  clear h1 hW hu cc0 fr0
  go_cut [26] (fun v W' => ∃ g5 o5 k5 w5, v = .slice (some ⟨g5, o5, none⟩) (D.length + 1) k5 ∧ W' = w5.setCell ⟨p, 1, none⟩ v ∧ Upd (ownB (.slice ad D.length cd)) W w5 ∧ Sl w5 3 1 (.slice (some ⟨g5, o5, none⟩) (D.length + 1) k5) (D.length + 1) ((D.map fun (d : Nat) => .int .i64 d) ++ [.int .i64 n]) ∧ (g5 ∈ ownB (.slice ad D.length cd) ∨ W.heap.size ≤ g5))
  case first =>
    have hds1 := (hds.alloc (.cells #[.int .i64 n] 3)).drewN 1
    have hpl := hh.lt
    have hh1 := (hh.alloc (.cells #[.int .i64 n] 3)).drewN 1
    have nw1 := Blk.news ((Blk.new W [.int .i64 n] 3 _ rfl).drewN 1)
    go_region_law (refine step_append_sl rfl (.tmp 18) (.tmp 25) 25 rfl 3 (.int .i64 0) 1 8 Try.underlying25 (by kernel_rfl) rfl (.slice ad D.length cd) D.length _ rfl hds1 ⟨W.heap.size, 0, none⟩ 1 1 [.int .i64 n] rfl rfl nw1 rfl (by omega) (by unfold maxLen; omega) (by omega) ?_; intro g5 o5 k5 w5 s5 u5 hg5 hl5; have hh5 := u5.blk hh1 (fun e => hds.other (by decide) _ e _ hh); have fr1 := hh5.free 1; have cc1 := hh5.cell 1; simp only [List.getElem?_cons_zero, List.getElem?_cons_succ] at cc1; clear hh5)
    all_goals
      go_wp2_with fail
      go_meet
      case rel => exact ⟨_, _, _, _, rfl, rfl, ((((Upd.refl _ W).alloc _).drew).trans (by assumption) (fun _ _ h => h)), by assumption, (show _ ∨ (W.alloc (.cells #[.int .i64 n] 3)).drew.heap.size ≤ _ from by assumption).imp id (fun h => Nat.le_trans (show W.heap.size ≤ (W.alloc (.cells #[.int .i64 n] 3)).drew.heap.size by simp) h)⟩
  case rest =>
    obtain ⟨g5, o5, k5, w5, rfl, rfl, u5, s5, hg5⟩ := hcut
    obtain ⟨hW, hu⟩ := HW.out
    have st := (hW.wait u5 n (by omega) g5 o5 k5 s5 hg5).after hu X4.out.2.2
    have hh5 := (u5.blk hh (fun e => hds.other (by decide) _ e _ hh)).set 1 (.slice (some ⟨g5, o5, none⟩) (D.length + 1) k5)
    have cc0 := hh5.cell 0
    simp only [List.set_cons_succ, List.set_cons_zero, List.getElem?_cons_zero] at cc0
    have ST := Hd.mk st
    clear st hh5 u5 s5 hg5 hW hu c0 c1 hh hds HW X4 HN
    refine wp_abs (fun V => Stepd w V p (n + 1) (dialTo M n) (D ++ [n]) (foot p n sc (.slice ad D.length cd) bs vs) ∧ V.cell? ⟨p, 0, none⟩ = some (.slice (some ⟨g4, o4, none⟩) (n + 1) k4)) ⟨ST.out, cc0⟩ ?_
    clear ST cc0
    rintro V ⟨st, cc0⟩
    have ST := Hd.mk st
    clear st
    go_wp2_with fail
    go_ret
    exact ⟨rfl, ST.out⟩
end Go.Proofs.Ytpjkckhgkaefdaa
