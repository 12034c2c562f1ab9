/- Send, read, accept, dial. -/
import Derived.Test.YtpjkckhgkaefdaaN3
namespace Go.Proofs.Ytpjkckhgkaefdaa
set_option linter.unusedSimpArgs false
set_option linter.unusedVariables false
set_option linter.unnecessarySimpa false
open Go.RowKit BigFrame

def sendOk (x : Cn) (s : ByteArray) : Bool := x.open3 && !s.toList.isEmpty
def sendB (M : Nat → Cn) (i : Nat) (x : Cn) (s : ByteArray) (ok : Bool) : Nat → Cn := if ok then upM M i { x with inn := x.inn ++ [s], came := x.came + s.size } else M
def sendTo (M : Nat → Cn) (i : Nat) (x : Cn) (s : ByteArray) : Nat → Cn := sendB M i x s (sendOk x s)

set_option maxHeartbeats 1000000 in
theorem send_some (p n : Nat) (M : Nat → Cn) (D : List Nat) (F : List Nat) (w : World) (i : Nat) (s : ByteArray) (h : NetAt w p n M D F) (hi : i < n) (hs : (M i).came + s.size ≤ 1000000) (hl : (M i).inn.length ≤ 1000000) :
    Calls Try.prog 9 #[.pointer (some ⟨p, 0, none⟩), .int .i64 i, .string s] w fun e w' => e = .returned (.bool (sendOk (M i) s)) ∧ Stepd w w' p n (sendTo M i (M i) s) D F := by
  obtain ⟨sc, sd, bs, vs, h, rfl⟩ := h
  have h1 := h.blk i hi
  have hb := h1
  have hin := h.inn i hi
  have st := fun x v w' hu hS hb hs hv => h.put (w' := w') (S := bs i :: ownB (vs i)) i hi x v hu hS hb hs hv
  obtain ⟨x, hx⟩ : ∃ x, x = M i := ⟨_, rfl⟩
  rw [← hx] at h1 hb hin hs hl ⊢
  have c0 := h1.cell 0
  have c1 := h1.cell 1
  have c2 := h1.cell 2
  have c3 := h1.cell 3
  have c4 := h1.cell 4
  have c5 := h1.cell 5
  have c6 := h1.cell 6
  simp only [Cn.cells, List.getElem?_cons_zero, List.getElem?_cons_succ] at c0 c1 c2 c3 c4 c5 c6
  have ne : bs i ∉ ownB (vs i) := fun e => hin.other (by decide) _ e _ hb
  clear h1 hx
  have ST := Hd.mk (And.intro st (And.intro hb ne))
  clear st hb ne
  obtain ⟨inn, came, shut, reset, taken, closed, written⟩ := x
  simp only at hs hl hin
  unfold sendTo
  cases hs0 : s.toList.isEmpty <;> cases shut <;> cases reset <;> cases closed
  case false.false.false.false =>
    simp only [sendOk, Cn.open3, hs0, Bool.not_true, Bool.not_false, Bool.and_false, Bool.false_and, Bool.and_true, Bool.true_and]
    go_enter Try.func9, Try.ntmps9
    go_wp2_with fail
    refine (at_some p n M D sc sd bs vs w i h hi).mono ?_
    rintro e w1 ⟨rfl, rfl⟩
    go_wp2_with (first
      | (at_builtin; refine wpList_append_sl rfl (.tmp 39) (.tmp 41) 22 rfl 9 (.string ⟨#[]⟩) 1 16 Try.underlying22 (by kernel_rfl) rfl _ _ _ rfl (hin.alloc _) ⟨w1.heap.size, 0, none⟩ 1 1 [.string s] rfl rfl (Blk.news (Blk.new w1 _ _ _ rfl)) rfl (by omega) (by unfold maxLen; omega) (by omega) ?_))
    intro g4 o4 k4 w4 s4 u4 hg4 hl4
    have hb4 := u4.blk (ST.out.2.1.alloc (.cells #[.string s] 9)) ST.out.2.2
    have hb5 := hb4
    have sz := ST.out.2.1.lt
    have u5 := ((Upd.refl (ownB (vs i)) w1).alloc (.cells #[.string s] 9)).trans u4 (fun _ _ h => h)
    clear c0 c1 c2 c3 c4 c5 c6
    have c0 := hb5.cell 0
    have c1 := hb5.cell 1
    have c2 := hb5.cell 2
    have c3 := hb5.cell 3
    have c4 := hb5.cell 4
    have c5 := hb5.cell 5
    have c6 := hb5.cell 6
    simp only [Cn.cells, List.getElem?_cons_zero, List.getElem?_cons_succ] at c0 c1 c2 c3 c4 c5 c6
    have fr0 := hb4.free 0
    have fr1 := hb4.free 1
    clear hb5 u4 hin
    have G4 := Hd.mk (And.intro hg4 s4)
    clear hg4 s4
    go_wp2_with fail
    go_ret
    exact ⟨rfl, ST.out.1 _ (.slice (some ⟨g4, o4, none⟩) (inn.length + 1) k4) _ (((u5.mono (by simp; exact fun _ _ h => .inr h)).set _ _ (by simp)).set _ _ (by simp)) (by simp) ((hb4.set 0 _).set 1 _) (by
      have h5 := G4.out.2
      have h6 := hb4.lt
      rw [List.length_append, List.map_append]
      exact h5.upd (((Upd.refl [bs i] w4).set _ _ (by simp)).set _ _ (by simp)) (fun k hk e => by simp at e; subst e; exact h5.other (by decide) _ hk _ hb4)) (by
      intro k hk
      simp [ownB] at hk
      subst hk
      rcases G4.out.1 with h1 | h1
      · exact .inl h1
      · right; omega)⟩
  all_goals
    simp only [sendOk, Cn.open3, hs0, Bool.not_true, Bool.not_false, Bool.and_false, Bool.false_and, Bool.and_true, Bool.true_and]
    go_enter Try.func9, Try.ntmps9
    go_wp2_with fail
    refine (at_some p n M D sc sd bs vs w i h hi).mono ?_
    rintro e w1 ⟨rfl, rfl⟩
    go_wp2_with fail
    go_ret
    exact ⟨rfl, h.stay (Upd.refl [] _)⟩

set_option maxHeartbeats 1000000 in
theorem read_empty (p n : Nat) (M : Nat → Cn) (D : List Nat) (F : List Nat) (w : World) (i : Nat) (h : NetAt w p n M D F) (hi : i < n) (he : (M i).inn = []) :
    Calls Try.prog 11 #[.pointer (some ⟨p, 0, none⟩), .int .i64 i] w fun e w' => e = .returned (.tuple #[.string ⟨#[]⟩, .bool false]) ∧ Stepd w w' p n M D F := by
  obtain ⟨sc, sd, bs, vs, h, rfl⟩ := h
  have h1 := h.blk i hi
  have hin := h.inn i hi
  rw [he] at hin
  obtain ⟨a, cap, hv⟩ := hin.form
  simp only [List.length_nil] at hv
  rw [hv] at h1
  have c0 := h1.cell 0
  have c1 := h1.cell 1
  have c2 := h1.cell 2
  have c3 := h1.cell 3
  have c4 := h1.cell 4
  have c5 := h1.cell 5
  have c6 := h1.cell 6
  simp only [Cn.cells, List.getElem?_cons_zero, List.getElem?_cons_succ] at c0 c1 c2 c3 c4 c5 c6
  clear h1 hin hv
  go_enter Try.func11, Try.ntmps11
  go_wp2_with fail
  refine (at_some p n M D sc sd bs vs w i h hi).mono ?_
  rintro e w1 ⟨rfl, rfl⟩
  go_wp2_with fail
  go_ret2
  exact ⟨rfl, h.stay (Upd.refl [] _)⟩

def readTo (M : Nat → Cn) (i : Nat) (x : Cn) (r : List ByteArray) : Nat → Cn := upM M i { x with inn := r }

set_option maxHeartbeats 1000000 in
theorem read_one (p n : Nat) (M : Nat → Cn) (D : List Nat) (F : List Nat) (w : World) (i : Nat) (s : ByteArray) (r : List ByteArray) (h : NetAt w p n M D F) (hi : i < n) (he : (M i).inn = s :: r) (hl : (M i).inn.length ≤ 1000000) :
    Calls Try.prog 11 #[.pointer (some ⟨p, 0, none⟩), .int .i64 i] w fun e w' => e = .returned (.tuple #[.string s, .bool true]) ∧ Stepd w w' p n (readTo M i (M i) r) D F := by
  obtain ⟨sc, sd, bs, vs, h, rfl⟩ := h
  have h1 := h.blk i hi
  have hb := h1
  have hin := h.inn i hi
  obtain ⟨v', hrun, sl', hob⟩ := run_from_sl (P := Try.prog) 22 9 1 Try.underlying22 (by kernel_rfl) w _ _ _ hin 1 (by simp [he]) (by omega)
  have st := fun x v w' hu hS hb hs hv => h.put (w' := w') (S := [bs i]) i hi x v hu hS hb hs hv
  rw [he] at hin sl' hl
  obtain ⟨g, o, cap, hv, h2, h3, h4⟩ := hin.some (by simp)
  have hc := h4 0 (by simp)
  simp only [List.map_cons, List.getElem?_cons_zero, Nat.add_zero] at hc
  simp only [List.length_cons, List.map_cons, List.drop_succ_cons, List.drop_zero, Nat.one_mul, Nat.add_sub_cancel] at sl' hv hl
  obtain ⟨a2, k2, rfl⟩ := sl'.form
  rw [hv] at h1 hrun hb
  have hrun : ∀ W, (Instr.slice 22 (.slice (some ⟨g, o, none⟩) (r.length + 1) cap) (some (.int .i64 1)) none none).run Try.prog W = .ok (.slice a2 r.length k2) W := hrun
  have c0 := h1.cell 0
  have c1 := h1.cell 1
  have c2 := h1.cell 2
  have c3 := h1.cell 3
  have c4 := h1.cell 4
  have c5 := h1.cell 5
  have c6 := h1.cell 6
  simp only [Cn.cells, List.getElem?_cons_zero, List.getElem?_cons_succ] at c0 c1 c2 c3 c4 c5 c6
  have fr0 := h1.free 0
  have hn0 : ¬ (r.length + 1 : Nat) = 0 := by omega
  have ST := Hd.mk (And.intro st (And.intro hb (And.intro sl' (And.intro hob hin))))
  clear h1 hin st hb sl' hob h4
  go_enter Try.func11, Try.ntmps11
  go_wp2_with fail
  refine (at_some p n M D sc sd bs vs w i h hi).mono ?_
  rintro e w1 ⟨rfl, rfl⟩
  go_wp2_with fail
  go_ret2
  obtain ⟨st, hb, sl', hob, hin⟩ := ST.out
  exact ⟨rfl, st _ (.slice a2 r.length k2) _ ((Upd.refl _ _).set _ _ (by simp)) (fun k _ hk => .inl (by simpa using hk)) (hb.set 0 _) (sl'.upd ((Upd.refl [bs i] _).set _ _ (by simp)) (fun k hk e => by simp at e; subst e; exact sl'.other (by decide) _ hk _ hb)) (fun k hk => .inl (by rw [← hob]; exact hk))⟩
end Go.Proofs.Ytpjkckhgkaefdaa
