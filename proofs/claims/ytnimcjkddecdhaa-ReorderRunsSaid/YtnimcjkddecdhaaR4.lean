/- The reorder laws' fit; ReorderSizes. -/
import Derived.Test.YtnimcjkddecdhaaR3
import Derived.Test.YtnimcjkddecdhaaBits
import Derived.Deep.LoopGhost
namespace Go.Proofs.Ytnimcjkddecdhaa
open Go.RowKit BigFrame

/-- A response that has a status alone. -/
def rs (s : Int) : Rp := ⟨s, none, 0, 0, ⟨#[]⟩, false⟩

set_option maxHeartbeats 800000 in
theorem fit_ok (w : World) : Calls Try.prog 6 #[] w fun e w' => e = .returned (.bool true) ∧ Upd [] w w' := by
  go_enter Try.func6, Try.ntmps6
  go_wp2_with fail
  refine (new_ok 2 2 [] w (by decide)).mono ?_
  rintro e w1 ⟨p, r, c, rfl, hpr, hp, hr, q1, u1⟩
  have Y := Hd.mk (And.intro hp hr)
  clear hp hr
  go_wp2_with fail
  refine (give_room p r 2 0 0 _ [] c w1 hpr (by omega) (by omega) q1 (by omega)).mono ?_
  rintro e w2 ⟨rfl, q2, u2⟩
  go_wp2_with fail
  refine (give_room p r 2 1 0 _ [] c w2 hpr (by omega) (by omega) q2 (by omega)).mono ?_
  rintro e w3 ⟨rfl, q3, u3⟩
  go_wp2_with fail
  refine (give_full p r 2 2 0 _ [] c w3 (by omega) (by omega) q3 (by omega)).mono ?_
  rintro e w4 ⟨rfl, k4, rfl⟩
  have q4 := q3.upd ((Upd.refl [] w3).drewN k4) (by simp) (by simp) (by simp)
  go_wp2_with fail
  refine (put_yes p r 2 2 0 _ [] c _ 1 (rs 2) hpr (by simp) (by omega) (by omega) q4 (by omega) (by omega) rfl).mono ?_
  rintro e w5 ⟨rfl, ⟨c5, q5⟩, u5⟩
  go_wp2_with fail
  refine (ready_open p r 2 2 0 _ [] c5 w5 (by omega) (by omega) q5 (by omega)).mono ?_
  rintro e w6 ⟨rfl, k6, rfl⟩
  have q6 := q5.upd ((Upd.refl [] w5).drewN k6) (by simp) (by simp) (by simp)
  go_wp2_with fail
  refine (put_yes p r 2 2 0 _ [] c5 _ 0 (rs 1) hpr (by simp) (by omega) (by omega) q6 (by omega) (by omega) rfl).mono ?_
  rintro e w7 ⟨rfl, ⟨c7, q7⟩, u7⟩
  go_wp2_with fail
  refine (take_some p r 2 2 0 _ [] c7 w7 (rs 1) hpr (by omega) (by omega) q7 (by omega) rfl).mono ?_
  rintro e w8 ⟨rfl, ⟨c8, q8⟩, u8⟩
  simp only [rs, Rp.cells]
  go_wp2_with fail
  refine (open_ok p r 2 2 1 _ [] c8 _ (by omega) (q8.upd ((Upd.refl [] _).alloc _) (by simp) (by simp) (by simp))).mono ?_
  rintro e w9 ⟨rfl, k9, rfl⟩
  go_wp2_with fail
  go_ret
  obtain ⟨hp, hr⟩ := Y.out
  have v := (((((u1.mono (T := [p, r]) (by simp)).trans u2 (by intro j hj h; simp at h ⊢; omega)).trans u3 (by intro j hj h; simp at h ⊢; omega)).drewN k4).trans u5 (by intro j hj h; simp at h ⊢; omega))
  have v2 := (((v.drewN k6).trans u7 (by intro j hj h; simp at h ⊢; omega)).trans u8 (by intro j hj h; simp at h ⊢; omega))
  exact ⟨rfl, ((v2.mono (T := []) (by intro j hj h; simp at h; omega)).alloc _).drewN _⟩

set_option maxRecDepth 100000 in
set_option maxHeartbeats 1000000 in
theorem sizes_walk (m a : Int) (w : World) : Calls Try.prog 5 #[.int .i64 m, .int .i64 a] w fun e w' => e = .returned (.bool true) ∧ Upd [] w w' := by
  obtain ⟨n, hn⟩ : ∃ n : Nat, (n : Int) = min (max m 1) 8 := ⟨(min (max m 1) 8).toNat, by omega⟩
  have HN := Hd.mk hn
  have n1 : 1 ≤ n := by omega
  have n2 : n ≤ 8 := by omega
  clear hn
  obtain ⟨ka, hka⟩ : ∃ k : Nat, a % 64 = k := ⟨(a % 64).toNat, by omega⟩
  have ka1 : ka ≤ 64 := by omega
  go_enter Try.func5, Try.ntmps5
  go_wp2_with fail
  refine (fit_ok w).mono ?_
  rintro e w1 ⟨rfl, u1⟩
  go_wp2_with fail
  refine (new_ok m n [] w1 HN.out).mono ?_
  rintro e w2 ⟨p, r, c, rfl, hpr, hp, hr, q2, u2⟩
  have v2 := u1.trans u2 (by simp)
  have z1 : w.heap.size ≤ p := by have := u1.size; omega
  have z2 : w.heap.size ≤ r := by have := u1.size; omega
  have Y := Hd.mk (And.intro z1 z2)
  clear z1 z2 hp hr u1 u2
  go_wp2_with fail
  refine (give_room p r n 0 0 _ [] c w2 hpr (by omega) n2 q2 (by omega)).mono ?_
  rintro e w3 ⟨rfl, q3, u3⟩
  have v3 : Upd [] w w3 := v2.trans u3 (by obtain ⟨z1, z2⟩ := Y.out; intro j hj h; simp at h; omega)
  clear v2 u3 q2
  go_wp2_with fail
  go_loopg [6, 7, 8] n (fun gh kk ii okk wr => ∃ (k : Nat) (c : List Value), kk = .int .i64 k ∧ gh + k = n ∧ ((k < n ∧ ii = .int .i64 k ∧ okk = .bool true ∧ IsB wr p r n (k + 1) 0 (fun _ => none) [] c) ∨ (k = n ∧ ii = .int .i64 0 ∧ okk = .bool false ∧ IsB wr p r n n 0 (fun _ => none) [] c)) ∧ Upd [] w wr)
  case atStart => exact ⟨0, c, by simp, by omega, .inl ⟨by omega, by simp, rfl, q3⟩, v3⟩
  case round =>
    clear q3 v3 c
    obtain ⟨k, c, rfl, hg, hor, tv⟩ := hrel
    rcases hor with ⟨hk, rfl, rfl, q⟩ | ⟨rfl, rfl, rfl, q⟩
    · go_wp2_with fail
      by_cases hk2 : k + 1 < n
      · refine (give_room p r n (k + 1) 0 _ [] c wr hpr (by omega) n2 q (by omega)).mono ?_
        rintro e w4 ⟨rfl, q4, u4⟩
        go_wp2_with fail
        go_roundg (gk - 1)
        case measure => omega
        case rel => exact ⟨k + 1, c, by simp, by omega, .inl ⟨hk2, by simp, rfl, q4⟩, tv.trans u4 (by obtain ⟨z1, z2⟩ := Y.out; intro j hj h; simp at h; omega)⟩
      · refine (give_full p r n (k + 1) 0 _ [] c wr (by omega) n2 q (by omega)).mono ?_
        rintro e w4 ⟨rfl, k4, rfl⟩
        go_wp2_with fail
        go_roundg (gk - 1)
        case measure => omega
        case rel =>
          have e1 : k + 1 = n := by omega
          exact ⟨k + 1, c, by simp, by omega, .inr ⟨e1, rfl, rfl, by rw [e1] at q; exact q.upd ((Upd.refl [] wr).drewN k4) (by simp) (by simp) (by simp)⟩, tv.drewN _⟩
    · clear hg
      have hn := HN.out.symm
      go_wp2_with (first | (refine wpList_max rfl (.tmp 43) (.const (.int .i64 1)) _ rfl m 1 rfl rfl ?_; simp only [Act.put, List.setIfInBounds_toArray, List.set_cons_succ, List.set_cons_zero]) | (refine wpList_min rfl (.tmp 44) (.const (.int .i64 8)) _ rfl (max m 1) 8 rfl rfl ?_; simp only [hn]; simp only [Act.put, List.setIfInBounds_toArray, List.set_cons_succ, List.set_cons_zero]))
      clear hn
      refine (room_ok p r k k 0 _ [] c wr (by omega) n2 q).mono ?_
      rintro e w4 ⟨rfl, k4, rfl⟩
      have q := q.upd ((Upd.refl [] wr).drewN k4) (by simp) (by simp) (by simp)
      have tv := tv.drewN k4
      go_wp2_with fail
      go_loopg [53] ka (fun gh ii wr => ∃ (i : Nat) (T : Nat → Option Rp) (c : List Value), ii = .int .i64 i ∧ gh + i = ka ∧ IsB wr p r k (k + i) i T [] c ∧ (∀ j, i ≤ j → T j = none) ∧ Upd [] w wr)
      case atStart => exact ⟨0, _, c, by simp, by omega, q, by simp, tv⟩
      case round =>
        obtain ⟨i, T, c, rfl, hg, q, hT, tv⟩ := hrel
        by_cases hlt : i < ka
        · go_wp2_with fail
          refine (give_full p r k (k + i) i _ [] c wr (by omega) n2 q (by omega)).mono ?_
          rintro e w4 ⟨rfl, k4, rfl⟩
          have q := q.upd ((Upd.refl [] wr).drewN k4) (by simp) (by simp) (by simp)
          have tv := tv.drewN k4
          go_wp2_with fail
          refine (put_yes p r k (k + i) i _ [] c _ i (rs i) hpr (by simp) (by omega) n2 q (Nat.le_refl _) (by omega) (hT i (Nat.le_refl _))).mono ?_
          rintro e w5 ⟨rfl, ⟨c5, q5⟩, u5⟩
          go_wp2_with fail
          refine (take_some p r k (k + i) i _ [] c5 w5 (rs i) hpr (by omega) n2 q5 (by omega) (by simp)).mono ?_
          rintro e w6 ⟨rfl, ⟨c6, q6⟩, u6⟩
          simp only [rs, Rp.cells]
          go_wp2_with fail
          have q6' := q6.upd ((Upd.refl [] w6).alloc (.cells (rs i).cells.toArray 33)) (by simp) (by simp) (by simp)
          refine (give_room p r k (k + i) (i + 1) _ [] c6 _ hpr (by omega) n2 q6' (by omega)).mono ?_
          rintro e w7 ⟨rfl, q7, u7⟩
          have nb := u7.blk (Blk.new w6 (rs i).cells 33 w6.heap.size rfl) (by have := q6.head.lt; simp; omega)
          have nb0 := nb.cell 0
          simp only [rs, Rp.cells, List.getElem?_cons_zero] at nb0
          clear nb q6' q6
          go_wp2_with fail
          have z := Y.out
          have tu : Upd [p, r] w w7 := (((((tv.mono (T := [p, r]) (by simp)).trans u5 (by intro j hj h; simp at h ⊢; omega)).trans u6 (by intro j hj h; simp at h ⊢; omega)).alloc (.cells (rs i).cells.toArray 33)).trans u7 (by intro j hj h; simp at h ⊢; omega))
          go_roundg (gk - 1)
          case measure => omega
          case rel => exact ⟨i + 1, _, c6, by simp, by omega, by rw [← Nat.add_assoc]; exact q7, fun j hj => by
            have : j ≠ i := by omega
            simp only [this, if_false]
            exact hT j (by omega), tu.mono (by intro j hj h; simp at h; omega)⟩
        · have hi : i = ka := by omega
          subst hi
          clear hlt hg
          go_wp2_with fail
          refine (open_ok p r k (k + i) i _ [] c wr (by omega) q).mono ?_
          rintro e w4 ⟨rfl, k4, rfl⟩
          have hz : (((k + i : Nat) : Int) - i == (k : Int)) = true := by simp
          go_wp2_with fail
          go_ret
          exact ⟨rfl, tv.drewN k4⟩

theorem sizes_row (m a : Int) (w : World) (_ : (Lit.int .i64 m).wf = true) (_ : (Lit.int .i64 a).wf = true) :
    Calls Try.prog 5 #[.int .i64 m, .int .i64 a] w fun e w' => e = .returned (.bool true) ∧ Below w.heap.size w w' :=
  (sizes_walk m a w).mono fun _ _ h => ⟨h.1, h.2.nil_below⟩
end Go.Proofs.Ytnimcjkddecdhaa
