/- ReorderTurns: in whatever order answers come, they go out in the order of their numbers. -/
import Derived.Test.YtnimcjkddecdhaaR4
import Derived.Test.YtnimcjkddecdhaaSl
import Derived.Test.YtnimcjkddecdhaaMk
import Derived.Test.YtnimcjkddecdhaaArgs
import Derived.Deep.DeepCutAuto
import Derived.Deep.RegionWith
namespace Go.Proofs.Ytnimcjkddecdhaa
open Go.RowKit BigFrame

/-- The numbers that are put: those of l, then 0 to 7. -/
def turn (zs : List Int) (len i : Nat) : Int := if i < len then zs.getD i 0 else (i : Int) - len
/-- What went out. -/
def outL (o : Nat) : List Value := (List.range o).map fun (i : Nat) => Value.int .i64 ((i : Int) + 1)
theorem outL_len (o : Nat) : (outL o).length = o := by simp [outL]
theorem outL_succ (o : Nat) : outL (o + 1) = outL o ++ [Value.int .i64 ((o : Int) + 1)] := by simp [outL, List.range_succ]
def turnL (zs : List Int) (len : Nat) : List Value := (List.range (len + 8)).map fun (i : Nat) => Value.int .i64 (turn zs len i)
def firstL (zs : List Int) (len : Nat) : List Value := (List.range len).map fun (i : Nat) => Value.int .i64 (zs.getD i 0)
def eight : List Value := [.int .i64 0, .int .i64 1, .int .i64 2, .int .i64 3, .int .i64 4, .int .i64 5, .int .i64 6, .int .i64 7]
theorem turn_list (zs : List Int) (len : Nat) : firstL zs len ++ eight = turnL zs len := by
  unfold firstL turnL eight
  rw [List.range_add, List.map_append]
  congr 1
  · apply List.map_congr_left
    intro i hi
    have : i < len := by simpa using hi
    simp [turn, this]
  · simp [List.range_succ, turn]
    omega

/-- Was number j put? -/
def Dn (o : Nat) (T : Nat → Option Rp) (j : Nat) : Prop := j < o ∨ (T j).isSome = true
/-- What the outer loop keeps. -/
structure Inv (w wr : World) (p r mb gv : Nat) (vl : Value) (zs : List Int) (len o : Nat) (T : Nat → Option Rp) (c : List Value) (L : List (Int × Value × Nat)) (vo : Value) (no : Nat) : Prop where
  buf : IsB wr p r 8 8 o T [] c
  val : ∀ j x, T j = some x → x = rs ((j : Int) + 1)
  map : Mp wr mb (fun k => .int .i64 k) L
  out : Sl wr 3 1 vo no (outL no)
  own : ∀ b, b ∈ ownB vo → w.heap.size ≤ b ∧ b ≠ gv
  lst : Sl wr 3 1 vl (len + 8) (turnL zs len)
  upd : Upd [] w wr
theorem Inv.step {w wr w' : World} {p r mb gv : Nat} {vl : Value} {zs : List Int} {len o o' : Nat} {T T' : Nat → Option Rp} {c c' : List Value} {L : List (Int × Value × Nat)} {vo : Value} {no : Nat} {S : List Nat} (h : Inv w wr p r mb gv vl zs len o T c L vo no)
    (hu : Upd S wr w') (hS : ∀ k, k ∈ S → k = p ∨ k = r) (hb : IsB w' p r 8 8 o' T' [] c') (hv : ∀ j x, T' j = some x → x = rs ((j : Int) + 1)) (hp : w.heap.size ≤ p ∧ w.heap.size ≤ r) : Inv w w' p r mb gv vl zs len o' T' c' L vo no where
  buf := hb
  val := hv
  map := h.map.upd hu (fun e => by rcases hS _ e with e | e; exact h.map.other _ _ (e ▸ h.buf.head); exact h.map.other _ _ (e ▸ h.buf.ring))
  out := h.out.upd hu (fun k hk e => by rcases hS _ e with e | e; exact h.out.other (by decide) k hk _ (e ▸ h.buf.head); exact h.out.other (by decide) k hk _ (e ▸ h.buf.ring))
  own := h.own
  lst := h.lst.upd hu (fun k hk e => by rcases hS _ e with e | e; exact h.lst.other (by decide) k hk _ (e ▸ h.buf.head); exact h.lst.other (by decide) k hk _ (e ▸ h.buf.ring))
  upd := h.upd.trans hu (fun k hk e => by rcases hS _ e with e | e <;> omega)
/-- Only new blocks, and others than these. -/
theorem Inv.over {w wr w' : World} {p r mb gv : Nat} {vl : Value} {zs : List Int} {len o : Nat} {T : Nat → Option Rp} {c : List Value} {L : List (Int × Value × Nat)} {vo : Value} {no : Nat} (h : Inv w wr p r mb gv vl zs len o T c L vo no) (hu : Upd [] wr w') : Inv w w' p r mb gv vl zs len o T c L vo no where
  buf := h.buf.upd hu (by simp) (by simp) (by simp)
  val := h.val
  map := h.map.upd hu (by simp)
  out := h.out.upd hu (by simp)
  own := h.own
  lst := h.lst.upd hu (by simp)
  upd := h.upd.trans hu (by simp)
theorem Dn.take {o : Nat} {T : Nat → Option Rp} {x : Rp} (h : T o = some x) (j : Nat) : Dn (o + 1) T j ↔ Dn o T j := by
  unfold Dn
  constructor
  · rintro (h1 | h1)
    · by_cases e : j = o
      · subst e; right; rw [h]; rfl
      · left; omega
    · exact .inr h1
  · rintro (h1 | h1)
    · left; omega
    · exact .inr h1
def Puts (o : Nat) (T : Nat → Option Rp) (L : List (Int × Value × Nat)) : Prop := ∀ j : Nat, j < 8 → get L (j : Int) = some (.bool true) ∧ Dn o T j ∨ get L (j : Int) = none ∧ ¬ Dn o T j
def Dones (zs : List Int) (len i o : Nat) (T : Nat → Option Rp) : Prop := ∀ j n : Nat, j < i → turn zs len j % 8 = n → Dn o T n

theorem IsB.slkeep {w w' : World} {p r n g o : Nat} {T : Nat → Option Rp} {X : List Nat} {c : List Value} (h : IsB w p r n g o T X c) {v : Value} {m : Nat} {xs : List Value} (hs : Sl w 3 1 v m xs) (hu : Upd (ownB v) w w') : IsB w' p r n g o T X c :=
  h.keep hu (fun e => hs.other (by decide) p e _ h.head) (fun e => hs.other (by decide) r e _ h.ring) (hs.other (by decide))
theorem Sl.notMp {w : World} {κ : Type} [DecidableEq κ] {e : TypeId} {sz : Nat} {v : Value} {n r : Nat} {xs : List Value} {kv : κ → Value} {L : List (κ × Value × Nat)} (hs : Sl w e sz v n xs) (h : Mp w r kv L) : r ∉ ownB v := by
  intro hr
  rcases hs.2 with ⟨rfl, _⟩ | ⟨g, o, cap, cur, rfl, hb, _⟩
  · simp [ownB] at hr
  · simp [ownB] at hr; subst hr; exact h.other _ _ hb
theorem IsB.alloc {w : World} {p r n g o : Nat} {T : Nat → Option Rp} {X : List Nat} {c : List Value} (h : IsB w p r n g o T X c) (ob : Obj) : IsB (w.alloc ob) p r n g o T X c :=
  h.upd ((Upd.refl [] w).alloc ob) (by simp) (by simp) (by simp)
theorem IsB.drewN {w : World} {p r n g o : Nat} {T : Nat → Option Rp} {X : List Nat} {c : List Value} (h : IsB w p r n g o T X c) (k : Nat) : IsB (w.drewN k) p r n g o T X c :=
  h.upd ((Upd.refl [] w).drewN k) (by simp) (by simp) (by simp)
theorem Mp.alloc {w : World} {κ : Type} [DecidableEq κ] {r : Nat} {kv : κ → Value} {L : List (κ × Value × Nat)} (h : Mp w r kv L) (ob : Obj) : Mp (w.alloc ob) r kv L := h.upd ((Upd.refl [] w).alloc ob) (by simp)
theorem Mp.drewN {w : World} {κ : Type} [DecidableEq κ] {r : Nat} {kv : κ → Value} {L : List (κ × Value × Nat)} (h : Mp w r kv L) (k : Nat) : Mp (w.drewN k) r kv L := h.upd ((Upd.refl [] w).drewN k) (by simp)

/-- Going over the answers that are ready: o came out, the last of them waits in rb, or none is ready. -/
def LoopR (w W : World) (p r mb gv : Nat) (vl : Value) (zs : List Int) (len o0 : Nat) (T : Nat → Option Rp) (L : List (Int × Value × Nat)) (gh : Nat) (vo s9 s10 : Value) : Prop :=
  ∃ (o no rb : Nat) (c : List Value), s9 = .pointer (some ⟨rb, 0, none⟩) ∧ Inv w W p r mb gv vl zs len o T c L vo no ∧ (∀ j, Dn o T j ↔ Dn o0 T j) ∧
    ((s10 = .bool true ∧ no + 1 = o ∧ gh = 2 * (8 - o) + 1 ∧ Blk W rb (rs o).cells 33) ∨ (s10 = .bool false ∧ no = o ∧ gh = 2 * (8 - o) ∧ (o = 8 ∨ T o = none)))

set_option maxRecDepth 100000 in
set_option maxHeartbeats 2000000 in
theorem turns_walk (a : Option Addr) (len cap : Nat) (zs : List Int) (w : World) (hz : IsRow .i64 w a len cap zs) :
    Calls Try.prog 4 #[.slice a len cap] w fun e w' => e = .returned (.bool true) ∧ Upd [] w w' := by
  by_cases hl : 100 < len
  · go_enter Try.func4, Try.ntmps4
    go_wp2_with fail
    refine (fit_ok w).mono ?_
    rintro e w1 ⟨rfl, u1⟩
    go_wp2_with fail
    go_ret
    exact ⟨rfl, u1⟩
  have hl : len ≤ 100 := by omega
  have HO := Hd.mk (fun (h : 0 < len) => hz.open h)
  clear hz
  have hmm := @run_makeMap Try.prog
  go_enter Try.func4, Try.ntmps4
  go_wp2_with fail
  refine (fit_ok w).mono ?_
  rintro e w1 ⟨rfl, u1⟩
  go_wp2_with fail
  refine (new_ok 8 8 [] w1 (by decide)).mono ?_
  rintro e w2 ⟨p, r, c, rfl, hpr, hp, hr, q2, u2⟩
  have v2 := u1.trans u2 (by simp)
  have z1 : w.heap.size ≤ p := by have := u1.size; omega
  have z2 : w.heap.size ≤ r := by have := u1.size; omega
  have Y := Hd.mk (And.intro z1 z2)
  clear z1 z2 hp hr u1 u2
  go_wp2_with fail
  go_loopg [19] 8 (fun gh ii wr => ∃ (i : Nat), ii = .int .i64 i ∧ gh + i = 8 ∧ IsB wr p r 8 i 0 (fun _ => none) [] c ∧ Upd [] w wr)
  case atStart => exact ⟨0, by simp, by omega, q2, v2⟩
  case round =>
    clear q2 v2
    obtain ⟨i, rfl, hg, q, tv⟩ := hrel
    by_cases hlt : i < 8
    · go_wp2_with fail
      refine (give_room p r 8 i 0 _ [] c wr hpr (by omega) (by omega) q (by omega)).mono ?_
      rintro e w4 ⟨rfl, q4, u4⟩
      go_wp2_with fail
      go_roundg (gk - 1)
      case measure => omega
      case rel => exact ⟨i + 1, by simp, by omega, q4, tv.trans u4 (by obtain ⟨z1, z2⟩ := Y.out; intro j hj h; simp at h; omega)⟩
    · obtain rfl : i = 8 := by omega
      clear hlt hg
      go_upto_region 12 with (fail)
      refine wp_abs (fun W => IsB W p r 8 8 0 (fun _ => none) [] c ∧ Upd [] w W ∧ Mp W wr.heap.size (fun k => .int .i64 k) ([] : List (Int × Value × Nat))) ⟨q.upd ((Upd.refl [] wr).alloc _) (by simp) (by simp) (by simp), tv.alloc _, Mp.new _ _⟩ ?_
      rintro w5 ⟨q5, t5, m5⟩
      obtain ⟨mb, hmb⟩ : ∃ mb, mb = wr.heap.size := ⟨_, rfl⟩
      rw [← hmb] at m5 ⊢
      have MB := Hd.mk (show w.heap.size ≤ mb by have := tv.size; omega)
      clear hmb q tv hmm
      go_cut [28, 29, 30] (fun v ln ct W => ln = .int .i64 ((len : Int) + 8) ∧ ct = .int .i64 0 ∧ Sl W 3 1 v (len + 8) (turnL zs len) ∧ (∀ b, b ∈ ownB v → w.heap.size ≤ b) ∧ IsB W p r 8 8 0 (fun _ => none) [] c ∧ Upd [] w W ∧ Mp W mb (fun k => .int .i64 k) ([] : List (Int × Value × Nat)))
      case first =>
        by_cases h0 : 0 < len
        · obtain ⟨b, off, rfl, hb, -, -, hc, -⟩ := HO.out h0
          go_wp2_with (first
            | (at_builtin; refine wpList_append_sl rfl (.const (.slice none 0 0)) (.tmp 25) 39 rfl 3 (.int .i64 0) 1 8 Try.underlying39 (by kernel_rfl) rfl _ 0 _ rfl (Sl.nil _ _ _) ⟨b, off, none⟩ len cap (firstL zs len) rfl (by simp [firstL]) (fun j u hu => by
                rw [Addr.add_lit]
                have hj : j < len := by have := (List.getElem?_eq_some_iff.1 hu).1; simpa [firstL] using this
                rw [t5.cell (p := ⟨b, off + j, none⟩) hb (by simp), hc j hj]
                simpa [firstL, hj] using hu) (by simp [firstL, Value.oneCell']) h0 (by unfold maxLen; omega) (by omega) ?_))
          intro g1 o1 c1 w6 s6 u6 hg6 hl6
          have w56 : w5.heap.size ≤ w6.heap.size := u6.size
          have gg : w5.heap.size ≤ g1 := by simpa [ownB] using hg6
          have q6 := q5.keep u6 (by simp [ownB]) (by simp [ownB]) (by simp [ownB])
          have m6 := m5.upd u6 (by simp [ownB])
          have t6 := t5.trans u6 (by simp [ownB])
          clear u6 hg6
          go_wp2_with (first
            | (at_builtin; refine wpList_append_sl rfl (.tmp 26) (.tmp 27) 39 rfl 3 (.int .i64 0) 1 8 Try.underlying39 (by kernel_rfl) rfl _ len _ rfl (s6.alloc _) ⟨w6.heap.size, 0, none⟩ 8 8 eight rfl rfl (Blk.news (Blk.new w6 eight 3 _ rfl)) rfl (by omega) (by unfold maxLen; omega) (by omega) ?_))
          intro g2 o2 c2 w7 s7 u7 hg7 hl7
          have s6' := s6.alloc (.cells eight.toArray 3)
          have q7 := (q6.alloc (.cells eight.toArray 3)).slkeep s6' u7
          have m7 := (m6.alloc (.cells eight.toArray 3)).upd u7 (s6'.notMp (m6.alloc (.cells eight.toArray 3)))
          have tw := t5.size
          have t7 := (t6.alloc (.cells eight.toArray 3)).trans u7 (by intro j hj h; simp [ownB] at h; omega)
          have s7 := s7
          rw [turn_list] at s7
          clear u7 q6 m6 t6 s6 s6' HO q5 m5 t5
          go_wp2_with fail
          go_meet
          case rel => exact ⟨rfl, rfl, s7, by intro b hb; simp [ownB] at hb; subst hb; simp [ownB] at hg7; omega, q7, t7, m7⟩
        · obtain rfl : len = 0 := by omega
          go_wp2_with (first
            | (at_builtin; refine wpList_append_none rfl (.const (.slice none 0 0)) (.tmp 25) 39 3 rfl Try.underlying39 (by kernel_rfl) none 0 0 rfl (by omega) a cap rfl ?_; simp only [Act.put, List.setIfInBounds_toArray, List.set_cons_succ, List.set_cons_zero])
            | (at_builtin; refine wpList_append_sl rfl (.tmp 26) (.tmp 27) 39 rfl 3 (.int .i64 0) 1 8 Try.underlying39 (by kernel_rfl) rfl _ 0 _ rfl (Sl.nil _ _ _) ⟨w5.heap.size, 0, none⟩ 8 8 eight rfl rfl (Blk.news (Blk.new w5 eight 3 _ rfl)) rfl (by omega) (by unfold maxLen; omega) (by omega) ?_))
          intro g2 o2 c2 w7 s7 u7 hg7 hl7
          have q7 := (q5.alloc (.cells eight.toArray 3)).keep u7 (by simp [ownB]) (by simp [ownB]) (by simp [ownB])
          have m7 := (m5.alloc (.cells eight.toArray 3)).upd u7 (by simp [ownB])
          have t7 := (t5.alloc (.cells eight.toArray 3)).trans u7 (by simp [ownB])
          have tw := t5.size
          have s7 := s7
          rw [show eight = turnL zs 0 from turn_list zs 0] at s7
          clear u7 q5 m5 t5
          go_wp2_with fail
          go_meet
          case rel => exact ⟨rfl, rfl, s7, by intro b hb; simp [ownB] at hb; subst hb; simp [ownB] at hg7; omega, q7, t7, m7⟩
      case rest =>
        obtain ⟨rfl, rfl, s7, sb, q7, t7, m7⟩ := hcut
        obtain ⟨gv, ov, cv, rfl, hv1, hv2, -⟩ := s7.some (by omega)
        have GV := Hd.mk (show w.heap.size ≤ gv from sb gv (by simp [ownB]))
        clear sb HO
        go_wp2_with fail
        go_loopg [4, 30] (len + 8) (fun gh vo ii wr => ∃ (i o : Nat) (T : Nat → Option Rp) (c : List Value) (L : List (Int × Value × Nat)), ii = .int .i64 i ∧ gh + i = len + 8 ∧ (o = 8 ∨ T o = none) ∧ Puts o T L ∧ Dones zs len i o T ∧ Inv w wr p r mb gv (.slice (some ⟨gv, ov, none⟩) (len + 8) cv) zs len o T c L vo o)
        case atStart => exact ⟨0, 0, _, c, [], by simp, by omega, .inr rfl, by intro j hj; exact .inr ⟨rfl, by simp [Dn]⟩, by intro j n hj; omega, ⟨q7, by simp, m7, Sl.nil _ _ _, by simp [ownB], s7, t7⟩⟩
        case round =>
          clear q7 m7 s7 t7
          obtain ⟨i, o, T, c, L, rfl, hg, ho, hput, hdone, inv⟩ := hrel
          by_cases hlt : i < len + 8
          · obtain ⟨x, hx⟩ : ∃ x, x = turn zs len i := ⟨_, rfl⟩
            have hcx : wr.cell? ⟨gv, ov + i, none⟩ = some (.int .i64 x) := by
              rw [inv.lst.cell i (by omega)]
              simp [turnL, hlt, hx]
            obtain ⟨nn, hnn⟩ : ∃ n : Nat, x % 8 = n := ⟨(x % 8).toNat, by omega⟩
            have hn8 : nn < 8 := by omega
            have HX := Hd.mk hx
            have HPD := Hd.mk (And.intro hput hdone)
            have HI := Hd.mk inv
            have HOO := Hd.mk ho
            have ha : decide ((i : Int) < (len : Int) + 8) = true := by simp; omega
            clear hx hput hdone inv ho
            go_upto_region 16 with (fail)
            go_cut [45] (fun s W => s = .bool false ∧ ∃ T' c', (∀ j, Dn o T' j ↔ Dn o T j ∨ j = nn) ∧ Inv w W p r mb gv (.slice (some ⟨gv, ov, none⟩) (len + 8) cv) zs len o T' c' L u4 o)
            case first =>
              have inv := HI.out
              have hwr : IntKind.i64.wrap ((nn : Int) + 1) = (nn : Int) + 1 := by rw [IntKind.wrap_i64]; omega
              have K := keyLaw_int (P := Try.prog) (kt := 3) Try.underlying3
              have hzv : ∀ W, (zeroValue 4).run Try.prog W = .ok (.bool false) W := fun W => by kernel_rfl
              have hlk := fun (W : World) (hM : Mp W mb (fun k => .int .i64 k) L) => run_lookup_mp K 40 Try.underlying40 (.bool false) hzv hM (nn : Int) false
              have hb : IsB wr.drew p r 8 8 o T [] c := inv.buf.drewN 1
              have hM : Mp wr.drew mb (fun k => .int .i64 k) L := inv.map.drewN 1
              have hl0 := hlk _ hM
              rcases HPD.out.1 nn hn8 with ⟨hget, hD⟩ | ⟨hget, hD⟩
              · have PN : Calls Try.prog 10 #[.pointer (some ⟨p, 0, none⟩), .int .i64 nn, .agg (rs (nn + 1)).cells.toArray] wr.drew fun e w' => e = .returned (.bool false) ∧ Upd [] wr.drew w' :=
                  put_no p r 8 8 o T [] c wr.drew nn (rs (nn + 1)) (by omega) (by omega) hb (by
                    rcases hD with h | h
                    · exact .inl (by omega)
                    · by_cases ho : nn < o
                      · exact .inl (by omega)
                      · exact .inr (.inr ⟨nn, rfl, by omega, hn8, h⟩))
                rw [hget] at hlk hl0
                simp only [Option.getD_some, Bool.false_eq_true, if_false] at hlk hl0
                have PN := PN.mono (R' := fun e w' => e = .returned (.bool false) ∧ Upd [] wr.drew w' ∧ Mp w' mb (fun k => .int .i64 k) L ∧ (Instr.lookup 40 (.map (some mb)) (.int .i64 nn) false).run Try.prog w' = .ok (.bool true) w') (fun e w' h => ⟨h.1, h.2, hM.upd h.2 (by simp), hlk w' (hM.upd h.2 (by simp))⟩)
                have PN := Hd.mk PN
                clear hlk K hzv
                go_region_with (go_at_call 10; refine PN.out.mono ?_; rintro e w5 ⟨rfl, u5, m5, hl5⟩)
                all_goals
                  go_wp2_with fail
                  go_meet
                  case rel => exact ⟨rfl, T, c, fun j => ⟨Or.inl, fun h => h.elim id (fun e => e ▸ hD)⟩, inv.step ((Upd.refl [] wr).drew.trans u5 (by simp)) (by simp) (hb.upd u5 (by simp) (by simp) (by simp)) inv.val Y.out⟩
              · have hTn : T nn = none := by
                  cases h : T nn with
                  | none => rfl
                  | some x => exact absurd (.inr (by rw [h]; rfl)) hD
                have PY : Calls Try.prog 10 #[.pointer (some ⟨p, 0, none⟩), .int .i64 nn, .agg (rs (nn + 1)).cells.toArray] wr.drew fun e w' => e = .returned (.bool true) ∧ (∃ c', IsB w' p r 8 8 o (fun j => if j = nn then some (rs (nn + 1)) else T j) [] c') ∧ Upd [r] wr.drew w' :=
                  put_yes p r 8 8 o T [] c wr.drew nn (rs (nn + 1)) hpr (by simp) (by omega) (by omega) hb (by
                    apply Classical.byContradiction
                    intro h
                    exact hD (.inl (by omega))) hn8 hTn
                rw [hget] at hlk hl0
                simp only [Option.getD_none, Bool.false_eq_true, if_false] at hlk hl0
                have hMr : mb ∉ [r] := by simp; intro e; exact hM.other _ _ (e ▸ hb.ring)
                have PY := PY.mono (R' := fun e w' => e = .returned (.bool true) ∧ (∃ c', IsB w' p r 8 8 o (fun j => if j = nn then some (rs (nn + 1)) else T j) [] c') ∧ Upd [r] wr.drew w' ∧ Mp w' mb (fun k => .int .i64 k) L ∧ (Instr.lookup 40 (.map (some mb)) (.int .i64 nn) false).run Try.prog w' = .ok (.bool false) w') (fun e w' h => ⟨h.1, h.2.1, h.2.2, hM.upd h.2.2 hMr, hlk w' (hM.upd h.2.2 hMr)⟩)
                have PY := Hd.mk PY
                clear hlk K hzv
                go_region_with (go_at_call 10; refine PY.out.mono ?_; rintro e w5 ⟨rfl, q5, u5, m5, hl5⟩)
                all_goals
                  obtain ⟨c5, q5⟩ := q5
                  go_wp2_with fail
                  go_meet
                  case rel => exact ⟨rfl, _, c5, fun j => by
                    unfold Dn
                    by_cases hj : j = nn
                    · simp [hj]
                    · simp [hj], inv.step ((Upd.refl [r] wr).drew.trans u5 (by simp)) (by simp) q5 (fun j x hx => by
                    by_cases hj : j = nn
                    · simp only [hj, if_true, Option.some.injEq] at hx
                      rw [← hx, hj]
                    · simp only [hj, if_false] at hx
                      exact inv.val j x hx) Y.out⟩
            case rest =>
              obtain ⟨rfl, T', c', hD', inv⟩ := hcut
              have K := keyLaw_int (P := Try.prog) (kt := 3) Try.underlying3
              go_wp2_with (first | (refine wpList_update_mp K rfl rfl 40 (.tmp 46) (.tmp 47) (.const (.bool true)) rfl Try.underlying40 inv.map (nn : Int) (.bool true) rfl rfl rfl ?_))
              intro cb w6 m6 u6
              clear K
              have Z := Y.out
              have inv : Inv w w6 p r mb gv (.slice (some ⟨gv, ov, none⟩) (len + 8) cv) zs len o T' c' (put L (nn : Int) (.bool true) cb) u4 o :=
                ⟨inv.buf.keep u6 (by simp; intro e; exact inv.map.other _ _ (e ▸ inv.buf.head)) (by simp; intro e; exact inv.map.other _ _ (e ▸ inv.buf.ring)) (by simp; intro cs hb; exact inv.map.other _ _ hb),
                  inv.val, m6, inv.out.upd u6 (fun k hk e => inv.out.notMp inv.map (by simp at e; exact e ▸ hk)), inv.own, inv.lst.upd u6 (fun k hk e => inv.lst.notMp inv.map (by simp at e; exact e ▸ hk)), inv.upd.trans u6 (by have := MB.out; intro k hk e; simp at e; omega)⟩
              have hput : Puts o T' (put L (nn : Int) (.bool true) cb) := by
                intro j hj
                rw [get_put]
                by_cases e : j = nn
                · subst e; left; exact ⟨by simp, (hD' _).2 (.inr rfl)⟩
                · have e2 : ¬ (j : Int) = nn := by omega
                  rw [if_neg e2]
                  rcases HPD.out.1 j hj with ⟨h1, h2⟩ | ⟨h1, h2⟩
                  · exact .inl ⟨h1, (hD' _).2 (.inl h2)⟩
                  · exact .inr ⟨h1, fun h => ((hD' _).1 h).elim h2 e⟩
              have hdone : Dones zs len (i + 1) o T' := by
                intro j n hj hn
                by_cases e : j = i
                · subst e
                  rw [← HX.out, hnn] at hn
                  have : n = nn := by omega
                  subst this
                  exact (hD' _).2 (.inr rfl)
                · exact (hD' _).2 (.inl (HPD.out.2 j n (by omega) hn))
              clear m6 u6 HI HPD hD' hcx HX HOO
              have HPD := Hd.mk (And.intro hput hdone)
              clear hput hdone
              generalize hL' : put L (nn : Int) (.bool true) cb = L' at inv HPD
              clear hL'
              go_upto_region 19 with (fail)
              go_cut [9, 10] (fun s9 s10 W => ∃ gh, LoopR w W p r mb gv (.slice (some ⟨gv, ov, none⟩) (len + 8) cv) zs len o T' L' gh u4 s9 s10)
              case first =>
                have hle := inv.buf.le
                cases hT : T' o with
                | none =>
                  go_wp2_with fail
                  refine (take_none p r 8 8 o T' [] c' w6 (by omega) (by omega) inv.buf (.inr hT)).mono ?_
                  rintro e w7 ⟨rfl, u7⟩
                  simp only [Rp.zero, Rp.cells]
                  go_wp2_with fail
                  go_meet
                  case rel => exact ⟨_, o, o, w7.heap.size, c', rfl, inv.over (u7.alloc _), fun j => Iff.rfl, .inr ⟨rfl, rfl, rfl, .inr hT⟩⟩
                | some x =>
                  have hx := inv.val o x hT
                  subst hx
                  have hlt8 : o < 8 := by
                    apply Classical.byContradiction
                    intro h
                    have := inv.buf.new o (by omega)
                    rw [this] at hT; cases hT
                  go_wp2_with fail
                  refine (take_some p r 8 8 o T' [] c' w6 (rs (o + 1)) hpr (by omega) (by omega) inv.buf hlt8 hT).mono ?_
                  rintro e w7 ⟨rfl, ⟨c7, q7⟩, u7⟩
                  simp only [rs, Rp.cells]
                  go_wp2_with fail
                  go_meet
                  case rel =>
                    have inv7 := inv.step u7 (by simp) q7 inv.val Y.out
                    exact ⟨_, o + 1, o, w7.heap.size, c7, rfl, inv7.over ((Upd.refl [] w7).alloc _), Dn.take hT, .inl ⟨rfl, rfl, rfl, Blk.new w7 (rs ((o + 1 : Nat) : Int)).cells 33 _ rfl⟩⟩
              case rest =>
                clear inv
                obtain ⟨gh, hcut⟩ := hcut
                go_wp2_with fail
                go_loopg [4, 9, 10] gh (fun gh vo s9 s10 W => LoopR w W p r mb gv (.slice (some ⟨gv, ov, none⟩) (len + 8) cv) zs len o T' L' gh vo s9 s10)
                case atStart => exact hcut
                case round =>
                  clear hcut
                  obtain ⟨o1, no, rb, c1, rfl, inv, hD, hor⟩ := hrel
                  obtain ⟨ao, co, rfl⟩ := inv.out.form
                  rcases hor with ⟨rfl, hno, hgk, hrb⟩ | ⟨rfl, hno, hgk, hT⟩
                  · obtain rfl : o1 = no + 1 := by omega
                    have hle := inv.buf.le
                    have hno8 : no < 8 := by omega
                    have hrb : Blk wr rb (rs ((no : Int) + 1)).cells 33 := hrb
                    have hrb0 := hrb.cell 0
                    have hrb1 := hrb.cell 1
                    have hrb2 := hrb.cell 2
                    have hrb3 := hrb.cell 3
                    simp only [rs, Rp.cells, List.getElem?_cons_zero, List.getElem?_cons_succ] at hrb0 hrb1 hrb2 hrb3
                    have HGK := Hd.mk hgk
                    have HOWN := Hd.mk inv.own
                    clear hno hgk
                    go_wp2_with (first
                      | (at_builtin; refine wpList_append_sl rfl (.tmp 59) (.tmp 62) 39 rfl 3 (.int .i64 0) 1 8 Try.underlying39 (by kernel_rfl) rfl _ no _ rfl (inv.out.alloc _) ⟨wr.heap.size, 0, none⟩ 1 1 [.int .i64 ((no : Int) + 1)] rfl rfl (Blk.news (Blk.new wr _ _ _ rfl)) rfl (by omega) (by unfold maxLen; omega) (by omega) ?_))
                    intro g4 o4 c4 w4 s4 u4' hg4 hl4
                    have inva := inv.over ((Upd.refl [] wr).alloc (.cells #[.int .i64 ((no : Int) + 1)] 3))
                    have rb4 := u4'.blk (hrb.alloc (.cells #[.int .i64 ((no : Int) + 1)] 3)) (fun h => (inv.out.alloc _).other (by decide) rb h _ (hrb.alloc (.cells #[.int .i64 ((no : Int) + 1)] 3)))
                    have inv4 : Inv w w4 p r mb gv (.slice (some ⟨gv, ov, none⟩) (len + 8) cv) zs len (no + 1) T' c1 L' (.slice (some ⟨g4, o4, none⟩) (no + 1) c4) (no + 1) :=
                      ⟨inva.buf.slkeep inva.out u4', inv.val, inva.map.upd u4' (inva.out.notMp inva.map), by rw [outL_succ]; exact s4, by
                        intro b hb
                        simp [ownB] at hb
                        subst hb
                        rcases hg4 with h | h
                        · exact inv.own _ h
                        · have := inv.upd.size
                          have hgv := inv.lst.lt gv (by simp [ownB])
                          omega, inva.lst.upd u4' (fun k hk e => (inv.own k e).2 (by simp [ownB] at hk; exact hk)), inva.upd.trans u4' (fun k hk e => by have := (inv.own k e).1; omega)⟩
                    clear inva inv hrb hrb0 hrb1 hrb2 hrb3 u4' s4 hg4
                    have hrb0 := rb4.cell 0
                    have hrb1 := rb4.cell 1
                    have hrb2 := rb4.cell 2
                    have hrb3 := rb4.cell 3
                    simp only [rs, Rp.cells, List.getElem?_cons_zero, List.getElem?_cons_succ] at hrb0 hrb1 hrb2 hrb3
                    have hlw := inv4.buf.head.lt
                    have hrw := inv4.buf.ring.lt
                    go_wp2_with fail
                    have q4 := (inv4.buf.fresh (X' := [w4.heap.size]) (by simp)).alloc (.cells (rs ((no : Int) + 1)).cells.toArray 33)
                    have nb := Blk.new w4 (rs ((no : Int) + 1)).cells 33 w4.heap.size rfl
                    have u40 := (Upd.refl [] w4).alloc (.cells (rs ((no : Int) + 1)).cells.toArray 33)
                    cases hT : T' (no + 1) with
                    | none =>
                      refine (take_none p r 8 8 (no + 1) T' [w4.heap.size] c1 _ (by omega) (by omega) q4 (.inr hT)).mono ?_
                      rintro e w7 ⟨rfl, u7⟩
                      simp only [Rp.zero, Rp.cells]
                      go_wp2_with (refine wpList_store_blk rfl rfl 33 (.tmp 9) (.tmp 57) rfl w4.heap.size 0 Rp.zero.cells (rs ((no : Int) + 1)).cells 33 rfl rfl (u7.blk nb (by simp)) (by kernel_rfl) (by simp [Rp.len]) rfl ?_)
                      intro w8 b8 u8
                      have u := (u40.trans u7 (by simp)).trans u8 (by intro j hj h; simp at h; omega)
                      have hgk := HGK.out
                      go_wp2_with fail
                      go_roundg (2 * (8 - (no + 1)))
                      case measure => omega
                      case rel => exact ⟨no + 1, no + 1, w4.heap.size, c1, rfl, inv4.over u, hD, .inr ⟨rfl, rfl, rfl, .inr hT⟩⟩
                    | some x =>
                      have hx := inv4.val (no + 1) x hT
                      subst hx
                      have hlt8 : no + 1 < 8 := by
                        apply Classical.byContradiction
                        intro h
                        have := inv4.buf.new (no + 1) (by omega)
                        rw [this] at hT; cases hT
                      refine (take_some p r 8 8 (no + 1) T' [w4.heap.size] c1 _ _ hpr (by omega) (by omega) q4 hlt8 hT).mono ?_
                      rintro e w7 ⟨rfl, ⟨c7, q7⟩, u7⟩
                      simp only [rs, Rp.cells]
                      go_wp2_with (refine wpList_store_blk rfl rfl 33 (.tmp 9) (.tmp 57) rfl w4.heap.size 0 (rs (((no + 1 : Nat) : Int) + 1)).cells (rs ((no : Int) + 1)).cells 33 rfl rfl (u7.blk nb (by simp; omega)) (by kernel_rfl) (by simp [Rp.len]) rfl ?_)
                      intro w8 b8 u8
                      have u : Upd [p, r] w4 w8 := ((u40.mono (T := [p, r]) (by simp)).trans u7 (by intro j hj h; exact h)).trans u8 (by intro j hj h; simp at h; omega)
                      have q8 := (q7.upd u8 (by simp; omega) (by simp; omega) (by simp)).less (X' := []) (by simp)
                      have hgk := HGK.out
                      go_wp2_with fail
                      go_roundg (2 * (8 - (no + 2)) + 1)
                      case measure => omega
                      case rel => exact ⟨no + 2, no + 1, w4.heap.size, c7, rfl, inv4.step u (by simp) q8 inv4.val Y.out, fun j => (Dn.take hT j).trans (hD j), .inl ⟨rfl, rfl, rfl, b8.as (by simp [putL, rs, Rp.cells]; omega)⟩⟩
                  · have hput : Puts o1 T' L' := fun j hj => by
                      rw [hD j]; exact HPD.out.1 j hj
                    have hdone : Dones zs len (i + 1) o1 T' := fun j n hj hn => (hD n).2 (HPD.out.2 j n hj hn)
                    clear HPD hgk hD
                    go_wp2_with fail
                    go_roundg (len + 8 - (i + 1))
                    case measure => omega
                    case rel =>
                      subst hno
                      exact ⟨i + 1, _, T', c1, L', by simp, by omega, hT, hput, hdone, inv⟩
          · obtain rfl : i = len + 8 := by omega
            have ho8 : o = 8 := by
              apply Classical.byContradiction
              intro h
              have hle := inv.buf.le
              have := hdone (len + o) o (by omega) (by simp [turn]; omega)
              rcases this with h1 | h1
              · omega
              · rcases ho with h2 | h2
                · exact h h2
                · rw [h2] at h1; cases h1
            subst ho8
            clear hlt hg ho hput hdone
            obtain ⟨ao, co, rfl⟩ := inv.out.form
            go_wp2_with fail
            go_loopg [68] 8 (fun gh ii W => ∃ (j : Nat), ii = .int .i64 j ∧ gh + j = 8 ∧ W = wr)
            case atStart => exact ⟨0, by simp, by omega, rfl⟩
            case round =>
              obtain ⟨j, rfl, hg, hW⟩ := hrel
              subst hW
              by_cases hlt : j < 8
              · have hj : ((j : Int) + 1 != (j : Int) + 1) = false := by simp
                obtain ⟨go, oo, co', he, -, -, hcs⟩ := inv.out.some (by omega)
                have hcj : wr.cell? ⟨go, oo + j, none⟩ = some (.int .i64 ((j : Int) + 1)) := by
                  rw [hcs j (by omega)]; simp [outL, hlt]
                simp only [Value.slice.injEq, true_and] at he
                obtain ⟨rfl, rfl⟩ := he
                clear hcs
                go_wp2_with fail
                go_roundg (gk - 1)
                case measure => omega
                case rel => exact ⟨j + 1, by simp, by omega, rfl⟩
              · obtain rfl : j = 8 := by omega
                clear hlt hg
                go_wp2_with fail
                refine (open_ok p r 8 8 8 T [] c _ (by omega) inv.buf).mono ?_
                rintro e w7 ⟨rfl, k7, rfl⟩
                go_wp2_with fail
                refine (room_ok p r 8 8 8 T [] c _ (by omega) (by omega) (inv.buf.drewN k7)).mono ?_
                rintro e w8 ⟨rfl, k8, rfl⟩
                go_wp2_with fail
                go_ret
                exact ⟨rfl, inv.upd.drewN _⟩

theorem turns_row (a : Option Addr) (len cap : Nat) (zs : List Int) (w : World) (hz : IsRow .i64 w a len cap zs) :
    Calls Try.prog 4 #[.slice a len cap] w fun e w' => e = .returned (.bool true) ∧ Below w.heap.size w w' :=
  (turns_walk a len cap zs w hz).mono fun _ _ h => ⟨h.1, h.2.nil_below⟩
end Go.Proofs.Ytnimcjkddecdhaa
