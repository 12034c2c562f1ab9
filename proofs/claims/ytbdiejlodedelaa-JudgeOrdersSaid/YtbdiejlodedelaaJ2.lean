/- Judge: what Step does. -/
import Derived.Test.YtbdiejlodedelaaJ1
namespace Go.Proofs.Ytbdiejlodedelaa
set_option linter.unusedSimpArgs false
set_option linter.unusedVariables false
set_option linter.unnecessarySimpa false
open Go.RowKit BigFrame

/-- The map in block r has the keys and values of m, n of them. -/
def MS (w : World) (r : Nat) (m : St) (n : Nat) : Prop := ∃ L, Mp w r (fun k => .string k) L ∧ (∀ k, get L k = (m k).map .string) ∧ L.length = n
theorem MS.upd {w w' : World} {S : List Nat} {r n : Nat} {m : St} (h : MS w r m n) (hu : Upd S w w') (hr : r ∉ S) : MS w' r m n := by
  obtain ⟨L, h1, h2⟩ := h
  exact ⟨L, h1.upd hu hr, h2⟩
theorem MS.lt {w : World} {r n : Nat} {m : St} (h : MS w r m n) : r < w.heap.size := by
  obtain ⟨L, h1, h2⟩ := h
  exact h1.lt
theorem look_ss {w : World} {r : Nat} {L : List (ByteArray × Value × Nat)} (h : Mp w r (fun k => .string k) L) (k : ByteArray) {x : Option ByteArray} (hg : get L k = x.map .string) :
    (Instr.lookup 34 (.map (some r)) (.string k) true).run Try.prog w = .ok (.tuple #[.string (x.getD ⟨#[]⟩), .bool x.isSome]) w := by
  rw [run_lookup_mp (P := Try.prog) (keyLaw_string (kt := 9) Try.underlying9) 34 Try.underlying34 (.string ⟨#[]⟩) (fun W => by kernel_rfl) h k true, hg]
  cases x <;> rfl

set_option maxHeartbeats 1000000 in
theorem step_no (r n : Nat) (m : St) (o : Op) (w : World) (h : MS w r m n) (ht : o.told m = false) :
    Calls Try.prog 13 #[.map (some r), .agg o.cells.toArray] w fun e w' => e = .returned (.tuple #[.map none, .bool false]) ∧ Upd [] w w' := by
  obtain ⟨L, hm, hg, -⟩ := h
  have hL := hg o.key
  unfold Op.told at ht
  unfold Op.cells
  go_enter Try.func13, Try.ntmps13
  go_upto_region 1 with (fail)
  refine wp_abs (fun W => Upd [] w W ∧ Blk W w.heap.size o.cells 31 ∧ Mp W r (fun k => .string k) L) ⟨(Upd.refl _ _).alloc _, Blk.new w o.cells 31 _ rfl, hm.upd ((Upd.refl [] w).alloc _) (by simp)⟩ ?_
  rintro w1 ⟨u1, b1, m1⟩
  generalize w.heap.size = cb at b1 ⊢
  have c0 := b1.cell 0
  have c1 := b1.cell 1
  have c2 := b1.cell 2
  have c3 := b1.cell 3
  have c4 := b1.cell 4
  have c5 := b1.cell 5
  simp only [Op.cells, List.getElem?_cons_zero, List.getElem?_cons_succ] at c0 c1 c2 c3 c4 c5
  have hlk := look_ss m1 o.key hL
  clear hm hg hL
  cases hk : m o.key with
  | none =>
    rw [hk] at ht hlk
    cases hth : o.there with
    | true =>
      clear ht hk
      go_wp2
      go_ret2
      exact ⟨rfl, u1⟩
    | false =>
      simp [hth] at ht
      obtain ⟨hk0, hv⟩ := ht
      have hs := str_ne0 (fun e => hv e.symm)
      clear hk
      go_wp2
      go_ret2
      exact ⟨rfl, u1⟩
  | some v =>
    rw [hk] at ht hlk
    cases hth : o.there with
    | false =>
      clear ht hk
      go_wp2
      go_ret2
      exact ⟨rfl, u1⟩
    | true =>
      simp [hth] at ht
      obtain ⟨hk0, hv⟩ := ht
      have hs := str_no hv
      clear hk
      go_wp2
      go_ret2
      exact ⟨rfl, u1⟩

section
variable {κ : Type} [DecidableEq κ]
def copiedL (L F Lo : List (κ × Value × Nat)) : Prop := ∀ k, get Lo k = if k ∈ F.map (fun x => x.1) then none else get L k
theorem copiedL.start (L : List (κ × Value × Nat)) : copiedL L L [] := by
  intro k
  by_cases h : k ∈ L.map (·.1)
  · rw [if_pos h]; rfl
  · rw [if_neg h, get_none.2 h]; rfl
theorem copiedL.step {L F Lo : List (κ × Value × Nat)} (h : copiedL L F Lo) (hn : (L.map (·.1)).Nodup) {x : κ × Value × Nat} (hF : x ∈ L) (c : Nat) : copiedL L (F.filter fun y => decide (y.1 ≠ x.1)) (put Lo x.1 x.2.1 c) := by
  intro k
  rw [get_put, h k]
  by_cases e : k = x.1
  · subst e
    rw [if_pos rfl, if_neg (fun q => ((mem_short hn F).1 q).2 rfl), get_of_mem hn hF]
  · rw [if_neg e]
    by_cases q : k ∈ F.map (·.1)
    · rw [if_pos q, if_pos ((mem_short hn F).2 ⟨q, e⟩)]
    · rw [if_neg q, if_neg (fun q' => q ((mem_short hn F).1 q').1)]
theorem copiedL.done {L Lo : List (κ × Value × Nat)} (h : copiedL L [] Lo) (k : κ) : get Lo k = get L k := by
  rw [h k]; simp
omit [DecidableEq κ] in
theorem Mp.nodup {w : World} {r : Nat} {kv : κ → Value} {L : List (κ × Value × Nat)} (h : Mp w r kv L) : (L.map (·.1)).Nodup := by
  obtain ⟨_, _, h, _⟩ := h; exact h
end

/-- What Step leaves where an op is answered so. -/
def Stept (w : World) (r : Nat) (m : St) (o : Op) (e : Ending) (w' : World) : Prop :=
  ∃ r' n', e = .returned (.tuple #[.map (some r'), .bool true]) ∧ (r' = r ∨ w.heap.size ≤ r') ∧ MS w' r' (o.after m) n' ∧ Upd [] w w'

set_option maxHeartbeats 1000000 in
theorem step_yes (r n : Nat) (m : St) (o : Op) (w : World) (h : MS w r m n) (ht : o.told m = true) :
    Calls Try.prog 13 #[.map (some r), .agg o.cells.toArray] w (Stept w r m o) := by
  have hms := h
  obtain ⟨L, hm, hg, -⟩ := h
  have hL := hg o.key
  unfold Op.told at ht
  unfold Op.cells
  have hmm := @run_makeMap Try.prog
  go_enter Try.func13, Try.ntmps13
  go_upto_region 1 with (fail)
  refine wp_abs (fun W => Upd [] w W ∧ Blk W w.heap.size o.cells 31 ∧ Mp W r (fun k => .string k) L) ⟨(Upd.refl _ _).alloc _, Blk.new w o.cells 31 _ rfl, hm.upd ((Upd.refl [] w).alloc _) (by simp)⟩ ?_
  rintro w1 ⟨u1, b1, m1⟩
  obtain ⟨cb, hcb⟩ : ∃ cb, cb = w.heap.size := ⟨_, rfl⟩
  rw [← hcb] at b1 ⊢
  have HCB := Hd.mk hcb
  clear hcb
  have c0 := b1.cell 0
  have c1 := b1.cell 1
  have c2 := b1.cell 2
  have c3 := b1.cell 3
  have c4 := b1.cell 4
  have c5 := b1.cell 5
  simp only [Op.cells, List.getElem?_cons_zero, List.getElem?_cons_succ] at c0 c1 c2 c3 c4 c5
  have hlk := look_ss m1 o.key hL
  obtain ⟨v, hv⟩ : ∃ v, (m o.key).getD ⟨#[]⟩ = v := ⟨_, rfl⟩
  simp only [Bool.and_eq_true, beq_iff_eq, Bool.or_eq_true, bne_iff_ne, decide_eq_true_eq] at ht
  obtain ⟨ht1, ht2⟩ := ht
  rw [hv] at ht2
  rw [hv, ht1] at hlk
  have HK := Hd.mk ht1
  have HG := Hd.mk hg
  have HM := Hd.mk hms
  clear hm hg hL hms hv ht1
  by_cases k0 : o.kind = 0
  · have hfin : Hd (o.after m = m) := Hd.mk (by unfold Op.after; rw [if_pos (.inl k0)])
    have hs := str_yes (ht2.resolve_left (fun h => h k0))
    have hb : (o.there != o.there) = false := by simp
    clear ht2 hmm
    go_wp2
    go_ret2
    exact ⟨r, n, rfl, .inl rfl, by rw [hfin.out]; exact HM.out.upd u1 (by simp), u1⟩
  have k0' : (o.kind == 0) = false := by simpa using k0
  clear ht2
  by_cases k2 : o.kind = 2 ∧ o.there = false
  · obtain ⟨k2, kt⟩ := k2
    have hfin : Hd (o.after m = m) := Hd.mk (by unfold Op.after; rw [if_pos (.inr ⟨k2, by rw [HK.out, kt]⟩)])
    clear hmm
    go_wp2
    go_ret2
    exact ⟨r, n, rfl, .inl rfl, by rw [hfin.out]; exact HM.out.upd u1 (by simp), u1⟩
  have hafter : Hd (o.after m = if o.kind = 1 then m.put o.key o.val else m.del o.key) := Hd.mk (by unfold Op.after; rw [if_neg (by rw [HK.out]; simp only [not_or]; exact ⟨k0, k2⟩)])
  go_upto_region 4 with (fail)
  go_cut [44] (fun s W => s = .bool false ∧ W = w1)
  case first =>
    by_cases q : o.kind = 2
    · have hq : o.there = true := by
        cases hq : o.there with
        | true => rfl
        | false => exact absurd ⟨q, hq⟩ k2
      clear k2 hmm
      go_wp2
      go_meet
      case rel => exact ⟨rfl, rfl⟩
    · clear k2 hmm
      have q' : (o.kind == 2) = false := by simpa using q
      go_wp2
      go_meet
      case rel => exact ⟨rfl, rfl⟩
  case rest =>
  obtain ⟨rfl, rfl⟩ := hcut
  clear k2 k0
  go_upto_region 7 with (fail)
  have m2 := Mp.new wc (fun k : ByteArray => Value.string k)
  refine wp_abs (fun W => Upd [] w W ∧ Blk W cb o.cells 31 ∧ Mp W r (fun k => .string k) L ∧ Mp W wc.heap.size (fun k => .string k) ([] : List (ByteArray × Value × Nat))) ⟨u1.alloc _, b1.alloc _, m1.upd ((Upd.refl [] wc).alloc _) (by simp), m2⟩ ?_
  have HU := Hd.mk u1
  have RO := Hd.mk (show wc.heap.size ≠ r by have := m1.lt; omega)
  have HO := Hd.mk (show w.heap.size ≤ wc.heap.size from u1.size)
  clear m1 u1 b1 c0 c1 c2 c3 c4 c5 m2 hmm hlk
  rintro w2 ⟨u2, b2, m2, n2⟩
  obtain ⟨ob, hob⟩ : ∃ ob, ob = wc.heap.size := ⟨_, rfl⟩
  rw [← hob] at n2 HO RO ⊢
  clear hob
  obtain ⟨w3, hrun, r3, u3⟩ := run_range_mp (P := Try.prog) Try.underlying34 m2
  have i3 := n2.upd u3 (by simp)
  have U3 := u2.trans u3 (by simp)
  have b3 := u3.blk b2 (by simp)
  have ni : ob < w2.heap.size := n2.lt
  have hw : w.heap.size ≤ w2.heap.size := u2.size
  obtain ⟨it, hit⟩ : ∃ it, it = w2.heap.size := ⟨_, rfl⟩
  rw [← hit] at r3 hrun ni hw
  clear hit m2 n2 u2 b2 u3
  have NE := Hd.mk (show it ≠ ob by omega)
  have IT := Hd.mk (show w.heap.size ≤ it by omega)
  go_wp2
  go_loopg [9, 10] L.length (fun g _ _ wr => ∃ F Lo, Hd (g = F.length) ∧ Rng wr it r (fun k => .string k) L F ∧ Mp wr ob (fun k => .string k) Lo ∧ Hd (copiedL L F Lo) ∧ Upd [] w wr ∧ Blk wr cb o.cells 31)
  case atStart => exact ⟨L, [], Hd.mk rfl, r3, i3, Hd.mk (copiedL.start L), U3, b3⟩
  case round =>
    clear r3 i3 U3 b3 hrun
    obtain ⟨F, Lo, HGh, rr, im, HC, ur, br⟩ := hrel
    rcases run_next_mp (P := Try.prog) rr with ⟨rfl, hrun⟩ | ⟨x, w4, hx, hrun, r4, u4, hen⟩
    · have HF := Hd.mk (fun k => HC.out.done k)
      have c0 := br.cell 0
      have c1 := br.cell 1
      have c2 := br.cell 2
      have c3 := br.cell 3
      have c4 := br.cell 4
      have c5 := br.cell 5
      simp only [Op.cells, List.getElem?_cons_zero, List.getElem?_cons_succ] at c0 c1 c2 c3 c4 c5
      have ho := im.lt
      by_cases k1 : o.kind = 1
      · obtain ⟨c, w5, hup, m5, u5⟩ := run_update_mp (P := Try.prog) (keyLaw_string (kt := 9) Try.underlying9) 34 Try.underlying34 im o.key (.string o.val)
        have U5 := Hd.mk (ur.trans u5 (by intro k hk h; have := HO.out; simp at h; omega))
        have M5 := Hd.mk m5
        clear u5 m5 ur br im
        go_wp2
        go_ret2
        refine ⟨ob, _, rfl, .inr HO.out, ⟨_, M5.out, fun k => ?_, rfl⟩, U5.out⟩
        rw [hafter.out, if_pos k1, get_put, HF.out k, HG.out k]
        unfold St.put
        split <;> rfl
      · have k1' : (o.kind == 1) = false := by simpa using k1
        obtain ⟨w5, hup, m5, u5⟩ := run_delete_mp (P := Try.prog) (keyLaw_string (kt := 9) Try.underlying9) 34 9 0 Try.underlying34 im o.key
        have U5 := Hd.mk (ur.trans u5 (by intro k hk h; have := HO.out; simp at h; omega))
        have M5 := Hd.mk m5
        clear u5 m5 ur br im
        go_wp2
        go_ret2
        refine ⟨ob, _, rfl, .inr HO.out, ⟨_, M5.out, fun k => ?_, rfl⟩, U5.out⟩
        rw [hafter.out, if_neg k1, get_del, HF.out k, HG.out k]
        unfold St.del
        split <;> rfl
    · have hxL := rr.sub x hx
      obtain ⟨v, hv⟩ : ∃ v, x.2.1 = .string v := by
        have := HG.out x.1
        rw [get_of_mem rr.mp.nodup hxL] at this
        cases hm : m x.1 with
        | none => rw [hm] at this; cases this
        | some v => rw [hm] at this; exact ⟨v, by simpa using this⟩
      have i4 := im.upd u4 (by intro h; simp at h; exact NE.out h.symm)
      obtain ⟨c, w5, hup, m5, u5⟩ := run_update_mp (P := Try.prog) (keyLaw_string (kt := 9) Try.underlying9) 34 Try.underlying34 i4 x.1 x.2.1
      rw [hv] at hup
      have q1 : ob ≠ r := RO.out
      have U5 := Hd.mk ((ur.trans u4 (by intro k hk h; have := IT.out; simp at h; omega)).trans u5 (by intro k hk h; have := HO.out; simp at h; omega))
      have M5 := Hd.mk m5
      have R5 := Hd.mk (r4.upd u5 (by simp; exact NE.out) (by simp; exact fun e => q1 e.symm))
      have B5 := Hd.mk ((u4.blk br (by simp; exact fun e => rr.notBlk _ _ (e ▸ br))).of_eq (u5.block cb (by have := br.lt; have := u4.size; omega) (by simp; exact fun e => im.other _ _ (e ▸ br))))
      have N5 := Hd.mk (HC.out.step rr.mp.nodup hxL c)
      have S5 := Hd.mk (filter_short hx)
      clear u5 m5 ur br im u4 r4 i4 q1
      go_wp2
      go_roundg (F.filter fun y => decide (y.1 ≠ x.1)).length
      case measure => have := HGh.out; have := S5.out; omega
      case rel => exact ⟨_, _, Hd.mk rfl, R5.out, M5.out, N5.out, U5.out, B5.out⟩
end Go.Proofs.Ytbdiejlodedelaa
