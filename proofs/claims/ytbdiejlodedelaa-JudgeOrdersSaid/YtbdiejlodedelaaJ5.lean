/- Judge: the search. -/
import Derived.Test.YtbdiejlodedelaaJ4
namespace Go.Proofs.Ytbdiejlodedelaa
set_option linter.unusedSimpArgs false
set_option linter.unusedVariables false
set_option linter.unnecessarySimpa false
open Go.RowKit BigFrame

def nameB (O : Nat → Op) (n t : Nat) (m : St) : ByteArray := ⟨((nm O n t m).map UInt8.ofNat).toArray⟩
theorem nm_lt (O : Nat → Op) (n t : Nat) (m : St) (hn : n ≤ 12) : ∀ x ∈ nm O n t m, x < 256 := by
  intro x hx
  unfold nm at hx
  simp only [List.mem_append, List.mem_cons, List.not_mem_nil, or_false, List.mem_flatMap, List.mem_range] at hx
  rcases hx with (rfl | rfl) | ⟨i, hi, hx⟩
  · omega
  · omega
  · unfold word at hx
    split at hx
    · simp at hx; omega
    · rw [List.mem_append] at hx
      rcases hx with hx | hx
      · split at hx
        · rename_i j hj
          have := List.mem_of_find?_eq_some hj
          simp at hx this
          omega
        · simp at hx
      · simp at hx; omega
theorem bytes_inj : ∀ {l l' : List Nat}, (∀ x ∈ l, x < 256) → (∀ x ∈ l', x < 256) → l.map UInt8.ofNat = l'.map UInt8.ofNat → l = l'
  | [], [], _, _, _ => rfl
  | [], _ :: _, _, _, h => by simp at h
  | _ :: _, [], _, _, h => by simp at h
  | x :: l, y :: l', hx, hy, h => by
    simp only [List.map_cons, List.cons.injEq] at h
    have e1 := congrArg UInt8.toNat h.1
    rw [UInt8.toNat_ofNat_of_lt' (hx x (by simp)), UInt8.toNat_ofNat_of_lt' (hy y (by simp))] at e1
    rw [e1, bytes_inj (fun z hz => hx z (by simp [hz])) (fun z hz => hy z (by simp [hz])) h.2]
theorem nameB_inj {O : Nat → Op} {n t t' : Nat} {m m' : St} (hn : n ≤ 12) (ht : t < 65536) (ht' : t' < 65536) (hr : Reg O n m) (hr' : Reg O n m') (h : nameB O n t m = nameB O n t' m') : t = t' ∧ Alike O n m m' := by
  unfold nameB at h
  have h : ((nm O n t m).map UInt8.ofNat).toArray = ((nm O n t' m').map UInt8.ofNat).toArray := by injection h
  have h := congrArg Array.toList h
  simp only [List.toList_toArray] at h
  exact nm_inj O n ht ht' hr hr' (bytes_inj (nm_lt O n t m hn) (nm_lt O n t' m' hn) h)

/-- Places that are told dead are. -/
def Dead (O : Nat → Op) (n : Nat) (L : List (ByteArray × Value × Nat)) : Prop :=
  ∀ key, get L key = none ∨ (get L key = some (.bool true) ∧ ∃ t m, Reg O n m ∧ t < 2 ^ n ∧ key = nameB O n t m ∧ srch O n (left n t).length t m = none)
theorem Dead.nil (O : Nat → Op) (n : Nat) : Dead O n [] := fun _ => .inl rfl
theorem Dead.hit {O : Nat → Op} {n t : Nat} {m : St} {L : List (ByteArray × Value × Nat)} (h : Dead O n L) (hn : n ≤ 12) (ht : t < 2 ^ n) (hr : Reg O n m) : get L (nameB O n t m) = none ∨ (get L (nameB O n t m) = some (.bool true) ∧ srch O n (left n t).length t m = none) := by
  rcases h (nameB O n t m) with h | ⟨h, t', m', hr', ht', hk, hs⟩
  · exact .inl h
  · have h2 : 2 ^ n ≤ 4096 := Nat.pow_le_pow_right (n := 2) (by omega) hn
    obtain ⟨rfl, ha⟩ := nameB_inj hn (by omega) (by omega) hr hr' hk
    exact .inr ⟨h, by rw [srch_alike O n _ _ _ _ ha]; exact hs⟩
theorem Dead.put {O : Nat → Op} {n t : Nat} {m : St} {L : List (ByteArray × Value × Nat)} (h : Dead O n L) (ht : t < 2 ^ n) (hr : Reg O n m) (hs : srch O n (left n t).length t m = none) (c : Nat) : Dead O n (put L (nameB O n t m) (.bool true) c) := by
  intro key
  rw [get_put]
  by_cases e : key = nameB O n t m
  · rw [if_pos e]
    exact .inr ⟨rfl, t, m, hr, ht, e, hs⟩
  · rw [if_neg e]
    exact h key

theorem Sl.notMp {w : World} {κ : Type} [DecidableEq κ] {e : TypeId} {sz : Nat} {v : Value} {n r : Nat} {xs : List Value} {kv : κ → Value} {L : List (κ × Value × Nat)} (hs : Sl w e sz v n xs) (h : Mp w r kv L) : r ∉ ownB v := by
  intro hr
  rcases hs.2 with ⟨rfl, _⟩ | ⟨g, o, cap, cur, rfl, hb, _⟩
  · simp [ownB] at hr
  · simp [ownB] at hr; subst hr; exact h.other _ _ hb

/-- The search at p: its ops, its way, the dead places; all of it made since w0. -/
structure Se (w0 w : World) (p d : Nat) (a : Option Addr) (n cap : Nat) (O : Nat → Op) (v : Value) (way : List Nat) (L : List (ByteArray × Value × Nat)) : Prop where
  head : Blk w p [.slice a n cap, v, .map (some d)] 46
  way : Bld w0 w 3 1 v way.length (way.map fun i : Nat => Value.int .i64 i)
  dead : Mp w d (fun k => .string k) L
  ok : Dead O n L
  hp : w0.heap.size ≤ p
  hd : w0.heap.size ≤ d
theorem Se.over {w0 w w' : World} {p d : Nat} {a : Option Addr} {n cap : Nat} {O : Nat → Op} {v : Value} {way : List Nat} {L : List (ByteArray × Value × Nat)} (h : Se w0 w p d a n cap O v way L) (u : Upd [] w w') : Se w0 w' p d a n cap O v way L where
  head := u.blk h.head (by simp)
  way := h.way.over u
  dead := h.dead.upd u (by simp)
  ok := h.ok
  hp := h.hp
  hd := h.hd

/-- What on leaves. -/
def Ond (O : Nat → Op) (n f t : Nat) (m : St) (w0 w : World) (p d : Nat) (a : Option Addr) (cap : Nat) (v : Value) (way : List Nat) (e : Ending) (w' : World) : Prop :=
  (∃ l, srch O n f t m = some l ∧ e = .returned (.bool true) ∧ ∃ v' L', Se w0 w' p d a n cap O v' (way ++ l) L') ∨
  (srch O n f t m = none ∧ e = .returned (.bool false) ∧ ∃ v' L', Se w0 w' p d a n cap O v' way L' ∧ Upd (p :: d :: ownB v) w w' ∧ ∀ k, k ∈ ownB v' → k ∈ ownB v ∨ w.heap.size ≤ k)

theorem wrap_pow {i : Nat} (h : i ≤ 12) : wrap64 ((2 : Int) ^ i) = ((2 ^ i : Nat) : Int) := by
  have h1 : 2 ^ i ≤ 4096 := Nat.pow_le_pow_right (n := 2) (by omega) h
  have h2 : ((2 : Int) ^ i) = ((2 ^ i : Nat) : Int) := by push_cast; rfl
  rw [h2]
  generalize 2 ^ i = X at *
  unfold wrap64
  omega
theorem se_push {w0 w wr w8 : World} {p d r r' : Nat} {a : Option Addr} {n cap k n' i : Nat} {O : Nat → Op} {m m' : St} {v v' : Value} {way : List Nat} {L : List (ByteArray × Value × Nat)} {v2 : Value} (hs : Se w0 wr p d a n cap O v' way L) (hm : MS wr r m k) (hm' : MS wr r' m' n') (hu : Upd (p :: d :: ownB v) w wr)
    (hrd : r ≠ d) (hrd' : r' ≠ d) (ho : ∀ k, k ∈ ownB v' → k ∈ ownB v ∨ w.heap.size ≤ k) (s8 : Sl w8 3 1 v2 (way.length + 1) ((way.map fun i : Nat => Value.int .i64 i) ++ [.int .i64 i])) (u8 : Upd (ownB v') wr w8) (o8 : ∀ k, k ∈ ownB v2 → k ∈ ownB v' ∨ wr.heap.size ≤ k) :
    Se w0 (w8.setCell ⟨p, 1, none⟩ v2) p d a n cap O v2 (way ++ [i]) L ∧ MS (w8.setCell ⟨p, 1, none⟩ v2) r m k ∧ MS (w8.setCell ⟨p, 1, none⟩ v2) r' m' n' ∧ Upd (p :: d :: ownB v) w (w8.setCell ⟨p, 1, none⟩ v2) ∧ (∀ k, k ∈ ownB v2 → k ∈ ownB v ∨ w.heap.size ≤ k) := by
  have np : p ∉ ownB v' := fun e => hs.way.sl.other (by decide) p e _ hs.head
  have nd : d ∉ ownB v' := hs.way.sl.notMp hs.dead
  have pd : p ≠ d := fun e => hs.dead.other _ _ (e ▸ hs.head)
  have us : Upd [p] w8 (w8.setCell ⟨p, 1, none⟩ v2) := (Upd.refl _ _).set _ _ (by simp)
  have np2 : p ∉ ownB v2 := by
    intro e
    rcases o8 p e with h | h
    · exact np h
    · have := hs.head.lt; omega
  have hh := (u8.blk hs.head np).set 1 v2
  have mm : ∀ {r : Nat} {m : St} {k : Nat}, MS wr r m k → r ≠ d → MS (w8.setCell ⟨p, 1, none⟩ v2) r m k := by
    intro r m k h hrd
    have h1 : r ∉ ownB v' := by obtain ⟨_, hmp, -⟩ := h; exact hs.way.sl.notMp hmp
    have h2 : r ≠ p := by
      obtain ⟨_, hmp, -⟩ := h
      exact fun e => hmp.other _ _ (e ▸ hs.head)
    exact (h.upd u8 h1).upd us (by simpa using h2)
  have hsz := hu.size
  refine ⟨⟨hh.as rfl, ⟨?_, ?_, ?_⟩, (hs.dead.upd u8 nd).upd us (by simpa using pd.symm), hs.ok, hs.hp, hs.hd⟩, mm hm hrd, mm hm' hrd', ?_, ?_⟩
  · have := s8.upd us (fun k hk e => by simp at e; exact np2 (e ▸ hk))
    simpa using this
  · intro k hk
    have := hs.way.upd.size
    rcases o8 k hk with h | h
    · exact hs.way.own k h
    · omega
  · refine (hs.way.upd.trans u8 (fun k hk h1 => by have := hs.way.own k h1; omega)).trans us (fun k hk h1 => by simp at h1; have := hs.hp; omega)
  · refine (hu.trans u8 (fun k hk h1 => ?_)).trans us (fun k hk h1 => by simp at h1; simp [h1])
    rcases ho k h1 with h | h
    · simp [h]
    · omega
  · intro k hk
    rcases o8 k hk with h | h
    · exact ho k h
    · right; omega

theorem se_pop {w0 w9 : World} {p d i : Nat} {a : Option Addr} {n cap nq : Nat} {O : Nat → Op} {v3 v4 : Value} {way : List Nat} {L : List (ByteArray × Value × Nat)} (hs : Se w0 w9 p d a n cap O v3 (way ++ [i]) L)
    (s4 : Sl w9 3 1 v4 way.length ((way ++ [i]).map (fun i : Nat => Value.int .i64 i) |>.take (way.length * 1))) (o4 : ownB v4 = ownB v3) : Se w0 ((w9.drewN nq).setCell ⟨p, 1, none⟩ v4) p d a n cap O v4 way L ∧ Upd [p] w9 ((w9.drewN nq).setCell ⟨p, 1, none⟩ v4) := by
  have us : Upd [p] w9 ((w9.drewN nq).setCell ⟨p, 1, none⟩ v4) := ((Upd.refl _ _).drewN _).set _ _ (by simp)
  have np : p ∉ ownB v3 := fun e => hs.way.sl.other (by decide) p e _ hs.head
  have pd : p ≠ d := fun e => hs.dead.other _ _ (e ▸ hs.head)
  refine ⟨⟨((hs.head.drewN nq).set 1 v4).as rfl, ⟨?_, ?_, ?_⟩, hs.dead.upd us (by simpa using pd.symm), hs.ok, hs.hp, hs.hd⟩, us⟩
  · have := s4.upd us (fun k hk e => by simp at e; rw [o4] at hk; exact np (e ▸ hk))
    simpa using this
  · intro k hk
    rw [o4] at hk
    exact hs.way.own k hk
  · exact hs.way.upd.trans us (fun k hk h1 => by simp at h1; have := hs.hp; omega)

set_option maxHeartbeats 2000000 in
theorem on_ok (O : Nat → Op) (n : Nat) (a : Option Addr) (cap p d : Nat) (w0 : World) (hn : n ≤ 12) (hR : Rd w0 a n O) :
    ∀ (f t : Nat) (m : St) (r k : Nat) (v : Value) (way : List Nat) (L : List (ByteArray × Value × Nat)) (w : World), Se w0 w p d a n cap O v way L → MS w r m k → r ≠ d → Reg O n m → t < 2 ^ n → (left n t).length = f → way.length + f ≤ 12 →
    Calls Try.prog 14 #[.pointer (some ⟨p, 0, none⟩), .int .i64 t, .map (some r)] w (Ond O n f t m w0 w p d a cap v way) := by
  have h2 : 2 ^ n ≤ 4096 := Nat.pow_le_pow_right (n := 2) (by omega) hn
  have HR := Hd.mk hR
  clear hR
  obtain ⟨N, hN⟩ : ∃ N : Nat, N = 2 ^ n := ⟨_, rfl⟩
  have N1 : 1 ≤ N := by rw [hN]; exact Nat.one_le_two_pow
  rw [← hN] at h2
  have hw64 : wrap64 ((2 : Int) ^ n) = (N : Int) := by
    have : ((2 : Int) ^ n) = ((2 ^ n : Nat) : Int) := by push_cast; rfl
    rw [this, ← hN]
    unfold wrap64
    omega
  have HN := Hd.mk hN
  clear hN
  intro f
  induction f with
  | zero =>
    intro t m r k v way L w hS hm hrd hreg ht hf hw
    have he : t = N - 1 := by rw [HN.out]; exact (left_all n ht).1 (List.eq_nil_of_length_eq_zero hf)
    have htt : ((t : Int) == (N : Int) - 1) = true := by simp; omega
    have HS := Hd.mk hS
    have HE := Hd.mk (srch_all O n 0 t m (by rw [← HN.out]; exact he))
    have h1 := hS.head
    have c0 := h1.cell 0
    have c1 := h1.cell 1
    have c2 := h1.cell 2
    simp only [List.getElem?_cons_zero, List.getElem?_cons_succ] at c0 c1 c2
    clear hS hm hreg ht hf h1 he
    go_enter Try.func14, Try.ntmps14
    go_wp2_with fail
    go_ret
    exact .inl ⟨[], HE.out, rfl, v, L, by simpa using HS.out⟩
  | succ f ih =>
    intro t m r k v way L w hS hm hrd hreg ht hf hw
    have IH := Hd.mk ih
    clear ih
    have hne : t ≠ N - 1 := by
      intro e
      rw [HN.out] at e
      rw [(left_all n ht).2 e] at hf
      simp at hf
    have HNE := Hd.mk hne
    have htt : ((t : Int) == (N : Int) - 1) = false := by simp; omega
    have HS := Hd.mk hS
    have HM := Hd.mk hm
    have HREG := Hd.mk hreg
    have HT := Hd.mk ht
    have HF := Hd.mk hf
    have ht4 : t < 4096 := by rw [← HN.out] at ht; omega
    have h1 := hS.head
    have c0 := h1.cell 0
    have c1 := h1.cell 1
    have c2 := h1.cell 2
    simp only [List.getElem?_cons_zero, List.getElem?_cons_succ] at c0 c1 c2
    have HW := Hd.mk hw64
    clear hS hm hreg ht hf hne h1
    go_enter Try.func14, Try.ntmps14
    go_wp2_with fail
    refine (name_ok p d r k a n cap v O t m w HS.out.head (HR.out.upd HS.out.way.upd) HM.out hn ht4).mono ?_
    rintro e w1 ⟨rfl, u1⟩
    rw [show (⟨((nm O n t m).map UInt8.ofNat).toArray⟩ : ByteArray) = nameB O n t m from rfl]
    have s1 := HS.out.over u1
    have m1 := HM.out.upd u1 (by simp)
    have hlk := run_lookup_mp (P := Try.prog) (keyLaw_string (kt := 9) Try.underlying9) 44 Try.underlying44 (.bool false) (fun W => by kernel_rfl) s1.dead (nameB O n t m) false
    have h1 := s1.head
    clear c0 c1 c2 htt hw64
    have c0 := h1.cell 0
    have c1 := h1.cell 1
    have c2 := h1.cell 2
    simp only [List.getElem?_cons_zero, List.getElem?_cons_succ] at c0 c1 c2
    rcases s1.ok.hit hn HT.out HREG.out with hit | ⟨hit, hsr⟩
    · rw [hit] at hlk
      have S1 := Hd.mk (And.intro s1 m1)
      have U1 := Hd.mk u1
      have HNE : Hd (srch O n (f + 1) t m = from_ O n f t m 0) := Hd.mk (srch_from O n f t m (by rw [← HN.out]; exact HNE.out))
      clear hit s1 m1 h1 u1
      go_wp2_with fail
      go_loopg [36] n (fun g ii wr => ∃ (i : Nat) (v' : Value) (L' : List (ByteArray × Value × Nat)), ii = .int .i64 i ∧ g + i = n ∧ Se w0 wr p d a n cap O v' way L' ∧ MS wr r m k ∧ Upd (p :: d :: ownB v) w wr ∧ (∀ k, k ∈ ownB v' → k ∈ ownB v ∨ w.heap.size ≤ k) ∧ Hd (srch O n (f + 1) t m = from_ O n f t m i))
      case atStart => exact ⟨0, v, L, rfl, by omega, S1.out.1, S1.out.2, U1.out.mono (by simp), fun k hk => .inl hk, HNE⟩
      case round =>
        clear c0 c1 c2 hlk S1 U1 HNE
        obtain ⟨i, v', L', rfl, hg, sr, mr, ur, orr, HQ⟩ := hrel
        by_cases hlt : i < n
        · obtain ⟨b, off, rfl, hb, c0, c1, c2, c3, c4, c5⟩ := (HR.out.upd sr.way.upd).at i hlt
          have h1 := sr.head
          have HG := Hd.mk hg
          have HOR := Hd.mk orr
          have HI := Hd.mk (And.intro sr (And.intro mr ur))
          have q0 := h1.cell 0
          have q1 := h1.cell 1
          have q2 := h1.cell 2
          simp only [List.getElem?_cons_zero, List.getElem?_cons_succ] at q0 q1 q2
          clear h1 hg sr mr ur orr
          go_upto_region 9 with (fail)
          obtain ⟨sr, mr, ur⟩ := HI.out
          have al := (Upd.refl [] wr).alloc (.cells (O i).cells.toArray 31)
          refine wp_abs (fun W => Se w0 W p d (some ⟨b, off, none⟩) n cap O v' way L' ∧ MS W r m k ∧ Upd (p :: d :: ownB v) w W ∧ wr.heap.size ≤ W.heap.size ∧ Blk W wr.heap.size (O i).cells 31) ⟨sr.over al, mr.upd al (by simp), ur.trans al (by simp), al.size, Blk.new wr (O i).cells 31 _ rfl⟩ ?_
          clear c0 c1 c2 c3 c4 c5 q0 q1 q2 HI sr mr ur al
          rintro w5 ⟨sr, mr, ur, hsz, tb⟩
          have HA := Hd.mk (And.intro sr (And.intro mr (And.intro ur tb)))
          obtain ⟨cb, hcb⟩ : ∃ cb, cb = wr.heap.size := ⟨_, rfl⟩
          rw [← hcb] at tb HA hsz ⊢
          clear hcb
          clear sr mr ur tb hsz
          go_wp2_with fail
          refine (may_ok p d _ n cap v' O t i w5 HA.out.1.head (HR.out.upd HA.out.1.way.upd) hn hlt).mono ?_
          rintro e w6 ⟨rfl, u6⟩
          have HB := Hd.mk (And.intro (HA.out.1.over u6) (And.intro (HA.out.2.1.upd u6 (by simp)) (And.intro (HA.out.2.2.1.trans u6 (by simp)) (u6.blk HA.out.2.2.2 (by simp)))))
          clear u6 HA
          cases hmay : may O n t i with
          | false =>
            have HF1 := Hd.mk (from_no O n f t m i hlt (by rw [hmay]; rfl))
            clear hmay
            go_wp2
            go_roundg (gk - 1)
            case measure => have := HG.out; omega
            case rel => exact ⟨i + 1, v', L', by go_num, by have := HG.out; omega, HB.out.1, HB.out.2.1, HB.out.2.2.1, HOR.out, Hd.mk (HQ.out.trans HF1.out)⟩
          | true =>
            have tb := HB.out.2.2.2
            have c0 := tb.cell 0
            have c1 := tb.cell 1
            have c2 := tb.cell 2
            have c3 := tb.cell 3
            have c4 := tb.cell 4
            have c5 := tb.cell 5
            simp only [Op.cells, List.getElem?_cons_zero, List.getElem?_cons_succ] at c0 c1 c2 c3 c4 c5
            clear tb
            have HMAY := Hd.mk hmay
            clear hmay
            go_wp2_with fail
            cases htold : (O i).told m with
            | false =>
              refine (step_no r k m (O i) w6 HB.out.2.1 htold).mono ?_
              rintro e w7 ⟨rfl, u7⟩
              have HF1 := Hd.mk (from_no O n f t m i hlt (by rw [htold]; simp))
              have HC := Hd.mk (And.intro (HB.out.1.over u7) (And.intro (HB.out.2.1.upd u7 (by simp)) (HB.out.2.2.1.trans u7 (by simp))))
              clear u7 htold HB c0 c1 c2 c3 c4 c5
              go_wp2
              go_roundg (gk - 1)
              case measure => have := HG.out; omega
              case rel => exact ⟨i + 1, v', L', by go_num, by have := HG.out; omega, HC.out.1, HC.out.2.1, HC.out.2.2, HOR.out, Hd.mk (HQ.out.trans HF1.out)⟩
            | true =>
              refine (step_yes r k m (O i) w6 HB.out.2.1 htold).mono ?_
              rintro e w7 ⟨r', n', rfl, hr', m', u7⟩
              have HC := Hd.mk (And.intro (HB.out.1.over u7) (And.intro (HB.out.2.1.upd u7 (by simp)) (HB.out.2.2.1.trans u7 (by simp))))
              have HM' := Hd.mk m'
              have HRD' := Hd.mk (show r' ≠ d by have := HB.out.1.dead.lt; rcases hr' with h | h; exact h ▸ hrd; omega)
              have HTD := Hd.mk htold
              have hc1 := HC.out.1.head
              have hsl := HC.out.1.way.sl
              clear u7 htold c0 c1 c2 c3 c4 c5 m' hr'
              have q0 := hc1.cell 0
              have q1 := hc1.cell 1
              have q2 := hc1.cell 2
              simp only [List.getElem?_cons_zero, List.getElem?_cons_succ] at q0 q1 q2
              clear hc1
              go_wp2_with (at_builtin; refine wpList_append_row rfl (.tmp 58) (.tmp 60) 25 rfl rfl 3 (.int .i64 0) 1 8 Try.underlying25 (by kernel_rfl) rfl _ _ _ rfl hsl [.int .i64 i] rfl rfl rfl (by omega) (by omega) ?_)
              intro v2 w8 s8 u8 o8
              obtain ⟨a2, cp2, rfl⟩ := s8.form
              have np : p ∉ ownB v' := fun e => hsl.other (by decide) p e _ HC.out.1.head
              have nd : d ∉ ownB v' := hsl.notMp HC.out.1.dead
              have nr : r ∉ ownB v' := by obtain ⟨_, hmp, -⟩ := HC.out.2.1; exact hsl.notMp hmp
              have nr' : r' ∉ ownB v' := by obtain ⟨_, hmp, -⟩ := HM'.out; exact hsl.notMp hmp
              have hc8 := u8.blk HC.out.1.head np
              have hf8 := hc8.free 1
              have S8 := Hd.mk (se_push HC.out.1 HC.out.2.1 HM'.out HC.out.2.2 hrd HRD'.out HOR.out s8 u8 o8)
              have y0 := hc8.cell 0
              have y1 := hc8.cell 1
              have y2 := hc8.cell 2
              simp only [List.getElem?_cons_zero, List.getElem?_cons_succ] at y0 y1 y2
              clear q0 q1 q2 hc8 s8 u8 o8 np nd nr nr' hsl
              go_wp2_with fail
              have hti : i ∈ left n t := (mem_left n).2 ⟨hlt, by
                have := HMAY.out
                unfold may at this
                simp at this
                exact this.2⟩
              have i12 : (2 : Nat) ^ i ≤ 4096 := Nat.pow_le_pow_right (n := 2) (by omega) (show i ≤ 12 by omega)
              rw [show bits BinOp.or IntKind.i64 (t : Int) (wrap64 ((2 : Int) ^ i)) = ((t ||| 2 ^ i : Nat) : Int) by
                rw [wrap_pow (show i ≤ 12 by omega)]
                exact i64_or _ _ (by omega) (by omega)]
              refine (IH.out (t ||| 2 ^ i) _ r' n' _ (way ++ [i]) L' _ S8.out.1 S8.out.2.2.1 HRD'.out (HREG.out.after O n i hlt) (or_lt n HT.out hlt) (by rw [left_or n hti, List.length_erase_of_mem hti, HF.out]; omega) (by simp; omega)).mono ?_
              clear y0 y1 y2 hf8 i12
              have HTI := Hd.mk hti
              clear hti
              rintro e w9 (⟨l, hsr, rfl, v3, L3, S3⟩ | ⟨hsr, rfl, v3, L3, S3, u3, o3⟩)
              · have HS9 := Hd.mk hsr
                clear hsr
                go_wp2
                go_ret
                exact .inl ⟨i :: l, HQ.out.trans (from_yes O n f t m i l hlt (by rw [HMAY.out, HTD.out]; rfl) HS9.out), rfl, v3, L3, by have := S3; simpa using this⟩
              · have HS9 := Hd.mk hsr
                have h9 := S3.head
                have f9 := h9.free 1
                have s9 := S3.way.sl
                rw [show (way ++ [i]).length = way.length + 1 by simp] at s9
                obtain ⟨a3, cp3, rfl⟩ := s9.form
                obtain ⟨v4, hsl4, s4, o4⟩ := run_upto_sl (P := Try.prog) 25 3 1 Try.underlying25 (by kernel_rfl) w9 _ _ _ s9 way.length (by simp) (by simp; omega)
                obtain ⟨a4, cp4, rfl⟩ := s4.form
                have H9 := Hd.mk (And.intro S3 (And.intro u3 (And.intro o3 (And.intro s4 o4))))
                have y0 := h9.cell 0
                have y1 := h9.cell 1
                have y2 := h9.cell 2
                simp only [List.getElem?_cons_zero, List.getElem?_cons_succ] at y0 y1 y2
                clear hsr h9 S3 u3 o3 s4 o4 s9
                go_upto_region 15 with (fail)
                refine wp_quiet_tail 14 (by kernel_rfl) (by kernel_rfl) ?_
                simp only [List.take_succ_cons, List.take_zero, List.drop_succ_cons, List.drop_zero]
                repeat (go_big_quiet_step (fail))
                refine wpQuiet_nil ?_
                (intro _ hw'; obtain ⟨nq, hw''⟩ := hw'; subst hw'')
                obtain ⟨S3, u3, o3, s4, o4⟩ := H9.out
                obtain ⟨P1, P2⟩ := se_pop (nq := nq) S3 s4 o4
                have HP := Hd.mk (And.intro P1 P2)
                clear S3 u3 o3 s4 o4 P1 P2
                go_wp2
                go_roundg (gk - 1)
                case measure => have := HG.out; omega
                case rel =>
                  obtain ⟨S3, u3, o3, s4, o4⟩ := H9.out
                  obtain ⟨SS, MM, MM', UU, OO⟩ := S8.out
                  have hsz := UU.size
                  have hp' := HS.out.head.lt
                  have hd' := HS.out.dead.lt
                  have rp : r ≠ p := by
                    obtain ⟨_, hmp, -⟩ := HM.out
                    exact fun e => hmp.other _ _ (e ▸ HS.out.head)
                  have ro : r ∉ p :: d :: ownB (Value.slice a2 (way.length + 1) cp2) := by
                    simp only [List.mem_cons, not_or]
                    refine ⟨rp, hrd, ?_⟩
                    obtain ⟨_, hmp, -⟩ := MM
                    exact SS.way.sl.notMp hmp
                  refine ⟨i + 1, _, L3, by go_num, by have := HG.out; omega, HP.out.1, (MM.upd u3 ro).upd HP.out.2 (by simpa using rp), ?_, ?_, Hd.mk (HQ.out.trans (from_dead O n f t m i hlt HS9.out))⟩
                  · refine (UU.trans u3 (fun k hk h1 => ?_)).trans HP.out.2 (fun k hk h1 => by simp at h1; simp [h1])
                    simp only [List.mem_cons] at h1 ⊢
                    rcases h1 with h1 | h1 | h1
                    · exact .inl h1
                    · exact .inr (.inl h1)
                    · rcases OO k h1 with h1 | h1
                      · exact .inr (.inr h1)
                      · omega
                  · intro k hk
                    rw [o4] at hk
                    rcases o3 k hk with h1 | h1
                    · exact OO k h1
                    · right; omega
        · obtain rfl : i = n := by omega
          have h1 := sr.head
          have q0 := h1.cell 0
          have q1 := h1.cell 1
          have q2 := h1.cell 2
          simp only [List.getElem?_cons_zero, List.getElem?_cons_succ] at q0 q1 q2
          obtain ⟨c, w5, hup, m5, u5⟩ := run_update_mp (P := Try.prog) (keyLaw_string (kt := 9) Try.underlying9) 44 Try.underlying44 sr.dead (nameB O i t m) (.bool true)
          have pd : p ≠ d := fun e => sr.dead.other _ _ (e ▸ sr.head)
          have HSR := Hd.mk (HQ.out.trans (from_end O i f t m))
          have HFIN := Hd.mk (show Se w0 w5 p d a i cap O v' way (put L' (nameB O i t m) (.bool true) c) ∧ Upd (p :: d :: ownB v) w w5 from by
            have hdw : d ∉ ownB v' := sr.way.sl.notMp sr.dead
            refine ⟨⟨u5.blk sr.head (by simpa using pd), ⟨sr.way.sl.upd u5 (fun k hk e => by simp at e; exact hdw (e ▸ hk)), sr.way.own, sr.way.upd.trans u5 (fun k hk h1 => by simp at h1; have := sr.hd; omega)⟩, m5, sr.ok.put HT.out HREG.out (by rw [HF.out]; exact HSR.out) c, sr.hp, sr.hd⟩, ur.trans u5 (fun k hk h1 => by simp at h1; simp [h1])⟩)
          have HOR := Hd.mk orr
          clear h1 m5 u5 sr mr ur orr hlt hg pd
          go_wp2_with fail
          go_ret
          exact .inr ⟨HSR.out, rfl, v', _, HFIN.out.1, HFIN.out.2, HOR.out⟩
    · rw [hit] at hlk
      have HFIN := Hd.mk hsr
      clear hit hsr
      have S1 := Hd.mk s1
      clear s1 m1 h1
      go_wp2_with fail
      go_ret
      exact .inr ⟨by rw [← HF.out]; exact HFIN.out, rfl, v, L, S1.out, u1.mono (by simp), fun k hk => .inl hk⟩
end Go.Proofs.Ytbdiejlodedelaa
