/- Store: List. -/
import Derived.Test.YtncahmodmgbacaaDoorS9
import Derived.Test.YtncahmodmgbacaaDoorAp2

namespace Go.Proofs.YtncahmodmgbacaaDoor
set_option linter.unusedSimpArgs false
set_option linter.unusedVariables false
set_option linter.unnecessarySimpa false
open Go.RowKit BigFrame

theorem list_bad {w0 w : World} {p : Nat} {r : Nat → Nat} {o : Nat → Int} {m : St} {n : Nat → Nat} (h : Sto w0 w p r o m n) (ow : Int) (q : ByteArray) (hh : heldN o ow 4 ≠ 4) :
    Calls Tryd.prog 20 #[.pointer (some ⟨p, 0, none⟩), .int .i64 ow, .string q] w fun e w' => e = .returned (.tuple #[.slice none 0 0, .int .i64 7]) ∧ w' = w := by
  have HS := Hd.mk h
  clear h
  have d1 : ((heldN o ow 4 : Int) == 4) = false := by simp; omega
  clear hh
  go_enter Tryd.func20, Tryd.ntmps20
  go_wp2_with fail
  refine (held_ok HS.out ow).mono ?_
  rintro e w1 ⟨rfl, rfl⟩
  go_wp2_with fail
  go_ret2
  exact ⟨rfl, rfl⟩
theorem Rng.notOwn {w : World} {it b : Nat} {kv : ByteArray → Value} {L F : List (ByteArray × Value × Nat)} (h : Rng w it b kv L F) {e : TypeId} {sz : Nat} {v : Value} {n : Nat} {xs : List Value} (hs : Sl w e sz v n xs) : it ∉ ownB v := by
  intro hk
  rcases hs.2 with ⟨rfl, rfl⟩ | ⟨g, o, cap, cur, rfl, hb, -⟩
  · simp [ownB] at hk
  · simp [ownB] at hk
    subst hk
    exact h.notBlk _ _ hb
theorem index_sh (o : Nat → Int) (r : Nat → Nat) (i : Nat) (hi : i < 4) (W : World) : (Instr.index 61 (.agg #[.int .i64 (o 0), .map (some (r 0)), .int .i64 (o 1), .map (some (r 1)), .int .i64 (o 2), .map (some (r 2)), .int .i64 (o 3), .map (some (r 3))]) (.int .i64 i)).run Tryd.prog W = .ok (.agg #[.int .i64 (o i), .map (some (r i))]) W := by
  rcases (by omega : i = 0 ∨ i = 1 ∨ i = 2 ∨ i = 3) with e | e | e | e <;> subst e <;> kernel_rfl
def pre (q k : ByteArray) : Bool := Lib.hasPrefix k.data.toList q.data.toList
/-- What List has found in the first i shards. -/
structure Ls0 (m : St) (q : ByteArray) (i : Nat) (ks : List ByteArray) : Prop where
  mem : ∀ k, k ∈ ks ↔ (m k).isSome = true ∧ pre q k = true ∧ shd k < i
  nodup : ks.Nodup
  len : ks.length ≤ 8 * i
/-- .. and in the next one, where F is still to come. -/
structure Ls (m : St) (q : ByteArray) (i : Nat) (F : List (ByteArray × Value × Nat)) (ks : List ByteArray) : Prop where
  mem : ∀ k, k ∈ ks ↔ (m k).isSome = true ∧ pre q k = true ∧ (shd k < i ∨ (shd k = i ∧ k ∉ F.map (·.1)))
  nodup : ks.Nodup
  len : ks.length + F.length ≤ 8 * (i + 1)
theorem Ls0.start (m : St) (q : ByteArray) : Ls0 m q 0 [] := ⟨fun k => by simp, List.nodup_nil, by simp⟩
theorem key_in {m : St} {i : Nat} {L : List (ByteArray × Value × Nat)} (hg : ∀ k, get L k = (part m i k).map .string) (k : ByteArray) : k ∈ L.map (·.1) ↔ (m k).isSome = true ∧ shd k = i := by
  rw [← get_isSome, hg]
  unfold part
  by_cases h : shd k = i
  · simp [h]
  · simp [h]
theorem Ls0.next {m : St} {q : ByteArray} {i : Nat} {ks : List ByteArray} (h : Ls0 m q i ks) {L : List (ByteArray × Value × Nat)} (hg : ∀ k, get L k = (part m i k).map .string) (hl : L.length ≤ 8) : Ls m q i L ks := by
  refine ⟨fun k => ?_, h.nodup, by have := h.len; omega⟩
  rw [h.mem, key_in hg]
  constructor
  · rintro ⟨h1, h2, h3⟩
    exact ⟨h1, h2, .inl h3⟩
  · rintro ⟨h1, h2, h3 | ⟨h3, h4⟩⟩
    · exact ⟨h1, h2, h3⟩
    · exact absurd ⟨h1, h3⟩ h4
theorem Ls.done {m : St} {q : ByteArray} {i : Nat} {ks : List ByteArray} (h : Ls m q i [] ks) : Ls0 m q (i + 1) ks := by
  refine ⟨fun k => ?_, h.nodup, by have := h.len; simp at this; omega⟩
  rw [h.mem]
  constructor
  · rintro ⟨h1, h2, h3⟩
    exact ⟨h1, h2, by omega⟩
  · rintro ⟨h1, h2, h3⟩
    refine ⟨h1, h2, ?_⟩
    by_cases e : shd k = i
    · exact .inr ⟨e, by simp⟩
    · exact .inl (by omega)
theorem Ls.step {m : St} {q : ByteArray} {i : Nat} {L F : List (ByteArray × Value × Nat)} {ks : List ByteArray} (h : Ls m q i F ks) (hn : (L.map (·.1)).Nodup) (hg : ∀ k, get L k = (part m i k).map .string) {x : ByteArray × Value × Nat} (hx : x ∈ F) (hL : x ∈ L) :
    Ls m q i (F.filter fun y => decide (y.1 ≠ x.1)) (if pre q x.1 then ks ++ [x.1] else ks) := by
  have hin := (key_in hg x.1).1 (List.mem_map_of_mem hL)
  have hlt := filter_short hx
  have hni : x.1 ∉ ks := by
    intro hk
    have := ((h.mem x.1).1 hk).2.2
    rcases this with e | ⟨-, e⟩
    · omega
    · exact e (List.mem_map_of_mem hx)
  by_cases hp : pre q x.1 = true
  · rw [if_pos hp]
    refine ⟨fun k => ?_, ?_, ?_⟩
    · rw [List.mem_append, List.mem_singleton, h.mem, mem_short hn F]
      by_cases e : k = x.1
      · subst e
        simp [hp, hin]
      · simp [e]
    · rw [List.nodup_append]
      refine ⟨h.nodup, by simp, fun a ha b hb => ?_⟩
      rw [List.mem_singleton] at hb
      subst hb
      exact fun e => hni (e ▸ ha)
    · have := h.len
      rw [List.length_append, List.length_singleton]
      omega
  · rw [if_neg hp]
    refine ⟨fun k => ?_, h.nodup, by have := h.len; omega⟩
    rw [h.mem, mem_short hn F]
    by_cases e : k = x.1
    · subst e
      simp [hp]
    · simp [e]
theorem Mp.nodup {w : World} {r : Nat} {kv : ByteArray → Value} {L : List (ByteArray × Value × Nat)} (h : Mp w r kv L) : (L.map (·.1)).Nodup := by
  obtain ⟨_, _, h, _⟩ := h; exact h
theorem Bld.besides {w0 w w' : World} {S : List Nat} {e : TypeId} {sz : Nat} {v : Value} {n : Nat} {xs : List Value} (h : Bld w0 w e sz v n xs) (u : Upd S w w') (hS : ∀ k, k ∈ S → k ∉ ownB v ∧ w0.heap.size ≤ k) : Bld w0 w' e sz v n xs :=
  ⟨h.sl.upd u (fun k hk hk2 => (hS k hk2).1 hk), h.own, h.upd.trans u (fun k hk hk2 => by have := (hS k hk2).2; omega)⟩
/-- The slice v, made behind w0, reads as the texts ks. -/
def RdS (w0 w : World) (v : Value) (ks : List ByteArray) : Prop :=
  (ks = [] ∧ ∃ a cap, v = .slice a 0 cap) ∨ ∃ b off cap, v = .slice (some ⟨b, off, none⟩) ks.length cap ∧ w0.heap.size ≤ b ∧ b < w.heap.size ∧ ∀ j (h : j < ks.length), w.cell? ⟨b, off + j, none⟩ = some (.string ks[j])
def Asc (ks : List ByteArray) : Prop := ks.Pairwise fun a b => a.data.toList ≤ b.data.toList
/-- What List hands back. -/
def ListQ (w : World) (m : St) (q : ByteArray) (e : Ending) (w' : World) : Prop := ∃ v ks, e = .returned (.tuple #[v, .int .i64 0]) ∧ RdS w w' v ks ∧ Upd [] w w' ∧ Ls0 m q 4 ks ∧ Asc ks
theorem le_tr (a b c : List UInt8) : decide (a ≤ b) = true → decide (b ≤ c) = true → decide (a ≤ c) = true := by
  intro h1 h2
  exact decide_eq_true (List.le_trans (of_decide_eq_true h1) (of_decide_eq_true h2))
theorem le_to (a b : List UInt8) : (decide (a ≤ b) || decide (b ≤ a)) = true := by
  rcases List.le_total a b with h | h
  · simp [h]
  · simp [h]
theorem Ls0.perm {m : St} {q : ByteArray} {i : Nat} {ks ks' : List ByteArray} (h : Ls0 m q i ks) (hp : ks'.Perm ks) : Ls0 m q i ks' :=
  ⟨fun k => (hp.mem_iff).trans (h.mem k), (hp.nodup_iff).2 h.nodup, by rw [hp.length_eq]; exact h.len⟩
theorem sorted_done {w wr w' : World} {m : St} {q : ByteArray} {ks : List ByteArray} {g off cap nn : Nat} {os : Array Obj} (hu : Upd [] w wr) (hl : Ls0 m q 4 ks) (hg : w.heap.size ≤ g) (hgb : g < wr.heap.size)
    (hH : Go.Sort.Holds encStr wr g off (ks.map fun k => k.data.toList).toArray) (hw : w' = Go.Sort.grow (Go.Sort.putRow encStr (Go.Sort.ahead wr nn) g off ((ks.map fun k => k.data.toList).mergeSort fun x y => decide (x ≤ y)).toArray) os) :
    ListQ w m q (.returned (.tuple #[.slice (some ⟨g, off, none⟩) ks.length cap, .int .i64 0])) w' := by
  have hpl := List.mergeSort_perm (ks.map fun k => k.data.toList) (fun x y => decide (x ≤ y))
  have hsl : ((ks.map fun k => k.data.toList).mergeSort fun x y => decide (x ≤ y)).length = ks.length := by rw [hpl.length_eq, List.length_map]
  have hso := List.pairwise_mergeSort le_tr le_to (ks.map fun k => k.data.toList)
  generalize (ks.map fun k => k.data.toList).mergeSort (fun x y => decide (x ≤ y)) = ss at *
  have hks : (ss.map fun l => (⟨l.toArray⟩ : ByteArray)).Perm ks := by
    have := hpl.map (fun l => (⟨l.toArray⟩ : ByteArray))
    rw [List.map_map] at this
    have e : ((fun l => (⟨l.toArray⟩ : ByteArray)) ∘ fun k : ByteArray => k.data.toList) = id := by funext k; rfl
    rw [e, List.map_id] at this
    exact this
  have hH2 : Go.Sort.Holds encStr (Go.Sort.ahead wr nn) g off (ks.map fun k => k.data.toList).toArray := hH
  have hsz : w'.heap.size = wr.heap.size + os.size := by rw [hw]; simp [Go.Sort.ahead]
  have hu2 : Upd [g] wr w' := by
    refine ⟨by rw [hw]; rfl, by rw [hw]; rfl, by rw [hw]; rfl, by omega, fun k hk hkg => ?_⟩
    rw [hw, Go.Sort.heap_grow_old _ _ (by simpa [Go.Sort.ahead] using hk)]
    rw [List.mem_singleton] at hkg
    have hne : ¬ g = k := fun e => hkg e.symm
    show ((Go.Sort.ahead wr nn).heap.modify g _)[k]? = _
    rw [Array.getElem?_modify, if_neg hne]
    rfl
  refine ⟨_, ss.map fun l => (⟨l.toArray⟩ : ByteArray), rfl, .inr ⟨g, off, cap, by rw [List.length_map, hsl], hg, by omega, fun j hj => ?_⟩, hu.trans hu2 (fun k hk h => by rw [List.mem_singleton] at h; omega), hl.perm hks, ?_⟩
  · rw [List.length_map] at hj
    rw [hw, Go.Sort.cell?_grow _ _ _ (by simpa [Go.Sort.ahead] using hgb), Go.Sort.cell?_putRow encStr _ g off _ _ hH2 (by simp [hsl]) j (by simpa using hj)]
    simp [hj, encStr]
  · unfold Asc
    rw [List.pairwise_map]
    exact hso.imp fun h => by simpa using h
set_option maxRecDepth 100000 in
set_option maxHeartbeats 2000000 in
theorem list_ok {w0 w : World} {p : Nat} {r : Nat → Nat} {o : Nat → Int} {m : St} {n : Nat → Nat} (h : Sto w0 w p r o m n) (hn : ∀ i, i < 4 → n i ≤ 8) (ow : Int) (q : ByteArray) (hh : heldN o ow 4 = 4) :
    Calls Tryd.prog 20 #[.pointer (some ⟨p, 0, none⟩), .int .i64 ow, .string q] w (ListQ w m q) := by
  have HS := Hd.mk h
  have b1 := h.blk
  unfold scells at b1
  have c0 := b1.cell 0
  have c1 := b1.cell 1
  have c2 := b1.cell 2
  have c3 := b1.cell 3
  have c4 := b1.cell 4
  have c5 := b1.cell 5
  have c6 := b1.cell 6
  have c7 := b1.cell 7
  simp only [List.getElem?_cons_zero, List.getElem?_cons_succ] at c0 c1 c2 c3 c4 c5 c6 c7
  clear h b1
  go_enter Tryd.func20, Tryd.ntmps20
  go_wp2_with fail
  refine (held_ok HS.out ow).mono ?_
  rintro e w1 ⟨rfl, rfl⟩
  rw [hh]
  clear hh
  go_upto_region 5 with (fail)
  clear c0 c1 c2 c3 c4 c5 c6 c7
  have HN := Hd.mk hn
  clear hn
  go_loopg [8, 10, 11, 20] 4 (fun g s8 s10 s11 ii wr => ∃ (i : Nat) (ks : List ByteArray), g + i = 4 ∧ ii = .int .i64 i ∧ Hd (Bld w1 wr 9 1 s8 ks.length (ks.map .string)) ∧ Hd (Ls0 m q i ks))
  case atStart => exact ⟨0, [], rfl, rfl, Hd.mk (Bld.nil (Upd.refl _ _) _ _), Hd.mk (Ls0.start m q)⟩
  case round =>
    obtain ⟨i, ks, hg, rfl, HB, HL⟩ := hrel
    by_cases hi : i < 4
    · obtain ⟨gq, hgq⟩ : ∃ gq, gq = gk - 1 := ⟨_, rfl⟩
      have HGQ := Hd.mk (And.intro hgq hg)
      clear hgq hg
      have hix := index_sh o r i hi
      go_upto_region 7 with (fail)
      have HB1 := Hd.mk (HB.out.over ((Upd.refl [] wr).alloc (.cells #[.int .i64 (o i), .map (some (r i))] 60)))
      have BX := Blk.new wr [.int .i64 (o i), .map (some (r i))] 60 _ rfl
      refine wp_abs (fun W => Bld w1 W 9 1 u8 ks.length (ks.map .string) ∧ Blk W wr.heap.size [.int .i64 (o i), .map (some (r i))] 60) ⟨HB1.out, BX⟩ ?_
      clear HB HB1 BX
      generalize wr.heap.size = xb
      rintro w2 ⟨b2, x2⟩
      have HB := Hd.mk b2
      have c0 := x2.cell 0
      have c1 := x2.cell 1
      simp only [List.getElem?_cons_zero, List.getElem?_cons_succ] at c0 c1
      clear b2 x2
      have HSto := Hd.mk (HS.out.up HB.out.upd)
      have hmp := HSto.out.map i hi
      obtain ⟨L, hL, hgt, hlen⟩ := hmp
      have HG := Hd.mk hgt
      have HLn := Hd.mk (show L.length ≤ 8 by rw [hlen]; exact HN.out i hi)
      clear hgt hlen
      obtain ⟨w3, hrun, r3, u3⟩ := run_range_mp (P := Tryd.prog) Tryd.underlying50 hL
      have HW := Hd.mk (show w1.heap.size ≤ w2.heap.size from HB.out.upd.size)
      have HB := Hd.mk (HB.out.over u3)
      have HR := Hd.mk r3
      have HLI := Hd.mk (HL.out.next HG.out HLn.out)
      clear r3 u3 hL
      generalize w2.heap.size = it at hrun HR HW
      go_upto_region 8 with (fail)
      simp only [show decide ((i : Int) < 4) = true from decide_eq_true (by omega)]
      go_loopg [8, 11] L.length (fun g s8 s11 wr => ∃ (F : List (ByteArray × Value × Nat)) (ks : List ByteArray), Hd (g = F.length) ∧ Rng wr it (r i) (fun k => .string k) L F ∧ Hd (Bld w1 wr 9 1 s8 ks.length (ks.map .string)) ∧ Hd (Ls m q i F ks))
      case atStart => exact ⟨L, ks, Hd.mk rfl, HR.out, HB, HLI⟩
      case round =>
        clear HB HR hrun HL HLI c0 c1 hix
        obtain ⟨F, ks, HGh, rr, HB, HL⟩ := hrel
        rcases run_next_mp (P := Tryd.prog) rr with ⟨rfl, hrun⟩ | ⟨x, w4, hx, hrun, r4, u4, hen⟩
        · go_wp2_with fail
          go_roundg gq
          case measure => have := HGQ.out; omega
          case rel => exact ⟨i + 1, ks, by have := HGQ.out; omega, by go_num, HB, Hd.mk HL.out.done⟩
        · have hxL := rr.sub x hx
          have HST := Hd.mk (HL.out.step rr.mp.nodup HG.out hx hxL)
          have HSH := Hd.mk (filter_short hx)
          have HB4 := Hd.mk (HB.out.besides u4 (fun k hk => by
            rw [List.mem_singleton] at hk
            subst hk
            exact ⟨rr.notOwn HB.out.sl, HW.out⟩))
          have HR4 := Hd.mk r4
          have HRI := Hd.mk (show r i < w1.heap.size from (HS.out.map i hi).lt)
          clear rr hx hxL u4 r4 HB
          obtain ⟨xk, xv, xb2⟩ := x
          simp only at hrun hen HST HR4 HSH
          go_wp2_with fail
          refine (Tryd.strings_HasPrefix xk q w4).mono ?_
          rintro e w5 ⟨rfl, rfl⟩
          obtain ⟨bb, hbb⟩ : ∃ bb, pre q xk = bb := ⟨_, rfl⟩
          rw [show Lib.hasPrefix xk.data.toList q.data.toList = bb from hbb]
          rw [hbb] at HST
          clear hbb
          cases bb with
          | false =>
            go_wp2_with fail
            go_roundg (F.filter fun y => decide (y.1 ≠ xk)).length
            case measure => have := HGh.out; have := HSH.out; omega
            case rel => exact ⟨_, ks, Hd.mk rfl, HR4.out, HB4, HST⟩
          | true =>
            have hk32 : ks.length < 1000000 := by
              have := HL.out.len
              omega
            have hsl := HB4.out.sl
            go_wp2_with (at_builtin; refine wpList_append_row rfl (.tmp 33) (.tmp 35) 40 rfl rfl 9 (.string ⟨#[]⟩) 1 16 Tryd.underlying40 (by kernel_rfl) rfl _ _ _ rfl hsl [.string xk] rfl rfl rfl hk32 (by omega) ?_)
            intro v6 w6 s6 u6 o6
            have HB6 := Hd.mk (HB4.out.app s6 u6 o6)
            have HR6 := Hd.mk (HR4.out.upd u6 (HR4.out.notOwn HB4.out.sl) (fun hk => by have := HB4.out.own _ hk; have := HRI.out; omega))
            clear s6 u6 o6 hsl
            go_wp2_with fail
            go_roundg (F.filter fun y => decide (y.1 ≠ xk)).length
            case measure => have := HGh.out; have := HSH.out; omega
            case rel => exact ⟨_, ks ++ [xk], Hd.mk rfl, HR6.out, by rw [List.length_append, List.map_append]; exact HB6, HST⟩
    · obtain rfl : i = 4 := by omega
      clear hi hg
      rcases HB.out.sl.2 with ⟨rfl, h0⟩ | ⟨g, off, cap, cur, rfl, hb, -⟩
      · have hks : ks = [] := List.eq_nil_of_length_eq_zero h0
        go_wp2_with fail
        refine (Tryd.slices_Sort_string_none none 0 wr).mono ?_
        rintro e w2 ⟨rfl, rfl⟩
        go_wp2_with fail
        go_ret2
        exact ⟨_, ks, rfl, .inl ⟨hks, none, 0, rfl⟩, HB.out.upd, HL.out, by rw [hks]; exact List.Pairwise.nil⟩
      · have hH : Go.Sort.Holds encStr wr g off (ks.map fun k => k.data.toList).toArray := by
          intro j hj
          simp only [List.size_toArray, List.length_map] at hj
          refine ⟨?_, hb.free _⟩
          rw [HB.out.sl.cell j (by omega)]
          simp [hj, encStr]
        have HGL := Hd.mk (show w1.heap.size ≤ g from HB.out.own g (by simp [ownB]))
        have HGB := Hd.mk hb.lt
        have HH := Hd.mk hH
        clear hH hb
        have hso := Tryd.slices_Sort_string g off cap (ks.map fun k => k.data.toList) wr HH.out HGB.out (by have := HL.out.len; simp; omega)
        rw [List.length_map] at hso
        have HSO := Hd.mk hso
        clear hso
        go_wp2_with fail
        refine HSO.out.mono ?_
        rintro e w2 ⟨rfl, nn, os, hw2⟩
        have HW2 := Hd.mk hw2
        clear hw2
        go_wp2_with fail
        go_ret2
        refine sorted_done HB.out.upd HL.out HGL.out HGB.out HH.out HW2.out
end Go.Proofs.YtncahmodmgbacaaDoor
