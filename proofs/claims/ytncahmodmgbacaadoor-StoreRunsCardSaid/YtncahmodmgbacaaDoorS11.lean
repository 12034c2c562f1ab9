/- StoreLists: what is listed are just the keys that begin so, rising, each once. -/
import Derived.Test.YtncahmodmgbacaaDoorS10
import Derived.Test.YtncahmodmgbacaaDoorFlat
import Derived.Sort.Walk0

namespace Go.Proofs.YtncahmodmgbacaaDoor
set_option linter.unusedSimpArgs false
set_option linter.unusedVariables false
set_option linter.unnecessarySimpa false
open Go.RowKit BigFrame

/-- Texts that came in. -/
def Rds (w : World) (a : Option Addr) (xs : List ByteArray) : Prop := 0 < xs.length → ∃ b off, a = some ⟨b, off, none⟩ ∧ b < w.heap.size ∧ ∀ i (h : i < xs.length), w.cell? ⟨b, off + i, none⟩ = some (.string xs[i])
theorem Rds.upd {w w' : World} {a : Option Addr} {xs : List ByteArray} (h : Rds w a xs) (hu : Upd [] w w') : Rds w' a xs := by
  intro h0
  obtain ⟨b, off, ha, hb, hc⟩ := h h0
  have hsz := hu.size
  exact ⟨b, off, ha, by omega, fun i hi => (hu.cell (p := ⟨b, _, none⟩) hb (by simp)).trans (hc i hi)⟩
theorem leaf_ss {w : World} {a : Option Addr} {n cap : Nat} (h : Leaf.ok w (.sl [.str]) (.slice a n cap)) :
    ∃ xs : List ByteArray, xs.length = n ∧ Rds w a xs ∧ n ≤ 140737488351232 ∧ ∀ x ∈ xs, x.size ≤ 140737488351232 := by
  have hn : n ≤ 140737488351232 := by
    simp only [Leaf.ok] at h
    obtain ⟨_, _, _, _, e, -, -, hz, -⟩ := h
    simp only [Value.slice.injEq] at e
    omega
  by_cases h0 : 0 < n
  · obtain ⟨b, off, V, rfl, hb, hm, hV⟩ := Leaf.open h h0 (by simp)
    have hx : ∀ i : Nat, ∃ x : ByteArray, i < n → V i = [.string x] ∧ x.size ≤ 140737488351232 := by
      intro i
      by_cases hi : i < n
      · have := (hV i hi).1
        simp only [Leaf.oks, Leaf.ok] at this
        obtain ⟨_, _, hv, ⟨x, rfl, h1⟩, rfl⟩ := this
        exact ⟨x, fun _ => ⟨hv, h1⟩⟩
      · exact ⟨⟨#[]⟩, fun h => absurd h hi⟩
    obtain ⟨F, hF⟩ := Classical.axiomOfChoice hx
    refine ⟨(List.range n).map F, by simp, fun _ => ⟨b, off, rfl, hb, fun i hi => ?_⟩, hn, fun f hf => ?_⟩
    · have hi : i < n := by simpa using hi
      have h1 := (hV i hi).2 0 (by simp)
      rw [(hF i hi).1] at h1
      simp only [List.length_cons, List.length_nil, Nat.zero_add, List.getElem?_cons_zero, Nat.add_zero, Nat.mul_one] at h1
      simp only [List.getElem_map, List.getElem_range]
      exact h1
    · obtain ⟨i, hi, rfl⟩ := List.mem_map.1 hf
      exact (hF i (by simpa using hi)).2
  · obtain rfl : n = 0 := by omega
    exact ⟨[], rfl, fun h => by simp at h, hn, by simp⟩
/-- The law's own map tells which keys the store has. -/
def MBool (w : World) (mb : Nat) (m : St) : Prop := ∃ L, Mp w mb (fun k => .string k) L ∧ ∀ k, get L k = if (m k).isSome then some (.bool true) else none
theorem MBool.upd {w w' : World} {S : List Nat} {mb : Nat} {m : St} (h : MBool w mb m) (hu : Upd S w w') (hr : mb ∉ S) : MBool w' mb m := by
  obtain ⟨L, h1, h2⟩ := h
  exact ⟨L, h1.upd hu hr, h2⟩
theorem MBool.put {w : World} {mb : Nat} {m : St} (h : MBool w mb m) (k v : ByteArray) :
    ∃ w', (Instr.mapUpdate 41 (.map (some mb)) (.string k) (.bool true)).run Tryd.prog w = .ok () w' ∧ MBool w' mb (setM m k (some v)) ∧ Upd [mb] w w' := by
  obtain ⟨L, hL, hg⟩ := h
  obtain ⟨c, w', hr, h3, h4⟩ := run_update_mp (P := Tryd.prog) (keyLaw_string (kt := 9) Tryd.underlying9) 41 Tryd.underlying41 hL k (.bool true)
  refine ⟨w', hr, ⟨_, h3, fun k' => ?_⟩, h4⟩
  rw [get_put, hg]
  unfold setM
  by_cases e : k' = k
  · rw [if_pos e, if_pos e]; rfl
  · rw [if_neg e, if_neg e]
theorem shd_foot (p : Nat) (r : Nat → Nat) (k : ByteArray) : r (shd k) ∈ foot p r := by
  have hi := shd_lt k
  unfold foot
  rcases (by omega : shd k = 0 ∨ shd k = 1 ∨ shd k = 2 ∨ shd k = 3) with e | e | e | e <;> rw [e] <;> simp
theorem Sto.foot_lt {w0 w : World} {p : Nat} {r : Nat → Nat} {o : Nat → Int} {m : St} {n : Nat → Nat} (h : Sto w0 w p r o m n) : ∀ k, k ∈ foot p r → k < w.heap.size := by
  intro k hk
  have h0 := (h.map 0 (by omega)).lt
  have h1 := (h.map 1 (by omega)).lt
  have h2 := (h.map 2 (by omega)).lt
  have h3 := (h.map 3 (by omega)).lt
  have hp := h.blk.lt
  unfold foot at hk
  simp at hk
  rcases hk with e | e | e | e | e <;> subst e <;> assumption
/-- The store stays as it is where other blocks are written. -/
theorem Sto.beside {w0 w w' : World} {p : Nat} {r : Nat → Nat} {o : Nat → Int} {m : St} {n : Nat → Nat} (h : Sto w0 w p r o m n) {S : List Nat} (hu : Upd S w w') (hS : ∀ k, k ∈ S → k ∉ foot p r ∧ w0.heap.size ≤ k) : Sto w0 w' p r o m n := by
  have hf : ∀ i, i < 4 → r i ∈ foot p r := by
    intro i hi
    unfold foot
    rcases (by omega : i = 0 ∨ i = 1 ∨ i = 2 ∨ i = 3) with e | e | e | e <;> subst e <;> simp
  exact ⟨hu.blk h.blk (fun e => (hS _ e).1 (by simp [foot])), fun i hi => (h.map i hi).upd hu (fun e => (hS _ e).1 (hf i hi)), h.ne, h.new, h.upd.trans hu (fun k hk e => by have := (hS k e).2; omega)⟩
theorem heldN_all (x : Int) (hx : 0 < x) : heldN (upto 4 x) x 4 = 4 := by
  unfold heldN
  have : (List.range 4).countP (fun j => decide (0 < x ∧ upto 4 x j = x)) = (List.range 4).length := by
    rw [List.countP_eq_length]
    intro j hj
    have hj2 : j < 4 := by simpa using hj
    exact decide_eq_true ⟨hx, by unfold upto; rw [if_pos hj2]⟩
  rw [this]
  rfl
theorem putE_empty (x : Option ByteArray) (c : Nat) : putE x ⟨#[]⟩ c = if x.isSome = false ∧ c = 8 then 4 else 0 := by
  unfold putE
  rw [if_neg (show ¬ tagOk x ⟨#[]⟩ = false from fun e => by
    unfold tagOk at e
    rw [decide_eq_true (show (⟨#[]⟩ : ByteArray).size = 0 from rfl), Bool.true_or] at e
    cases e)]
theorem mine_bad (x : Int) (k : ByteArray) (hk : rightK k = false) : mineE (upto 4 x) x k = 8 := by
  unfold mineE
  rw [if_pos hk]
theorem RdS.form {w0 w : World} {v : Value} {ks : List ByteArray} (h : RdS w0 w v ks) : ∃ a cap, v = .slice a ks.length cap ∧ Rds w a ks := by
  rcases h with ⟨rfl, a, cap, rfl⟩ | ⟨b, off, cap, rfl, h1, h2, h3⟩
  · exact ⟨a, cap, rfl, fun h => by simp at h⟩
  · exact ⟨_, cap, rfl, fun _ => ⟨b, off, rfl, h2, h3⟩⟩
theorem pre_yes {q k : ByteArray} (h : pre q k = true) : q.size ≤ k.size ∧ k.extract 0 q.size = q := by
  have hp : q.data.toList <+: k.data.toList := List.isPrefixOf_iff_prefix.1 h
  have hl := hp.length_le
  rw [toList_len, toList_len] at hl
  refine ⟨hl, ?_⟩
  apply ByteArray.ext
  apply Array.toList_inj.1
  obtain ⟨t, ht⟩ := hp
  simp only [ByteArray.data_extract, Array.toList_extract]
  rw [List.extract_eq_take_drop, ← ht]
  simp
theorem pre_of {q k : ByteArray} (h1 : k.extract 0 q.size = q) : pre q k = true := by
  refine List.isPrefixOf_iff_prefix.2 ?_
  have h2 := congrArg (fun t : ByteArray => t.data.toList) h1
  simp only [ByteArray.data_extract, Array.toList_extract] at h2
  rw [List.extract_eq_take_drop] at h2
  simp at h2
  rw [← h2]
  exact List.take_prefix _ _
theorem count_ks {w : World} {mb : Nat} {m : St} {q : ByteArray} {ks : List ByteArray} (hl : Ls0 m q 4 ks) {LB : List (ByteArray × Value × Nat)} (hL : Mp w mb (fun k => .string k) LB) (hg : ∀ k, get LB k = if (m k).isSome then some (.bool true) else none) :
    LB.countP (fun x => pre q x.1) = ks.length := by
  have hn := hL.nodup
  have hp : ((LB.map (·.1)).filter (pre q)).Perm ks := by
    rw [List.perm_ext_iff_of_nodup (hn.filter _) hl.nodup]
    intro k
    rw [List.mem_filter, hl.mem, ← get_isSome, hg]
    have := shd_lt k
    by_cases e : (m k).isSome = true
    · simp [e, this]
    · simp [e]
  rw [← hp.length_eq, ← List.countP_eq_length_filter, List.countP_map]
  rfl
theorem count_filter_ne (p : ByteArray → Bool) (x : ByteArray × Value × Nat) : ∀ (F : List (ByteArray × Value × Nat)), (F.map (·.1)).Nodup → x ∈ F → F.countP (fun y => p y.1) = (F.filter fun y => decide (y.1 ≠ x.1)).countP (fun y => p y.1) + (if p x.1 then 1 else 0)
  | [], _, h => by cases h
  | y :: F, hn, h => by
    simp only [List.map_cons, List.nodup_cons] at hn
    by_cases e : y.1 = x.1
    · have hall : F.filter (fun y => decide (y.1 ≠ x.1)) = F := by
        rw [List.filter_eq_self]
        intro z hz
        refine decide_eq_true fun e2 => hn.1 ?_
        rw [e, ← e2]
        exact List.mem_map_of_mem hz
      rw [List.filter_cons_of_neg (by simp [e]), hall, List.countP_cons, e]
    · have hxF : x ∈ F := by
        rcases List.mem_cons.1 h with h | h
        · subst h; exact absurd rfl e
        · exact h
      rw [List.filter_cons_of_pos (by simp [e]), List.countP_cons, List.countP_cons, count_filter_ne p x F hn.2 hxF]
      omega
theorem Rng.nodup {w : World} {r b : Nat} {kv : ByteArray → Value} {L F : List (ByteArray × Value × Nat)} (h : Rng w r b kv L F) : (F.map (·.1)).Nodup := by
  have hn := h.mp.nodup
  obtain ⟨hm, hne, since, seen, c0, clock, k1, k2, k3, k4, k5, rfl⟩ := h
  exact (List.filter_sublist.map _).nodup hn
theorem count_step {w : World} {r b : Nat} {kv : ByteArray → Value} {L F : List (ByteArray × Value × Nat)} (h : Rng w r b kv L F) {x : ByteArray × Value × Nat} (hx : x ∈ F) (p : ByteArray → Bool) :
    F.countP (fun y => p y.1) = (F.filter fun y => decide (y.1 ≠ x.1)).countP (fun y => p y.1) + (if p x.1 then 1 else 0) := count_filter_ne p x F h.nodup hx
theorem less_of {ks : List ByteArray} (hA : Asc ks) (hn : ks.Nodup) {i j : Nat} (hij : i < j) (hj : j < ks.length) (hi : i < ks.length) : Op.bytesLess ks[i].toList ks[j].toList = true := by
  rw [bytesLess_eq]
  refine decide_eq_true ?_
  rw [ByteArray.toList_eq, ByteArray.toList_eq]
  have h1 : ks[i].data.toList ≤ ks[j].data.toList := (List.pairwise_iff_getElem.1 hA) i j hi hj hij
  have h2 : ks[i].data.toList ≠ ks[j].data.toList := by
    intro e
    have e2 : ks[i] = ks[j] := ByteArray.ext (Array.toList_inj.1 e)
    have := (List.pairwise_iff_getElem.1 hn) i j hi hj hij
    exact this e2
  rcases List.le_iff_lt_or_eq.1 h1 with h | h
  · exact h
  · exact absurd h h2
/-- What the law has built: the store, its map. -/
structure Lw (w0 w : World) (p : Nat) (r : Nat → Nat) (x : Int) (mb : Nat) (m : St) (n : Nat → Nat) : Prop where
  sto : Sto w0 w p r (upto 4 x) m n
  map : MBool w mb m
  ne : mb ∉ foot p r
  new : w0.heap.size ≤ mb
  le : ∀ i, i < 4 → n i ≤ 8
  val : ∀ k v, m k = some v → v = ⟨#[]⟩
theorem Lw.up {w0 w w' : World} {p : Nat} {r : Nat → Nat} {x : Int} {mb : Nat} {m : St} {n : Nat → Nat} (h : Lw w0 w p r x mb m n) (hu : Upd [] w w') : Lw w0 w' p r x mb m n :=
  ⟨h.sto.up hu, h.map.upd hu (by simp), h.ne, h.new, h.le, h.val⟩
set_option maxRecDepth 100000 in
set_option maxHeartbeats 2000000 in
theorem lists_walk (a : Option Addr) (cap : Nat) (xs : List ByteArray) (q : ByteArray) (w : World) (hR : Rds w a xs) (hz : ∀ x ∈ xs, x.size ≤ 140737488351232) (hx : xs.length ≤ 140737488351232) (hq : q.size ≤ 140737488351232) (hT : Tb w) :
    Calls Tryd.prog 6 #[.slice a xs.length cap, .string q] w fun e w' => e = .returned (.bool true) ∧ Upd [] w w' := by
  have HT := Hd.mk hT
  have HR := Hd.mk hR
  have HZ := Hd.mk hz
  clear hT hR hz
  go_enter Tryd.func6, Tryd.ntmps6
  go_wp2_with fail
  refine (fit_ok w HT.out).mono ?_
  rintro e w1 ⟨rfl, u1⟩
  have HU := Hd.mk u1
  clear u1
  by_cases hl : 30 < xs.length
  · have hl2 : (30 : Int) < xs.length := by omega
    go_wp2_with fail
    go_ret
    exact ⟨rfl, HU.out⟩
  have hl2 : ¬ (30 : Int) < xs.length := by omega
  by_cases hl3 : 60 < q.size
  · have hl4 : (60 : Int) < q.size := by omega
    go_wp2_with fail
    go_ret
    exact ⟨rfl, HU.out⟩
  have hl4 : ¬ (60 : Int) < q.size := by omega
  go_wp2_with fail
  refine (new_ok w1).mono ?_
  rintro e w2 ⟨p, r, rfl, S2⟩
  have HS := Hd.mk S2
  have HT := Hd.mk (HT.out.upd HU.out)
  have HR := Hd.mk (HR.out.upd HU.out)
  clear S2
  go_upto_region 7 with (fail)
  go_loopg [6, 29] 4 (fun g s6 ii wr => ∃ i : Nat, g + i = 4 ∧ ii = .int .i64 i ∧ Hd (Sto w1 wr p r (upto i 3) (fun _ => none) (fun _ => 0)))
  case atStart => exact ⟨0, rfl, rfl, by rw [upto_zero]; exact HS⟩
  case round =>
    clear HS
    obtain ⟨i, hg, rfl, HS⟩ := hrel
    by_cases hi : i < 4
    · go_wp2_with fail
      refine (lock_yes HS.out 3 i (upto_free i 3 hi (by decide))).mono ?_
      rintro e w5 ⟨rfl, S5, -⟩
      rw [upto_succ] at S5
      go_wp2_with fail
      go_roundg (gk - 1)
      case measure => omega
      case rel => exact ⟨i + 1, by omega, by go_num, S5⟩
    · obtain rfl : i = 4 := by omega
      clear hi hg
      have hmm := @run_makeMap Tryd.prog
      go_upto_region 13 with (fail)
      clear hmm
      have HLW := Hd.mk (show Lw w1 (wr.alloc (.map #[] 0)) p r 3 wr.heap.size (fun _ => none) (fun _ => 0) from ⟨HS.out.up ((Upd.refl [] wr).alloc _), ⟨[], Mp.new wr _, fun k => rfl⟩, fun e => by have := HS.out.foot_lt _ e; omega, HS.out.upd.size, fun _ _ => by omega, fun k v h => by cases h⟩)
      refine wp_abs (fun W => Lw w1 W p r 3 wr.heap.size (fun _ => none) (fun _ => 0)) HLW.out ?_
      clear HLW HS
      generalize wr.heap.size = mb
      rintro w3 hlw
      have HLW := Hd.mk hlw
      clear hlw
      go_loopg [9, 10, 11, 39] xs.length (fun g s9 s10 s11 ii wr => ∃ (i : Nat) (m : St) (n : Nat → Nat), g + i = xs.length ∧ ii = .int .i64 i ∧ Hd (Lw w1 wr p r 3 mb m n))
      case atStart => exact ⟨0, _, _, by omega, rfl, HLW⟩
      case round =>
        clear HLW
        obtain ⟨i, m, n, hg, rfl, HLW⟩ := hrel
        by_cases hi : i < xs.length
        · obtain ⟨b, off, rfl, hbw, hc⟩ := HR.out.upd HLW.out.sto.upd (by omega)
          have hc0 := hc i hi
          have hzx := HZ.out _ (List.getElem_mem hi)
          generalize xs[i] = x at hc0 hzx
          have HG := Hd.mk hg
          clear hc hg hbw
          by_cases hx60 : 60 < x.size
          · have hx2 : (60 : Int) < x.size := by omega
            go_wp2_with fail
            go_ret
            exact ⟨rfl, HU.out.trans HLW.out.sto.upd (by simp)⟩
          have hx2 : ¬ (60 : Int) < x.size := by omega
          go_wp2_with fail
          cases hrk : rightK x with
          | false =>
            refine (put_bad HLW.out.sto 3 x ⟨#[]⟩ ⟨#[]⟩ hzx (mine_bad 3 x hrk) (by decide)).mono ?_
            rintro e w5 ⟨rfl, u5⟩
            have HLW := Hd.mk (HLW.out.up u5)
            clear u5 hrk
            go_wp2_with fail
            go_roundg (gk - 1)
            case measure => have := HG.out; omega
            case rel => exact ⟨i + 1, m, n, by have := HG.out; omega, by go_num, HLW⟩
          | true =>
            obtain ⟨y, hy⟩ : ∃ y, m x = y := ⟨_, rfl⟩
            have hyv : ∀ v, y = some v → v.size ≤ 1000000 := by
              intro v e
              have := HLW.out.val x v (by rw [hy, e])
              rw [this]
              decide
            by_cases hfull : y.isSome = false ∧ n (shd x) = 8
            · refine (put_no HLW.out.sto HT.out 3 x ⟨#[]⟩ ⟨#[]⟩ hzx (mine_all 3 x (by decide) hrk) hy hyv (c := 4) (by rw [putE_empty, if_pos hfull]) (by decide)).mono ?_
              rintro e w5 ⟨rfl, u5⟩
              have HLW := Hd.mk (HLW.out.up u5)
              clear u5 hrk hy hyv hfull
              go_wp2_with fail
              go_roundg (gk - 1)
              case measure => have := HG.out; omega
              case rel => exact ⟨i + 1, m, n, by have := HG.out; omega, by go_num, HLW⟩
            · refine (put_yes HLW.out.sto HT.out 3 x ⟨#[]⟩ ⟨#[]⟩ hzx (mine_all 3 x (by decide) hrk) hy hyv (by rw [putE_empty, if_neg hfull])).mono ?_
              rintro e w5 ⟨rfl, u5, S5⟩
              obtain ⟨w6, hup, M6, u6⟩ := (HLW.out.map.upd u5 (fun e => HLW.out.ne (by rw [List.mem_singleton] at e; rw [e]; exact shd_foot p r x))).put x ⟨#[]⟩
              have HLW := Hd.mk (show Lw w1 w6 p r 3 mb (setM m x (some ⟨#[]⟩)) (setN n (shd x) (if y.isSome then n (shd x) else n (shd x) + 1)) from ⟨S5.beside u6 (fun k hk => by rw [List.mem_singleton] at hk; rw [hk]; exact ⟨HLW.out.ne, HLW.out.new⟩), M6, HLW.out.ne, HLW.out.new, by
                intro j hj
                have := HLW.out.le j hj
                unfold setN
                split
                · rename_i e
                  subst e
                  split
                  · omega
                  · rename_i h5
                    have : n (shd x) ≠ 8 := fun e => hfull ⟨by simpa using h5, e⟩
                    omega
                · exact this, by
                intro k v hk
                unfold setM at hk
                split at hk
                · cases hk; rfl
                · exact HLW.out.val k v hk⟩)
              clear u5 S5 u6 M6 hrk hy hyv hfull
              go_wp2_with fail
              go_roundg (gk - 1)
              case measure => have := HG.out; omega
              case rel => exact ⟨i + 1, _, _, by have := HG.out; omega, by go_num, HLW⟩
        · obtain rfl : i = xs.length := by omega
          clear hi hg
          go_wp2_with fail
          refine (list_ok HLW.out.sto HLW.out.le 3 q (heldN_all 3 (by decide))).mono ?_
          rintro e w5 ⟨v, ks, rfl, R5, u5, L5, A5⟩
          obtain ⟨a2, cap2, rfl, hr2⟩ := R5.form
          have HLW := Hd.mk (HLW.out.up u5)
          obtain ⟨LB, hLB, hgB⟩ := HLW.out.map
          have HGB := Hd.mk hgB
          have HCK := Hd.mk (count_ks L5 hLB hgB)
          have HK := Hd.mk (And.intro L5 A5)
          have HR2 := Hd.mk hr2
          have hk32 : ks.length ≤ 32 := by have := L5.len; omega
          obtain ⟨w6, hrun, r6, u6⟩ := run_range_mp (P := Tryd.prog) Tryd.underlying41 hLB
          have HRN := Hd.mk r6
          have HW := Hd.mk (Nat.le_refl w5.heap.size)
          have HU6 := Hd.mk u6
          have HUF := Hd.mk (HU.out.trans HLW.out.sto.upd (by simp))
          have HMB := Hd.mk hLB.lt
          clear R5 u5 L5 A5 hgB hr2 r6 u6 hLB
          obtain ⟨it, hit⟩ : ∃ it, w5.heap.size = it := ⟨_, rfl⟩
          rw [hit] at hrun HRN HW HMB
          have HIT := Hd.mk hit
          clear hit
          go_upto_region 24 with (fail)
          go_loopg [14, 15] LB.length (fun g s14 s15 wr => ∃ (F : List (ByteArray × Value × Nat)) (c : Nat), Hd (g = F.length) ∧ Rng wr it mb (fun k => .string k) LB F ∧ s14 = .int .i64 c ∧ Hd (c + F.countP (fun x => pre q x.1) = ks.length) ∧ Hd (Upd [] w5 wr))
          case atStart => exact ⟨LB, 0, Hd.mk rfl, HRN.out, rfl, Hd.mk (by rw [Nat.zero_add]; exact HCK.out), HU6⟩
          case round =>
            clear HRN HU6 hrun
            obtain ⟨F, c, HGh, rr, rfl, HC, HU6⟩ := hrel
            rcases run_next_mp (P := Tryd.prog) rr with ⟨rfl, hrun⟩ | ⟨x, w7, hx, hrun, r7, u7', hen⟩
            · have hcn : c = ks.length := by have := HC.out; simpa using this
              subst hcn
              have HRR := Hd.mk rr.mp
              clear rr HGh HC
              go_wp2_with fail
              go_loopg [16, 17, 86] ks.length (fun g s16 s17 ii wq => ∃ i : Nat, g + i = ks.length ∧ ii = .int .i64 i ∧ wq = wr)
              case atStart => exact ⟨0, by omega, rfl, rfl⟩
              case round =>
                clear hrun
                obtain ⟨i, hg, rfl, rfl⟩ := hrel
                by_cases hi : i < ks.length
                · obtain ⟨b, off, rfl, hbw, hc⟩ := HR2.out.upd HU6.out (by omega)
                  have hc0 := hc i hi
                  have hm := (HK.out.1.mem ks[i]).1 (List.getElem_mem hi)
                  have HC0 := Hd.mk hc
                  generalize hxx : ks[i] = x at hc0 hm
                  have HXX := Hd.mk hxx
                  obtain ⟨e1, e2⟩ := pre_yes hm.2.1
                  have e4 := str_yes e2
                  have hmin : ∀ W, (Builtin.min_ #[3, 3] 3 #[.int .i64 q.size, .int .i64 x.size]).run Tryd.prog W = .ok (.int .i64 q.size) W := by
                    intro W
                    by_cases hc : q.size ≤ x.size
                    · simp [Builtin.min_, Builtin.min2]; intro h3; omega
                    · omega
                  have hlk : (Instr.lookup 41 (.map (some mb)) (.string x) false).run Tryd.prog wr = .ok (.bool true) wr := by
                    rw [run_lookup_mp (P := Tryd.prog) (keyLaw_string (kt := 9) Tryd.underlying9) 41 Tryd.underlying41 (.bool false) (fun W => by kernel_rfl) HRR.out x false, HGB.out, if_pos hm.1]
                    rfl
                  have HG := Hd.mk hg
                  clear hc hxx hm hg hbw e2
                  by_cases h0 : i = 0
                  · subst h0
                    rw [Nat.add_zero] at hc0
                    go_wp2_with fail
                    go_roundg (gk - 1)
                    case measure => have := HG.out; omega
                    case rel => exact ⟨1, by have := HG.out; omega, rfl, rfl⟩
                  · obtain ⟨j, rfl⟩ : ∃ j, i = j + 1 := ⟨i - 1, by omega⟩
                    have hj : j < ks.length := by omega
                    have hc1 := HC0.out j hj
                    have hls := less_of HK.out.2 HK.out.1.nodup (Nat.lt_succ_self j) hi hj
                    rw [HXX.out] at hls
                    go_wp2_with fail
                    go_roundg (gk - 1)
                    case measure => have := HG.out; omega
                    case rel => exact ⟨j + 1 + 1, by have := HG.out; omega, by go_num, rfl⟩
                · obtain rfl : i = ks.length := by omega
                  go_wp2_with fail
                  go_ret
                  exact ⟨rb (by simp), HUF.out.trans HU6.out (by simp)⟩
            · have HU7 := Hd.mk (HU6.out.trans u7' (fun k hk e => by rw [List.mem_singleton] at e; have := HIT.out; omega))
              have HR7 := Hd.mk r7
              have HSH := Hd.mk (filter_short hx)
              have hcx := count_step rr hx (fun k => pre q k)
              have HCX := Hd.mk hcx
              have hc32 : c ≤ 32 := by have := HC.out; omega
              clear rr hx r7 u7' hcx HU6
              obtain ⟨xk, xv, xb⟩ := x
              simp only at hrun hen HCX HR7 HSH
              cases hp : pre q xk with
              | true =>
                obtain ⟨e1, e2⟩ := pre_yes hp
                have e3 : decide ((q.size : Int) ≤ xk.size) = true := decide_eq_true (by omega)
                have e4 := str_yes e2
                rw [hp, if_pos rfl] at HCX
                clear hp e2
                go_wp2_with fail
                go_roundg (F.filter fun y => decide (y.1 ≠ xk)).length
                case measure => have := HGh.out; have := HSH.out; omega
                case rel => exact ⟨_, c + 1, Hd.mk rfl, HR7.out, by go_num, Hd.mk (by have := HC.out; have := HCX.out; omega), HU7⟩
              | false =>
                rw [hp, if_neg Bool.false_ne_true] at HCX
                by_cases e1 : q.size ≤ xk.size
                · have e3 : decide ((q.size : Int) ≤ xk.size) = true := decide_eq_true (by omega)
                  have e4 := str_no (a := xk.extract 0 q.size) (b := q) (fun e => by rw [pre_of e] at hp; cases hp)
                  clear hp
                  go_wp2_with fail
                  go_roundg (F.filter fun y => decide (y.1 ≠ xk)).length
                  case measure => have := HGh.out; have := HSH.out; omega
                  case rel => exact ⟨_, c, Hd.mk rfl, HR7.out, rfl, Hd.mk (by have := HC.out; have := HCX.out; omega), HU7⟩
                · have e3 : decide ((q.size : Int) ≤ xk.size) = false := decide_eq_false (by omega)
                  clear hp
                  go_wp2_with fail
                  go_roundg (F.filter fun y => decide (y.1 ≠ xk)).length
                  case measure => have := HGh.out; have := HSH.out; omega
                  case rel => exact ⟨_, c, Hd.mk rfl, HR7.out, rfl, Hd.mk (by have := HC.out; have := HCX.out; omega), HU7⟩
theorem lists_row (a : Option Addr) (len cap : Nat) (q : ByteArray) (w : World) (hT : Tb w) (hz : Leaf.ok w (.sl [.str]) (.slice a len cap)) (hq : q.size ≤ 140737488351232) :
    Calls Tryd.prog 6 #[.slice a len cap, .string q] w fun e w' => e = .returned (.bool true) ∧ Below w.heap.size w w' := by
  obtain ⟨xs, rfl, hR, hx, hz2⟩ := leaf_ss hz
  exact (lists_walk a cap xs q w hR hz2 hx hq hT).mono fun _ _ h => ⟨h.1, h.2.nil_below⟩
end Go.Proofs.YtncahmodmgbacaaDoor
