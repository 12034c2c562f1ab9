/- Maps that are told whole: look-up, store, delete, length; going over one. -/
import Derived.Test.YtndlbkiogagnaaaGreatDoorOps
import Derived.Carry
import Derived.MapKept
namespace Go.Proofs.YtndlbkiogagnaaaGreatDoor
set_option linter.unusedSimpArgs false
set_option linter.unusedVariables false
set_option linter.unnecessarySimpa false
open Go.RowKit
section
set_option linter.unusedSectionVars false
variable {P : Program} {κ : Type} [DecidableEq κ]

/-- An entry: its key, its value, when it was born. -/
def toE (kv : κ → Value) (x : κ × Value × Nat) : MapEntry := ⟨kv x.1, x.2.1, x.2.2⟩
/-- Where a key is. -/
def loc : List (κ × Value × Nat) → κ → Nat → Option (Nat × Value)
  | [], _, _ => none
  | x :: r, k, i => if x.1 = k then some (i, x.2.1) else loc r k (i + 1)
/-- A key's value. -/
def get (L : List (κ × Value × Nat)) (k : κ) : Option Value := (L.find? (fun x => x.1 = k)).map (·.2.1)
/-- A key has a value from now on. -/
def put (L : List (κ × Value × Nat)) (k : κ) (v : Value) (c : Nat) : List (κ × Value × Nat) :=
  if k ∈ L.map (·.1) then L.map (fun x => if x.1 = k then (k, v, x.2.2) else x) else L ++ [(k, v, c)]
/-- It has none. -/
def del (L : List (κ × Value × Nat)) (k : κ) : List (κ × Value × Nat) := L.filter (fun x => x.1 ≠ k)

/-- What the model does with keys of a type. -/
structure KeyLaw (P : Program) (kt : TypeId) (κ : Type) [DecidableEq κ] (kv : κ → Value) : Prop where
  check : ∀ b k w, (Instr.checkKey b 10000 kt (kv k)).run P w = .ok () w
  find : ∀ (L : List (κ × Value × Nat)) k w, (Instr.findKey kt (kv k) (L.map (toE kv))).run P w = .ok (loc L k 0) w
  stays : ∀ k, Instr.sameBits 10000 (kv k) (kv k) = true

theorem findNow_loc {td : TypeDesc} {kv : κ → Value} (h : ∀ a b, Instr.sameNow td (kv a) (kv b) = some (decide (a = b))) (k : κ) (L : List (κ × Value × Nat)) : ∀ i, Instr.findNow td (kv k) (L.map (toE kv)) i = some (loc L k i) := by
  induction L with
  | nil => intro i; rfl
  | cons x r ih =>
    intro i
    simp only [List.map_cons, Instr.findNow, toE, h, loc]
    by_cases hx : x.1 = k
    · subst hx; simp
    · have hx' : ¬ k = x.1 := fun e => hx e.symm
      simp only [hx, hx', decide_false, if_false]
      exact ih (i + 1)

theorem keyLaw_of_now {kt : TypeId} {td : TypeDesc} {kv : κ → Value} (hu : P.underlying kt = some td) (h : ∀ a b, Instr.sameNow td (kv a) (kv b) = some (decide (a = b)))
    (hc : ∀ b k w, (Instr.checkKey b 10000 kt (kv k)).run P w = .ok () w) (hs : ∀ k, Instr.sameBits 10000 (kv k) (kv k) = true) : KeyLaw P kt κ kv where
  check := hc
  stays := hs
  find := fun L k w => by simp [Instr.findKey, run_underlying hu, findNow_loc h k L 0]

theorem ba_beq (a b : ByteArray) : (a == b) = decide (a = b) := by
  rw [Bool.eq_iff_iff, decide_eq_true_iff]
  cases a with | mk x => cases b with | mk y =>
  show ((x == y) = true) ↔ _
  simp
theorem keyLaw_int {kt : TypeId} (hu : P.underlying kt = some (.int .i64)) : KeyLaw P kt Int (fun k => .int .i64 k) :=
  keyLaw_of_now hu (fun a b => by simp only [Instr.sameNow, if_true]; congr 1) (fun b k w => by unfold Instr.checkKey; simp [run_underlying hu]) (fun k => by simp [Instr.sameBits])
theorem keyLaw_bool {kt : TypeId} (hu : P.underlying kt = some .bool) : KeyLaw P kt Bool (fun k => .bool k) :=
  keyLaw_of_now hu (fun a b => by simp only [Instr.sameNow]; congr 1) (fun b k w => by unfold Instr.checkKey; simp [run_underlying hu]) (fun k => by simp [Instr.sameBits])
theorem keyLaw_string {kt : TypeId} (hu : P.underlying kt = some .string) : KeyLaw P kt ByteArray (fun k => .string k) :=
  keyLaw_of_now hu (fun a b => by simp only [Instr.sameNow, ba_beq]) (fun b k w => by unfold Instr.checkKey; simp [run_underlying hu]) (fun k => by simp [Instr.sameBits, ba_beq])

/-- The map in block r has these entries. -/
def Mp (w : World) (r : Nat) (kv : κ → Value) (L : List (κ × Value × Nat)) : Prop :=
  ∃ c, w.heap[r]? = some (.map (L.map (toE kv)).toArray c) ∧ (L.map (·.1)).Nodup ∧ (∀ x ∈ L, x.2.2 < c) ∧ (L.map (·.2.2)).Nodup

theorem Mp.lt {w : World} {r : Nat} {kv : κ → Value} {L : List (κ × Value × Nat)} (h : Mp w r kv L) : r < w.heap.size := by
  obtain ⟨c, h, -⟩ := h; exact (Array.getElem?_eq_some_iff.1 h).1
theorem Mp.upd {w w' : World} {S : List Nat} {r : Nat} {kv : κ → Value} {L : List (κ × Value × Nat)} (h : Mp w r kv L) (hu : Upd S w w') (hr : r ∉ S) : Mp w' r kv L := by
  have := h.lt
  obtain ⟨c, h1, h2⟩ := h
  exact ⟨c, (hu.block r this hr).trans h1, h2⟩
theorem Mp.other {w : World} {r : Nat} {kv : κ → Value} {L : List (κ × Value × Nat)} (h : Mp w r kv L) (t : TypeId) (cs : List Value) : ¬ Blk w r cs t := by
  intro hb
  obtain ⟨c, h, -⟩ := h
  unfold Blk at hb
  rw [h] at hb
  cases hb
theorem Mp.new (w : World) (kv : κ → Value) : Mp (w.alloc (.map #[] 0)) w.heap.size kv ([] : List (κ × Value × Nat)) :=
  ⟨0, by show (w.heap.push _)[w.heap.size]? = _; simp, by simp, by simp, by simp⟩

theorem get_nil (k : κ) : get [] k = none := rfl
theorem get_mem {L : List (κ × Value × Nat)} {k : κ} {v : Value} (h : get L k = some v) : ∃ b, (k, v, b) ∈ L := by
  unfold get at h
  obtain ⟨x, hx, rfl⟩ := Option.map_eq_some_iff.1 h
  have h1 := List.mem_of_find?_eq_some hx
  have h2 := List.find?_some hx
  simp at h2
  subst h2
  exact ⟨x.2.2, h1⟩
theorem get_none {L : List (κ × Value × Nat)} {k : κ} : get L k = none ↔ k ∉ L.map (·.1) := by
  unfold get
  simp only [Option.map_eq_none_iff, List.find?_eq_none, decide_eq_true_eq, List.mem_map, not_exists, not_and]
theorem get_isSome {L : List (κ × Value × Nat)} {k : κ} : (get L k).isSome = true ↔ k ∈ L.map (·.1) := by
  cases h : get L k with
  | none => have := get_none.1 h; simp [this]
  | some v =>
    obtain ⟨b, hb⟩ := get_mem h
    simp only [Option.isSome_some, true_iff]
    exact List.mem_map.2 ⟨_, hb, rfl⟩
theorem get_of_mem {L : List (κ × Value × Nat)} (hn : (L.map (·.1)).Nodup) {x : κ × Value × Nat} (h : x ∈ L) : get L x.1 = some x.2.1 := by
  induction L with
  | nil => cases h
  | cons y r ih =>
    simp only [List.map_cons, List.nodup_cons] at hn
    unfold get
    rw [List.find?_cons]
    rcases List.mem_cons.1 h with rfl | h
    · simp
    · have hne : y.1 ≠ x.1 := fun e => hn.1 (e ▸ List.mem_map.2 ⟨x, h, rfl⟩)
      simp only [hne, decide_false]
      exact ih hn.2 h
theorem get_put (L : List (κ × Value × Nat)) (k : κ) (v : Value) (c : Nat) (k' : κ) : get (put L k v c) k' = if k' = k then some v else get L k' := by
  unfold put
  by_cases hk : k ∈ L.map (·.1)
  · rw [if_pos hk]
    induction L with
    | nil => simp at hk
    | cons x r ih =>
      unfold get at ih ⊢
      simp only [List.map_cons, List.find?_cons]
      by_cases hx : x.1 = k
      · subst hx
        simp only [if_true]
        by_cases hk' : k' = x.1
        · subst hk'; simp
        · have h2 : ¬ x.1 = k' := fun e => hk' e.symm
          simp only [h2, decide_false, hk', if_false]
          by_cases hr : x.1 ∈ r.map (·.1)
          · have := ih hr; simp only [hk', if_false] at this; exact this
          · congr 1
            have : r.map (fun y => if y.1 = x.1 then (x.1, v, y.2.2) else y) = r := by
              conv => rhs; rw [← List.map_id r]
              apply List.map_congr_left
              intro y hy
              rw [if_neg (fun e => hr (List.mem_map.2 ⟨y, hy, e⟩))]; rfl
            rw [this]
      · have hr : k ∈ r.map (·.1) := by
          rw [List.map_cons] at hk
          rcases List.mem_cons.1 hk with e | e
          · exact absurd e.symm hx
          · exact e
        simp only [hx, if_false]
        by_cases hxk : x.1 = k'
        · have h2 : ¬ k' = k := fun e => hx (hxk.trans e)
          simp [hxk, h2]
        · simp only [hxk, decide_false]
          exact ih hr
  · rw [if_neg hk]
    unfold get
    rw [List.find?_append]
    by_cases hk' : k' = k
    · subst hk'
      have : L.find? (fun x => x.1 = k') = none := by
        rw [List.find?_eq_none]
        intro x hx
        simp only [decide_eq_true_eq]
        exact fun e => hk (List.mem_map.2 ⟨x, hx, e⟩)
      simp [this]
    · have h2 : ¬ k = k' := fun e => hk' e.symm
      cases hf : L.find? (fun x => x.1 = k') <;> simp [hk', h2]
theorem get_del (L : List (κ × Value × Nat)) (k k' : κ) : get (del L k) k' = if k' = k then none else get L k' := by
  unfold get del
  by_cases hk : k' = k
  · subst hk
    simp
  · simp only [hk, if_false]
    congr 1
    rw [List.find?_filter]
    congr 1
    funext x
    by_cases hx : x.1 = k'
    · simp [hx, hk]
    · simp [hx]
theorem put_len (L : List (κ × Value × Nat)) (k : κ) (v : Value) (c : Nat) : (put L k v c).length = if (get L k).isSome then L.length else L.length + 1 := by
  unfold put
  by_cases hk : k ∈ L.map (·.1)
  · rw [if_pos hk, if_pos (get_isSome.2 hk)]; simp
  · rw [if_neg hk, if_neg (fun e => hk (get_isSome.1 e))]; simp
theorem put_keys (L : List (κ × Value × Nat)) (k : κ) (v : Value) (c : Nat) : (put L k v c).map (·.1) = if k ∈ L.map (·.1) then L.map (·.1) else L.map (·.1) ++ [k] := by
  unfold put
  by_cases hk : k ∈ L.map (·.1)
  · rw [if_pos hk, if_pos hk, List.map_map]
    apply List.map_congr_left
    intro x _
    simp only [Function.comp]
    by_cases hx : x.1 = k <;> simp [hx]
  · rw [if_neg hk, if_neg hk]; simp
theorem del_len (L : List (κ × Value × Nat)) (hn : (L.map (·.1)).Nodup) (k : κ) : (del L k).length + (if (get L k).isSome then 1 else 0) = L.length := by
  unfold del
  induction L with
  | nil => simp [get]
  | cons x r ih =>
    simp only [List.map_cons, List.nodup_cons] at hn
    have ih := ih hn.2
    by_cases hx : x.1 = k
    · have h1 : (get (x :: r) k).isSome = true := get_isSome.2 (by simp [hx])
      have h2 : (get r k).isSome = false := by
        cases h : (get r k).isSome with
        | false => rfl
        | true => exact absurd (get_isSome.1 h) (hx ▸ hn.1)
      rw [h1]
      rw [h2] at ih
      simp [hx] at ih ⊢
      omega
    · have h1 : get (x :: r) k = get r k := by unfold get; rw [List.find?_cons]; simp [hx]
      rw [h1]
      simp [hx] at ih ⊢
      omega
theorem loc_get (L : List (κ × Value × Nat)) (k : κ) : ∀ i, (loc L k i).map (·.2) = get L k := by
  induction L with
  | nil => intro i; rfl
  | cons x r ih =>
    intro i
    unfold loc get
    rw [List.find?_cons]
    by_cases hx : x.1 = k
    · simp [hx]
    · simp only [hx, if_false, decide_false]; exact ih (i + 1)
theorem loc_none {L : List (κ × Value × Nat)} {k : κ} {i : Nat} (h : loc L k i = none) : k ∉ L.map (·.1) := by
  have := loc_get L k i
  rw [h] at this
  exact get_none.1 this.symm
theorem loc_some {L : List (κ × Value × Nat)} {k : κ} : ∀ {i j : Nat} {v : Value}, loc L k i = some (j, v) → ∃ n, j = i + n ∧ ∃ b, L[n]? = some (k, v, b) := by
  induction L with
  | nil => intro i j v h; cases h
  | cons x r ih =>
    intro i j v h
    unfold loc at h
    by_cases hx : x.1 = k
    · simp only [hx, if_true, Option.some.injEq, Prod.mk.injEq] at h
      obtain ⟨rfl, rfl⟩ := h
      exact ⟨0, rfl, x.2.2, by simp [← hx]⟩
    · simp only [hx, if_false] at h
      obtain ⟨n, rfl, b, hb⟩ := ih h
      exact ⟨n + 1, by omega, b, by simpa using hb⟩
theorem modify_put {L : List (κ × Value × Nat)} (hn : (L.map (·.1)).Nodup) {n : Nat} {k : κ} {v0 v : Value} {b c : Nat} (h : L[n]? = some (k, v0, b)) : L.modify n (fun x => (k, v, x.2.2)) = put L k v c := by
  have hk : k ∈ L.map (·.1) := List.mem_map.2 ⟨_, List.mem_of_getElem? h, rfl⟩
  unfold put
  rw [if_pos hk]
  apply List.ext_getElem?
  intro j
  rw [List.getElem?_modify, List.getElem?_map]
  by_cases hj : n = j
  · subst hj; rw [h]; simp
  · cases hx : L[j]? with
    | none => simp [hj]
    | some x =>
      have hne : x.1 ≠ k := by
        intro e
        have h1 : (L.map (·.1))[n]? = some k := by simp [h]
        have h2 : (L.map (·.1))[j]? = some k := by simp [hx, e]
        have l1 : n < (L.map (·.1)).length := (List.getElem?_eq_some_iff.1 h1).1
        exact hj ((List.getElem?_inj l1 hn).1 (h1.trans h2.symm))
      simp [hj, hne]
theorem erase_del {L : List (κ × Value × Nat)} (hn : (L.map (·.1)).Nodup) {n : Nat} {k : κ} {v0 : Value} {b : Nat} (h : L[n]? = some (k, v0, b)) : L.eraseIdx n = del L k := by
  unfold del
  induction L generalizing n with
  | nil => simp at h
  | cons x r ih =>
    simp only [List.map_cons, List.nodup_cons] at hn
    cases n with
    | zero =>
      simp only [List.getElem?_cons_zero, Option.some.injEq] at h
      subst h
      simp only [List.eraseIdx_cons_zero]
      rw [List.filter_cons_of_neg (by simp)]
      symm
      rw [List.filter_eq_self]
      intro y hy
      simp only [decide_eq_true_eq, ne_eq]
      exact fun e => hn.1 (List.mem_map.2 ⟨y, hy, e⟩)
    | succ n =>
      simp only [List.getElem?_cons_succ] at h
      have hne : x.1 ≠ k := fun e => hn.1 (List.mem_map.2 ⟨_, List.mem_of_getElem? h, e.symm⟩)
      rw [List.eraseIdx_cons_succ, ih hn.2 h, List.filter_cons_of_pos (by simpa using hne)]

/-! ### At the operations -/

theorem run_lookup_mp {kt et : TypeId} {kv : κ → Value} (K : KeyLaw P kt κ kv) (t : TypeId) (hu : P.underlying t = some (.map kt et)) (z : Value) (hz : ∀ w, (zeroValue et).run P w = .ok z w)
    {w : World} {r : Nat} {L : List (κ × Value × Nat)} (h : Mp w r kv L) (k : κ) (ok : Bool) :
    (Instr.lookup t (.map (some r)) (kv k) ok).run P w = .ok (if ok then .tuple #[(get L k).getD z, .bool (get L k).isSome] else (get L k).getD z) w := by
  obtain ⟨c, hb, -⟩ := h
  have hl := loc_get L k 0
  cases hq : loc L k 0 with
  | none =>
    rw [hq] at hl
    simp only [Option.map_none] at hl
    rw [← hl]
    cases ok <;> simp [Instr.lookup, run_underlying hu, MapKept.run_getObj_map hb, K.check, K.find, hq, hz]
  | some x =>
    rw [hq] at hl
    simp only [Option.map_some] at hl
    rw [← hl]
    cases ok <;> simp [Instr.lookup, run_underlying hu, MapKept.run_getObj_map hb, K.check, K.find, hq]

theorem run_lookup_nil {kt et : TypeId} {kv : κ → Value} (K : KeyLaw P kt κ kv) (t : TypeId) (hu : P.underlying t = some (.map kt et)) (z : Value) (hz : ∀ w, (zeroValue et).run P w = .ok z w)
    (w : World) (k : κ) (ok : Bool) : (Instr.lookup t (.map none) (kv k) ok).run P w = .ok (if ok then .tuple #[z, .bool false] else z) w := by
  have := K.find [] k w
  simp only [List.map_nil, loc] at this
  cases ok <;> simp [Instr.lookup, run_underlying hu, K.check, this, hz]

theorem heap_set_same (w : World) (r : Nat) (o : Obj) (hr : r < w.heap.size) : ({ w with heap := w.heap.setIfInBounds r o } : World).heap[r]? = some o := by
  show (w.heap.setIfInBounds r o)[r]? = some o
  rw [Array.getElem?_setIfInBounds_self_of_lt hr]
theorem Upd.obj (w : World) (r : Nat) (o : Obj) : Upd [r] w { w with heap := w.heap.setIfInBounds r o } :=
  ⟨rfl, rfl, rfl, by simp, fun k _ hS => by
    show (w.heap.setIfInBounds r o)[k]? = _
    exact Array.getElem?_setIfInBounds_ne (fun e => hS (by simp [e]))⟩

theorem toE_list (kv : κ → Value) (L : List (κ × Value × Nat)) (n : Nat) (k : κ) (v : Value) :
    ((L.map (toE kv)).toArray.modify n fun e => { e with key := kv k, val := v }) = ((L.modify n (fun x => (k, v, x.2.2))).map (toE kv)).toArray := by
  apply Array.ext'
  simp only [Array.toList_modify]
  apply List.ext_getElem?
  intro j
  simp only [List.getElem?_modify, List.getElem?_map]
  cases L[j]? <;> simp [toE]
  split <;> rfl

theorem run_update_mp {kt et : TypeId} {kv : κ → Value} (K : KeyLaw P kt κ kv) (t : TypeId) (hu : P.underlying t = some (.map kt et))
    {w : World} {r : Nat} {L : List (κ × Value × Nat)} (h : Mp w r kv L) (k : κ) (v : Value) :
    ∃ c w', (Instr.mapUpdate t (.map (some r)) (kv k) v).run P w = .ok () w' ∧ Mp w' r kv (put L k v c) ∧ Upd [r] w w' := by
  have hr := h.lt
  obtain ⟨c, hb, hn, hc, hd⟩ := h
  cases hq : loc L k 0 with
  | none =>
    have hk := loc_none hq
    refine ⟨c, { w with heap := w.heap.setIfInBounds r (.map (L.map (toE kv) ++ [(⟨kv k, v, c⟩ : MapEntry)]).toArray (c + 1)) }, by simp [Instr.mapUpdate, run_underlying hu, MapKept.run_getObj_map hb, MapKept.run_setObj_map _ hb, K.check, K.find, hq], ⟨c + 1, ?_, ?_, ?_, ?_⟩, Upd.obj _ _ _⟩
    · rw [heap_set_same _ _ _ hr]
      unfold put
      rw [if_neg hk]
      simp [toE]
    · rw [put_keys, if_neg hk, List.nodup_append]
      exact ⟨hn, by simp, fun a ha b hb2 e => hk (by simp at hb2; rw [← hb2, ← e]; exact ha)⟩
    · intro x hx
      unfold put at hx
      rw [if_neg hk] at hx
      rcases List.mem_append.1 hx with hx | hx
      · have := hc x hx; omega
      · simp at hx; subst hx; simp
    · unfold put
      rw [if_neg hk]
      simp only [List.map_append, List.map_cons, List.map_nil, List.nodup_append]
      refine ⟨hd, by simp, fun a ha b hb2 e => ?_⟩
      simp at hb2
      obtain ⟨x, hx, rfl⟩ := List.mem_map.1 ha
      have := hc x hx
      omega
  | some x =>
    obtain ⟨j, v0⟩ := x
    obtain ⟨n, hj, b, hL⟩ := loc_some hq
    simp only [Nat.zero_add] at hj
    subst hj
    have hk : k ∈ L.map (·.1) := List.mem_map.2 ⟨_, List.mem_of_getElem? hL, rfl⟩
    have hp : put L k v c = L.modify j (fun x => (k, v, x.2.2)) := (modify_put hn hL).symm
    refine ⟨c, { w with heap := w.heap.setIfInBounds r (.map ((L.map (toE kv)).toArray.modify j fun e => { e with key := kv k, val := v }) c) }, by simp [Instr.mapUpdate, run_underlying hu, MapKept.run_getObj_map hb, MapKept.run_setObj_map _ hb, K.check, K.find, hq, hL, toE, Instr.keyThatStays, K.stays], ⟨c, ?_, ?_, ?_, ?_⟩, Upd.obj _ _ _⟩
    · rw [heap_set_same _ _ _ hr, hp]
      rw [toE_list kv L j k v]
    · rw [put_keys, if_pos hk]; exact hn
    · intro x hx
      unfold put at hx
      rw [if_pos hk] at hx
      obtain ⟨y, hy, rfl⟩ := List.mem_map.1 hx
      have := hc y hy
      split <;> simpa using this
    · unfold put
      rw [if_pos hk, List.map_map]
      have : L.map ((fun x : κ × Value × Nat => x.2.2) ∘ fun x => if x.1 = k then (k, v, x.2.2) else x) = L.map (·.2.2) := by
        apply List.map_congr_left
        intro x _
        simp only [Function.comp]
        split <;> rfl
      rw [this]; exact hd

theorem map_eraseIdx {α β : Type} (f : α → β) : ∀ (l : List α) (j : Nat), (l.map f).eraseIdx j = (l.eraseIdx j).map f
  | [], _ => rfl
  | _ :: _, 0 => rfl
  | x :: r, j + 1 => by simp [map_eraseIdx f r j]

theorem run_delete_mp {kt et : TypeId} {kv : κ → Value} (K : KeyLaw P kt κ kv) (t kt' ty : TypeId) (hu : P.underlying t = some (.map kt et))
    {w : World} {r : Nat} {L : List (κ × Value × Nat)} (h : Mp w r kv L) (k : κ) :
    ∃ w', (Builtin.delete_ #[t, kt'] ty #[.map (some r), kv k]).run P w = .ok (.tuple #[]) w' ∧ Mp w' r kv (del L k) ∧ Upd [r] w w' := by
  have hr := h.lt
  obtain ⟨c, hb, hn, hc, hd⟩ := h
  have sub : ∀ {α : Type} (f : κ × Value × Nat → α), ((del L k).map f).Sublist (L.map f) := fun f => (List.filter_sublist (p := fun x : κ × Value × Nat => decide (x.1 ≠ k)) (l := L)).map f
  have hc' : ∀ x ∈ del L k, x.2.2 < c := fun x hx => hc x (List.mem_filter.1 hx).1
  cases hq : loc L k 0 with
  | none =>
    have hk := loc_none hq
    have he : del L k = L := by
      unfold del
      rw [List.filter_eq_self]
      intro x hx
      simp only [decide_eq_true_eq, ne_eq]
      exact fun e => hk (List.mem_map.2 ⟨x, hx, e⟩)
    refine ⟨{ w with heap := w.heap.setIfInBounds r (.map (L.map (toE kv)).toArray c) }, by simp [Builtin.delete_, run_underlying hu, MapKept.run_getObj_map hb, MapKept.run_setObj_map _ hb, K.check, K.find, hq], ⟨c, ?_, ?_, hc', ?_⟩, Upd.obj _ _ _⟩
    · rw [heap_set_same _ _ _ hr, he]
    · rw [he]; exact hn
    · rw [he]; exact hd
  | some x =>
    obtain ⟨j, v0⟩ := x
    obtain ⟨n, hj, b, hL⟩ := loc_some hq
    simp only [Nat.zero_add] at hj
    subst hj
    refine ⟨{ w with heap := w.heap.setIfInBounds r (.map ((L.map (toE kv)).toArray.eraseIdxIfInBounds j) c) }, by simp [Builtin.delete_, run_underlying hu, MapKept.run_getObj_map hb, MapKept.run_setObj_map _ hb, K.check, K.find, hq], ⟨c, ?_, hn.sublist (sub _), hc', hd.sublist (sub _)⟩, Upd.obj _ _ _⟩
    rw [heap_set_same _ _ _ hr, ← erase_del hn hL]
    congr 2
    apply Array.ext'
    simp [map_eraseIdx]

theorem wpList_lookup_mp {ops : Array Oper} {rest : List Oper} {o : Oper} {a : Act} {w : World} {Q : Exit → Act → World → Prop} {kt et : TypeId} {kv : κ → Value} (K : KeyLaw P kt κ kv) (hgd : o.guard = none) (t : TypeId) (m x : Operand) (ok : Bool) (ho : o.op = .lookup t m x ok)
    (hu : P.underlying t = some (.map kt et)) (z : Value) (hz : ∀ w, (zeroValue et).run P w = .ok z w) {r : Nat} {L : List (κ × Value × Nat)} (h : Mp w r kv L) (k : κ) (hm : a.eval m = .map (some r)) (hx : a.eval x = kv k)
    (hK : wpList P ops Q rest (a.put o.dst (if ok then .tuple #[(get L k).getD z, .bool (get L k).isSome] else (get L k).getD z)) w) : wpList P ops Q (o :: rest) a w := by
  refine wpList_plain hgd fun K' hK' => ?_
  unfold Oper.wp execOp
  simp only [ho, hm, hx, run_lookup_mp K t hu z hz h k ok, Sem.run_bind, Sem.run_pure, Result.andThen_ok]
  exact hK' _ _ hK

theorem wpList_update_mp {ops : Array Oper} {rest : List Oper} {o : Oper} {a : Act} {w : World} {Q : Exit → Act → World → Prop} {kt et : TypeId} {kv : κ → Value} (K : KeyLaw P kt κ kv) (hgd : o.guard = none) (hdst : o.dst = none) (t : TypeId) (m x y : Operand) (ho : o.op = .mapUpdate t m x y)
    (hu : P.underlying t = some (.map kt et)) {r : Nat} {L : List (κ × Value × Nat)} (h : Mp w r kv L) (k : κ) (v : Value) (hm : a.eval m = .map (some r)) (hx : a.eval x = kv k) (hy : a.eval y = v)
    (hK : ∀ c w', Mp w' r kv (put L k v c) → Upd [r] w w' → wpList P ops Q rest a w') : wpList P ops Q (o :: rest) a w := by
  refine wpList_plain hgd fun K' hK' => ?_
  obtain ⟨c, w', hr, h1, h2⟩ := run_update_mp K t hu h k v
  unfold Oper.wp execOp
  simp only [ho, hm, hx, hy, hr, Sem.run_bind, Sem.run_pure, Result.andThen_ok]
  show K' (a.put o.dst undef) w'
  rw [hdst]
  exact hK' _ _ (hK c w' h1 h2)

theorem wpList_delete_mp {ops : Array Oper} {rest : List Oper} {o : Oper} {a : Act} {w : World} {Q : Exit → Act → World → Prop} {kt et : TypeId} {kv : κ → Value} (K : KeyLaw P kt κ kv) (hgd : o.guard = none) (t kt' : TypeId) (m x : Operand)
    (ho : o.op = .call { callee := .builtin .delete, args := #[m, x], argTypes := #[t, kt'] })
    (hu : P.underlying t = some (.map kt et)) {r : Nat} {L : List (κ × Value × Nat)} (h : Mp w r kv L) (k : κ) (hm : a.eval m = .map (some r)) (hx : a.eval x = kv k)
    (hK : ∀ w', Mp w' r kv (del L k) → Upd [r] w w' → wpList P ops Q rest (a.put o.dst (.tuple #[])) w') : wpList P ops Q (o :: rest) a w := by
  refine wpList_plain hgd fun K' hK' => ?_
  obtain ⟨w', hr, h1, h2⟩ := run_delete_mp K t kt' o.type hu h k
  unfold Oper.wp execOp
  simp only [ho, resolve, invoke, builtin, Sem.run_bind, Sem.run_pure, Result.andThen_ok, List.map_toArray, List.map_cons, List.map_nil, hm, hx, hr]
  exact hK' _ _ (hK w' h1 h2)
end
end Go.Proofs.YtndlbkiogagnaaaGreatDoor
