/- StoreRuns: what the law has beside the store: its own map of strings, its counts. -/
import Derived.Test.YtncahmodmgbacaaDoorS14
namespace Go.Proofs.YtncahmodmgbacaaDoor
set_option linter.unusedSimpArgs false
set_option linter.unusedVariables false
set_option linter.unnecessarySimpa false
open Go.RowKit BigFrame

/-- The law's own map of strings. -/
def MO (w : World) (mb : Nat) (m : St) : Prop := ∃ L, Mp w mb (fun k => .string k) L ∧ ∀ k, get L k = (m k).map .string
theorem MO.upd {w w' : World} {S : List Nat} {mb : Nat} {m : St} (h : MO w mb m) (hu : Upd S w w') (hr : mb ∉ S) : MO w' mb m := by
  obtain ⟨L, h1, h2⟩ := h
  exact ⟨L, h1.upd hu hr, h2⟩
theorem MO.look {w : World} {mb : Nat} {m : St} (h : MO w mb m) (k : ByteArray) {x : Option ByteArray} (hx : m k = x) :
    (Instr.lookup 50 (.map (some mb)) (.string k) true).run Tryd.prog w = .ok (.tuple #[.string (x.getD ⟨#[]⟩), .bool x.isSome]) w := by
  obtain ⟨L, hL, hg⟩ := h
  exact look_sv hL k (by rw [hg, hx])
theorem MO.put {w : World} {mb : Nat} {m : St} (h : MO w mb m) (k v : ByteArray) :
    ∃ w', (Instr.mapUpdate 50 (.map (some mb)) (.string k) (.string v)).run Tryd.prog w = .ok () w' ∧ MO w' mb (setM m k (some v)) ∧ Upd [mb] w w' := by
  obtain ⟨L, hL, hg⟩ := h
  obtain ⟨c, w', hr, h3, h4⟩ := run_update_mp (P := Tryd.prog) (keyLaw_string (kt := 9) Tryd.underlying9) 50 Tryd.underlying50 hL k (.string v)
  refine ⟨w', hr, ⟨_, h3, fun k' => ?_⟩, h4⟩
  rw [get_put, hg]
  unfold setM
  by_cases e : k' = k
  · rw [if_pos e, if_pos e]; rfl
  · rw [if_neg e, if_neg e]
theorem MO.drop {w : World} {mb : Nat} {m : St} (h : MO w mb m) (k : ByteArray) :
    ∃ w', (Builtin.delete_ #[50, 9] 0 #[.map (some mb), .string k]).run Tryd.prog w = .ok (.tuple #[]) w' ∧ MO w' mb (setM m k none) ∧ Upd [mb] w w' := by
  obtain ⟨L, hL, hg⟩ := h
  obtain ⟨w', hr, h3, h4⟩ := run_delete_mp (P := Tryd.prog) (keyLaw_string (kt := 9) Tryd.underlying9) 50 9 0 Tryd.underlying50 hL k
  refine ⟨w', hr, ⟨_, h3, fun k' => ?_⟩, h4⟩
  rw [get_del, hg]
  unfold setM
  by_cases e : k' = k
  · rw [if_pos e, if_pos e]; rfl
  · rw [if_neg e, if_neg e]
/-- What the law has: the store, its map, its counts. -/
structure Rx (w1 w : World) (p : Nat) (r : Nat → Nat) (mb cb : Nat) (o : Nat → Int) (m : St) (n : Nat → Nat) : Prop where
  sto : Sto w1 w p r o m n
  map : MO w mb m
  mne : mb ∉ foot p r
  mnew : w1.heap.size ≤ mb
  cnt : Blk w cb (ccells n) 45
  cnew : w1.heap.size ≤ cb
  le : ∀ i, i < 4 → n i ≤ 8
  val : ∀ k v, m k = some v → v.size ≤ 1000
  right : ∀ k, rightK k = false → m k = none
theorem Rx.up {w1 w w' : World} {p mb cb : Nat} {r : Nat → Nat} {o : Nat → Int} {m : St} {n : Nat → Nat} (h : Rx w1 w p r mb cb o m n) (hu : Upd [] w w') : Rx w1 w' p r mb cb o m n :=
  ⟨h.sto.up hu, h.map.upd hu (by simp), h.mne, h.mnew, hu.blk h.cnt (by simp), h.cnew, h.le, h.val, h.right⟩
/-- The store's own blocks have changed. -/
theorem Rx.changed {w1 w w' : World} {p mb cb : Nat} {r : Nat → Nat} {o o' : Nat → Int} {m m' : St} {n n' : Nat → Nat} (h : Rx w1 w p r mb cb o m n) {S : List Nat} (hu : Upd S w w') (hS : ∀ k, k ∈ S → k ∈ foot p r) (hs : Sto w1 w' p r o' m' n') :
    MO w' mb m ∧ Blk w' cb (ccells n) 45 ∧ Sto w1 w' p r o' m' n' :=
  ⟨h.map.upd hu (fun e => h.mne (hS _ e)), hu.blk h.cnt (fun e => h.sto.notBlk h.cnt (by decide) (hS _ e)), hs⟩
theorem Rx.locked {w1 w w' : World} {p mb cb : Nat} {r : Nat → Nat} {o o' : Nat → Int} {m : St} {n : Nat → Nat} (h : Rx w1 w p r mb cb o m n) (hu : Upd [p] w w') (hs : Sto w1 w' p r o' m n) : Rx w1 w' p r mb cb o' m n := by
  obtain ⟨h1, h2, h3⟩ := h.changed hu (fun k hk => by rw [List.mem_singleton] at hk; rw [hk]; simp [foot]) hs
  exact ⟨h3, h1, h.mne, h.mnew, h2, h.cnew, h.le, h.val, h.right⟩
theorem Rx.cell {w1 w : World} {p mb cb : Nat} {r : Nat → Nat} {o : Nat → Int} {m : St} {n : Nat → Nat} (h : Rx w1 w p r mb cb o m n) {q : Nat} (hq : q < 4) : w.cell? ⟨cb, q, none⟩ = some (.int .i64 (n q)) :=
  (h.cnt.cell q).trans (ccells_at n q hq)
theorem MO.notBlk {w : World} {mb cb : Nat} {m : St} (h : MO w mb m) {cs : List Value} {t : TypeId} (hb : Blk w cb cs t) : mb ≠ cb := by
  obtain ⟨L, hL, -⟩ := h
  intro e
  subst e
  exact hL.other _ _ hb
/-- The law has counted, and put into its map; the store has done so in its turn: as the law has it. -/
theorem Rx.step {w1 w wa w' : World} {p mb cb : Nat} {r : Nat → Nat} {o : Nat → Int} {m : St} {n : Nat → Nat} (h : Rx w1 w p r mb cb o m n) (k : ByteArray) (x : Option ByteArray) (c : Nat)
    (hc : Blk wa cb (ccells (setN n (shd k) c)) 45) (hm : MO wa mb (setM m k x)) (hu : Upd [r (shd k)] wa w') (hs : Sto w1 w' p r o (setM m k x) (setN n (shd k) c)) (hc8 : c ≤ 8) (hx : ∀ v, x = some v → v.size ≤ 1000) (hr : rightK k = true) :
    Rx w1 w' p r mb cb o (setM m k x) (setN n (shd k) c) := by
  have hf := shd_foot p r k
  refine ⟨hs, hm.upd hu (fun e => ?_), h.mne, h.mnew, hu.blk hc (fun e => ?_), h.cnew, fun i hi => ?_, fun k' v hv => ?_, fun k' hk' => ?_⟩
  · rw [List.mem_singleton] at e; exact h.mne (e ▸ hf)
  · rw [List.mem_singleton] at e
    exact h.sto.notBlk h.cnt (by decide) (e ▸ hf)
  · unfold setN
    split
    · exact hc8
    · exact h.le i hi
  · unfold setM at hv
    split at hv
    · exact hx v hv
    · exact h.val k' v hv
  · unfold setM
    rw [if_neg (fun e => by rw [e, hr] at hk'; cases hk')]
    exact h.right k' hk'
/-- The law counts. -/
theorem Rx.count {w1 w : World} {p mb cb : Nat} {r : Nat → Nat} {o : Nat → Int} {m : St} {n : Nat → Nat} (h : Rx w1 w p r mb cb o m n) {q : Nat} (hq : q < 4) (c : Nat) :
    Sto w1 (w.setCell ⟨cb, q, none⟩ (.int .i64 c)) p r o m n ∧ MO (w.setCell ⟨cb, q, none⟩ (.int .i64 c)) mb m ∧ Blk (w.setCell ⟨cb, q, none⟩ (.int .i64 c)) cb (ccells (setN n q c)) 45 := by
  have hu : Upd [cb] w (w.setCell ⟨cb, q, none⟩ (.int .i64 c)) := (Upd.refl [cb] _).set _ _ (by simp)
  refine ⟨h.sto.beside1 hu (h.sto.notBlk h.cnt (by decide)) h.cnew, h.map.upd hu (fun e => h.map.notBlk h.cnt (by simpa using e)), ?_⟩
  have := h.cnt.set q (.int .i64 c)
  rw [ccells_set n q c hq] at this
  exact this
/-- A tag that the law tells. -/
def lawTag (t : Int) (x : Option ByteArray) : ByteArray := if t = 1 then tagS (x.getD ⟨#[]⟩) else if t = 2 then tagS (x.getD ⟨#[]⟩) ++ ⟨#[120]⟩ else ⟨#[]⟩
theorem lawTag_ok (t : Int) (x : Option ByteArray) : tagOk x (lawTag t x) = (decide ((lawTag t x).size = 0) || (x.isSome && decide (t = 1))) := by
  unfold lawTag
  by_cases h1 : t = 1
  · rw [if_pos h1]
    have h0 := tagS_pos (x.getD ⟨#[]⟩)
    cases x with
    | none => rw [tagOk_none h0, decide_eq_false h0]; rfl
    | some v => rw [Option.getD_some, tagOk_yes]; simp [h1]
  · rw [if_neg h1]
    by_cases h2 : t = 2
    · rw [if_pos h2]
      have h0 := tagS_pos (x.getD ⟨#[]⟩)
      have hz : (tagS (x.getD ⟨#[]⟩) ++ ⟨#[120]⟩).size = (tagS (x.getD ⟨#[]⟩)).size + 1 := by rw [ByteArray.size_append]; rfl
      have h3 : (tagS (x.getD ⟨#[]⟩) ++ ⟨#[120]⟩).size ≠ 0 := by omega
      have h4 : ¬ (decide ((tagS (x.getD ⟨#[]⟩) ++ ⟨#[120]⟩).size = 0) = true) := by simpa using h3
      cases x with
      | none => rw [tagOk_none h3, decide_eq_false h3]; rfl
      | some v =>
        rw [Option.getD_some] at *
        rw [tagOk_no (fun e => by have := congrArg ByteArray.size e; omega) h3, decide_eq_false h3, decide_eq_false h1]
        rfl
    · rw [if_neg h2]
      unfold tagOk
      rw [decide_eq_true (show (⟨#[]⟩ : ByteArray).size = 0 from rfl), Bool.true_or, Bool.true_or]
theorem kind6w (k : Int) : (wrap64 (Int.tmod k 6 + 6)).tmod 6 = k % 6 := by
  have h1 := Int.tmod_lt_of_pos k (show (0 : Int) < 6 by omega)
  have h2 := Int.lt_tmod_of_pos k (show (0 : Int) < 6 by omega)
  have e : wrap64 (Int.tmod k 6 + 6) = Int.tmod k 6 + 6 := by
    unfold wrap64
    omega
  rw [e]
  have h := Int.tmod_eq_emod_of_nonneg (a := Int.tmod k 6 + 6) (b := 6) (by omega)
  rw [h]
  rw [Int.tmod_def]
  omega
theorem unl_all (x : Int) (hx : 0 < x) : unl (upto 4 x) x 4 = fun _ => 0 := by
  funext j
  unfold unl upto
  by_cases h : j < 4
  · simp [h, hx]
  · simp [h]
theorem count_mo {w : World} {mb : Nat} {m : St} {q : ByteArray} {ks : List ByteArray} (hl : Ls0 m q 4 ks) {LB : List (ByteArray × Value × Nat)} (hL : Mp w mb (fun k => .string k) LB) (hg : ∀ k, get LB k = (m k).map .string) :
    LB.countP (fun x => pre q x.1) = ks.length := by
  have hn := hL.nodup
  have hp : ((LB.map (·.1)).filter (pre q)).Perm ks := by
    rw [List.perm_ext_iff_of_nodup (hn.filter _) hl.nodup]
    intro k
    rw [List.mem_filter, hl.mem, ← get_isSome, hg]
    have := shd_lt k
    by_cases e : (m k).isSome = true
    · simp [e, this]
    · simp [e]
  rw [← hp.length_eq, ← List.countP_eq_length_filter, List.countP_map]
  rfl
theorem dec1 (n : Nat) (h : n < 10) : Lib.decDigits n = [UInt8.ofNat (48 + n)] := by
  rw [Lib.decDigits, dif_pos h]
theorem dec_len (n k : Nat) (hk : 0 < k) (h : n < 10 ^ k) : (Lib.decDigits n).length ≤ k := by
  induction k generalizing n with
  | zero => omega
  | succ k ih =>
    by_cases h2 : n < 10
    · rw [dec1 n h2]; simp
    · rw [Lib.decDigits, dif_neg h2, List.length_append]
      have hk0 : 0 < k := by
        rcases Nat.eq_zero_or_pos k with e | e
        · subst e; simp at h; omega
        · exact e
      have := ih (n / 10) hk0 (Nat.div_lt_of_lt_mul (by rw [Nat.mul_comm, ← Nat.pow_succ]; exact h))
      simp
      omega
theorem tag_size (v : ByteArray) (h : v.size ≤ 1000000) : (tagS v).size ≤ 100 := by
  have h1 : (tagS v).size = (tagL v.data.toList).length := by show (tagL v.data.toList).toArray.size = _; simp
  have h2 := hexD_len (fnv v.data.toList) 8 (by omega) (by have := fnv_lt v.data.toList; omega)
  have h3 := dec_len v.data.toList.length 7 (by omega) (by rw [toList_len]; omega)
  rw [h1]
  unfold tagL
  simp only [List.length_append, List.length_cons]
  omega
theorem Sto.pos {w0 w : World} {p : Nat} {r : Nat → Nat} {o : Nat → Int} {m : St} {n : Nat → Nat} (h : Sto w0 w p r o m n) {k v : ByteArray} (hk : m k = some v) : 1 ≤ n (shd k) := by
  obtain ⟨L, hL, hg, hn⟩ := h.map (shd k) (shd_lt k)
  have h1 : (get L k).isSome = true := by rw [hg, part_at, hk]; rfl
  rw [get_isSome] at h1
  have := List.length_pos_of_mem h1
  rw [List.length_map] at this
  omega
theorem some_le {a : ByteArray} (h : a.size ≤ 1000) : ∀ v, some a = some v → v.size ≤ 1000 := fun v e => by cases e; exact h
theorem none_le : ∀ v : ByteArray, none = some v → v.size ≤ 1000 := fun v e => by cases e
theorem putE_some {v tg : ByteArray} {c : Nat} (h : tagOk (some v) tg = true) : putE (some v) tg c = 0 := by
  unfold putE
  rw [if_neg (by rw [h]; decide), if_neg (fun e => by cases e.1)]
theorem setN_same (n : Nat → Nat) (q : Nat) : setN n q (n q) = n := by
  funext j
  unfold setN
  split
  · rename_i h; rw [h]
  · rfl
theorem MO.mb {w : World} {mb : Nat} {m : St} (h : MO w mb m) : mb < w.heap.size := by
  obtain ⟨L, hL, -⟩ := h
  exact hL.lt
/-- The law's map has changed, the store has not. -/
theorem Rx.map_put {w1 w w' : World} {p mb cb : Nat} {r : Nat → Nat} {o : Nat → Int} {m : St} {n : Nat → Nat} (h : Rx w1 w p r mb cb o m n) (hu : Upd [mb] w w') : Sto w1 w' p r o m n ∧ Blk w' cb (ccells n) 45 :=
  ⟨h.sto.beside1 hu h.mne h.mnew, hu.blk h.cnt (fun e => h.map.notBlk h.cnt (by rw [List.mem_singleton] at e; exact e.symm))⟩
/-- The law has counted behind that. -/
theorem cnt_set {w1 w : World} {p mb cb : Nat} {r : Nat → Nat} {o : Nat → Int} {m m' : St} {n : Nat → Nat} (h : Sto w1 w p r o m n) (hb : Blk w cb (ccells n) 45) (hn : w1.heap.size ≤ cb) (hm : MO w mb m') {q : Nat} (hq : q < 4) (c : Nat) :
    Sto w1 (w.setCell ⟨cb, q, none⟩ (.int .i64 c)) p r o m n ∧ MO (w.setCell ⟨cb, q, none⟩ (.int .i64 c)) mb m' ∧ Blk (w.setCell ⟨cb, q, none⟩ (.int .i64 c)) cb (ccells (setN n q c)) 45 := by
  have hu : Upd [cb] w (w.setCell ⟨cb, q, none⟩ (.int .i64 c)) := (Upd.refl [cb] _).set _ _ (by simp)
  refine ⟨h.beside1 hu (h.notBlk hb (by decide)) hn, hm.upd hu (fun e => hm.notBlk hb (by simpa using e)), ?_⟩
  have := hb.set q (.int .i64 c)
  rw [ccells_set n q c hq] at this
  exact this
end Go.Proofs.YtncahmodmgbacaaDoor
