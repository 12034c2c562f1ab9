/- answer.Decode: the plain steps, and what it hands back. -/
import Derived.Test.YtlhkckgfhlflkaaDoorA9
import Derived.Test.YtlhkckgfhlflkaaDoorAp2
namespace Go.Proofs.YtlhkckgfhlflkaaDoor
set_option linter.unusedSimpArgs false
set_option linter.unusedVariables false
set_option linter.unnecessarySimpa false
open Go.RowKit BigFrame

def tw (l : Bs) : Bs := l.takeWhile (fun x => decide (x ≠ 58))
def aft (l : Bs) : Bs := l.drop ((tw l).length + 1)
def hd (x : Bs) (fs : List (Bs × Bs)) (cl : Bool) : Option (List (Bs × Bs) × Bool × Bs) := headL (x.length + 1) x fs cl
theorem lineL_len {s a b : Bs} (h : lineL s = some (a, b)) : a.length + 2 + b.length = s.length := by
  rw [lineL_form h]; simp; omega
theorem headL_fuel : ∀ (f : Nat) (x : Bs) (fs : List (Bs × Bs)) (cl : Bool), x.length < f → headL f x fs cl = hd x fs cl
  | 0, _, _, _, h => by omega
  | f + 1, x, fs, cl, h => by
    unfold hd
    rw [headL, headL]
    cases hl : lineL x with
    | none => rfl
    | some lr =>
      obtain ⟨l, r⟩ := lr
      have := lineL_len hl
      simp only
      have e1 : ∀ fs cl, headL f r fs cl = headL x.length r fs cl := fun fs cl => by
        rw [headL_fuel f r fs cl (by omega)]
        have : ∀ g, g ≤ f → r.length < g → headL g r fs cl = hd r fs cl := fun g hg h => by
          rcases Nat.lt_or_eq_of_le hg with h1 | h1
          · exact headL_fuel g r fs cl h
          · rw [h1]; exact headL_fuel f r fs cl (by omega)
        rw [this x.length (by omega) (by omega)]
      rw [e1, e1]
theorem hd_none {x : Bs} (fs : List (Bs × Bs)) (cl : Bool) (h : lineL x = none) : hd x fs cl = none := by
  unfold hd
  rw [headL, h]
theorem hd_some {x l r : Bs} (fs : List (Bs × Bs)) (cl : Bool) (h : lineL x = some (l, r)) : hd x fs cl =
    if 58 ∈ l then (if l = connClose then hd r fs true else if tw l = contLen then (match numL (trimL (aft l)) with | none => none | some size => if r.length < 2 + size then none else some (fs, cl, (r.drop 2).take size)) else hd r (fs ++ [(tw l, trimL (aft l))]) cl) else none := by
  have := lineL_len h
  rw [hd, headL, h]
  simp only
  rw [headL_fuel _ r fs true (by omega), headL_fuel _ r _ cl (by omega)]
  rfl
theorem words_no {l : Bs} (h : 58 ∉ l) : splitL 58 l = [l] := splitL_last 58 l h
theorem words_yes {l : Bs} (h : 58 ∈ l) : ∃ tl, splitL 58 l = tw l :: tl ∧ 1 ≤ tl.length := by
  refine ⟨_, splitL_two 58 l h, ?_⟩
  have := splitL_ne 58 (l.drop ((l.takeWhile (fun x => decide (x ≠ 58))).length + 1))
  exact List.length_pos_iff.2 this
theorem tw_len {l : Bs} (h : 58 ∈ l) : (tw l).length + 1 + (aft l).length = l.length := by
  have := congrArg List.length (cut_at 58 l h)
  unfold aft tw
  simp only [List.length_append, List.length_cons] at this
  omega
theorem dropWhile_len (l : Bs) : (l.dropWhile blank).length ≤ l.length := by
  have := congrArg List.length (List.takeWhile_append_dropWhile (p := blank) (l := l))
  rw [List.length_append] at this
  omega
theorem trimL_len (l : Bs) : (trimL l).length ≤ l.length := by
  unfold trimL
  rw [List.length_reverse]
  have h1 := dropWhile_len ((l.dropWhile blank).reverse)
  have h2 := dropWhile_len l
  rw [List.length_reverse] at h1
  omega
theorem numL_le {l : Bs} {n : Nat} (h : numL l = some n) : n ≤ 1073741824 := by
  unfold numL at h
  split at h
  · cases h
  · exact numTo_le (by omega) h
/-- What decL does behind the first line. -/
theorem decL_eq {s first rest : Bs} (h : lineL s = some (first, rest)) : decL s = if first.length < 12 then none else
    match numL ((first.drop 9).take 3) with
    | none => none
    | some n => match hd rest [] false with
      | none => none
      | some (fs, cl, body) => if (encL ⟨n, fs, body, cl⟩).isPrefixOf s then some (⟨n, fs, body, cl⟩, s.drop (encL ⟨n, fs, body, cl⟩).length) else none := by
  rw [decL, h]
  rfl

def zeroR : List Value := [.int .i64 0, .slice none 0 0, .string ⟨#[]⟩, .bool false]
/-- The cells of fields. -/
def fcells (fs : List (Bs × Bs)) : List Value := fs.flatMap fun f => [S f.1, S f.2]
theorem fcells_at : ∀ (fs : List (Bs × Bs)) (i : Nat) (h : i < fs.length), (fcells fs)[i * 2]? = some (S fs[i].1) ∧ (fcells fs)[i * 2 + 1]? = some (S fs[i].2)
  | f :: fs, 0, _ => ⟨rfl, rfl⟩
  | f :: fs, i + 1, h => by
    have := fcells_at fs i (by simpa using h)
    unfold fcells at this ⊢
    simp only [List.flatMap_cons, List.getElem_cons_succ, List.cons_append, List.nil_append]
    rw [show (i + 1) * 2 = i * 2 + 2 by omega]
    exact this
theorem Rf.of_sl {w : World} {e : TypeId} {a : Option Addr} {cap : Nat} {fs : List (Bs × Bs)} (h : Sl w e 2 (.slice a fs.length cap) fs.length (fcells fs)) : Rf w a fs := by
  intro h0
  obtain ⟨g, o, c, he, h2, h3, h4⟩ := h.some h0
  simp only [Value.slice.injEq] at he
  obtain ⟨rfl, -, rfl⟩ := he
  refine ⟨g, o, rfl, h.lt g (by simp [ownB]), fun i hi => ?_⟩
  have := fcells_at fs i hi
  exact ⟨(h4 (i * 2) (by omega)).trans this.1, by rw [Nat.add_assoc]; exact (h4 (i * 2 + 1) (by omega)).trans this.2⟩
def DecR (s : Bs) (w : World) (e : Ending) (w' : World) : Prop := match decL s with
  | some (r, t) => ∃ a cap, e = .returned (.tuple #[.agg (r.cells a cap).toArray, S t, .bool true]) ∧ Sl w' 44 2 (.slice a r.fields.length cap) r.fields.length (fcells r.fields) ∧ Upd [] w w'
  | none => e = .returned (.tuple #[.agg zeroR.toArray, S [], .bool false]) ∧ Upd [] w w'
theorem DecR.none {s : Bs} {w w' : World} (h : decL s = .none) (u : Upd [] w w') : DecR s w (.returned (.tuple #[.agg zeroR.toArray, S [], .bool false])) w' := by
  unfold DecR; rw [h]; exact ⟨rfl, u⟩
theorem DecR.some {s : Bs} {w w' : World} {r : Rs} {t : Bs} {a : Option Addr} {cap : Nat} (h : decL s = .some (r, t)) (hr : Sl w' 44 2 (.slice a r.fields.length cap) r.fields.length (fcells r.fields)) (u : Upd [] w w') : DecR s w (.returned (.tuple #[.agg (r.cells a cap).toArray, S t, .bool true])) w' := by
  unfold DecR; rw [h]; exact ⟨a, cap, rfl, hr, u⟩
theorem DecR.none_of {s : Bs} {w w' : World} {e : Ending} (h : DecR s w e w') (hd : decL s = .none) : e = .returned (.tuple #[.agg zeroR.toArray, S [], .bool false]) ∧ Upd [] w w' := by
  unfold DecR at h; rw [hd] at h; exact h
theorem DecR.some_sl {s : Bs} {w w' : World} {e : Ending} {r : Rs} {t : Bs} (h : DecR s w e w') (hd : decL s = .some (r, t)) : ∃ a cap, e = .returned (.tuple #[.agg (r.cells a cap).toArray, S t, .bool true]) ∧ Sl w' 44 2 (.slice a r.fields.length cap) r.fields.length (fcells r.fields) ∧ Upd [] w w' := by
  unfold DecR at h; rw [hd] at h; exact h
theorem DecR.some_of {s : Bs} {w w' : World} {e : Ending} {r : Rs} {t : Bs} (h : DecR s w e w') (hd : decL s = .some (r, t)) : ∃ a cap, e = .returned (.tuple #[.agg (r.cells a cap).toArray, S t, .bool true]) ∧ Rf w' a r.fields ∧ Upd [] w w' := by
  obtain ⟨a, cap, h1, h2, h3⟩ := h.some_sl hd
  exact ⟨a, cap, h1, Rf.of_sl h2, h3⟩

theorem results_cell_tmp2 {P : Program} (w : World) (fn : Func) (tmps : Array Value) (p q q2 : Tmp) (ty : TypeId) (b : Nat) (cs : List Value) (t : TypeId) (h : fn.results = #[.cell p ty, .tmp q, .tmp q2]) (hp : tmps.getD p undef = .pointer (some ⟨b, 0, none⟩)) (hb : Blk w b cs t)
    (hA : aggB P ty = true) (hi : (P.info? ty).map (·.size) = some cs.length) :
    (results fn tmps).run P w = .ok (.tuple #[.agg cs.toArray, tmps.getD q undef, tmps.getD q2 undef]) w := by
  have hp' : tmps[p]?.getD undef = .pointer (some ⟨b, 0, none⟩) := by simpa using hp
  have := run_load_blk (P := P) w b 0 ty cs t cs.length hb hA hi (by omega)
  simp at this
  simp [results, h, hp', asAddr, this]

end Go.Proofs.YtlhkckgfhlflkaaDoor
