/- Tables: strings that the text lays; keys of two texts. -/
import Derived.Test.YtndlbkiogagnaaaGreatDoorV17
import Derived.Lib.LaidTab
import Derived.Laws.StructEq
namespace Go.Proofs.YtndlbkiogagnaaaGreatDoor
set_option linter.unusedSimpArgs false
set_option linter.unusedVariables false
set_option linter.unnecessarySimpa false
open Go.RowKit BigFrame

/-- A variable holds just these texts. -/
def StrsIs (w : World) (name : String) (L : List Bs) : Prop := w.var? Tryz.prog name = some (Ss L).toArray
theorem StrsIs.upd {name : String} {L : List Bs} {w w' : World} (h : StrsIs w name L) (hu : Upd [] w w') : StrsIs w' name L := by
  unfold StrsIs World.var? at *
  cases hg : Tryz.prog.globalNamed name with
  | none => rw [hg] at h; cases h
  | some g =>
    rw [hg] at h
    simp only [Option.bind_some] at h ⊢
    have hlt : g < w.heap.size := by
      apply Classical.byContradiction
      intro hn
      rw [Array.getElem?_eq_none (by omega)] at h
      cases h
    rw [hu.block g hlt (by simp)]
    exact h
theorem StrsIs.cell {w : World} {name : String} {L : List Bs} {g : Nat} (h : StrsIs w name L) (hg : Tryz.prog.globalNamed name = some g) (i : Nat) (hi : i < L.length) : w.cell? ⟨g, i, none⟩ = some (S L[i]) := by
  have := World.var?_cell hg h i
  simpa [Ss, hi] using this
def strData {H : Type} (L : List Bs) : DataW H := .agg (L.map fun l => .lit (.string l))
theorem cells_of_strs {H : Type} {enc : TypeId × Value → H} {P : Program} {w : World} {base : Nat} {sp : Nat → Bool} {held : Bool} {fuel : Nat} {t e : TypeId} {n : Nat} {cs : List Value} {L : List Bs} {p : List MemPlace}
    (ht : P.underlying t = some (.array n e)) (he : P.underlying e = some .string) (hce : P.cellsOf e = 1) (hct : P.cellsOf t = n)
    (h : DataW.trod enc P w base sp held fuel t cs = some (strData L, p)) : cs = Ss L := by
  cases fuel with
  | zero => simp [DataW.trod] at h
  | succ fuel =>
    simp only [DataW.trod, ht, hce, hct, Nat.mul_one] at h
    split at h
    · rename_i hl
      obtain ⟨xs, hm, hx⟩ := Option.map_eq_some_iff.1 h
      have hxs : xs.map (·.1) = L.map fun l => (DataW.lit (.string l) : DataW H) := by
        have := congrArg Prod.fst hx
        simpa [strData] using this
      have hxl : xs.length = n := by simpa using Lib.mapM_length hm
      have hzl : L.length = n := by
        have := congrArg List.length hxs
        simp at this
        omega
      apply List.ext_getElem?
      intro i
      by_cases hi : i < n
      · obtain ⟨b, hb, hf⟩ := Lib.mapM_at hm i i (by simp [hi])
        obtain ⟨z, hc, rfl, _⟩ := DataW.trod_string he hf
        have h1 : cs[i]? = some (.string z) := by
          have := congrArg (·[0]?) hc
          simpa [List.getElem?_take, List.getElem?_drop] using this
        have h2 : (xs.map (·.1))[i]? = some (DataW.lit (.string z.data.toList) : DataW H) := by simp [hb]
        rw [hxs] at h2
        simp only [List.getElem?_map, Option.map_eq_some_iff, DataW.lit.injEq, Lit.string.injEq] at h2
        obtain ⟨z', hz', hq⟩ := h2
        rw [h1]
        simp only [Ss, List.getElem?_map, hz', Option.map_some, S, hq]
      · rw [List.getElem?_eq_none (by omega), List.getElem?_eq_none (by simp [Ss]; omega)]
    · cases h
theorem strs_of_head {W : World} {name : String} {L : List Bs} {rest : List (String × DataW Unit)} {g : Nat} {t e : TypeId} {n : Nat}
    (hg : Tryz.prog.globalNamed name = some g) (hty : (Tryz.prog.globals[g]?).map (·.type) = some t) (ht : Tryz.prog.underlying t = some (.array n e)) (he : Tryz.prog.underlying e = some .string) (hce : Tryz.prog.cellsOf e = 1) (hct : Tryz.prog.cellsOf t = n)
    (h : laidMet Tryz.prog ((name, strData L) :: rest) W) : StrsIs W name L := by
  obtain ⟨ps, ⟨g', t', cs, fuel, p, q, hg', ht', hvar, hd, _, _⟩, _⟩ := h
  obtain rfl := Option.some.inj (hg.symm.trans hg')
  obtain rfl := Option.some.inj (hty.symm.trans ht')
  unfold StrsIs
  rw [hvar, ← cells_of_strs ht he hce hct hd]
/-- The names of handlers, as the text lays them. -/
def handlers : List Bs := [[103, 101, 116], [112, 117, 116], [100, 101, 108, 101, 116, 101], [108, 105, 115, 116], [119, 97, 108, 107], [104, 101, 97, 108, 116, 104], [114, 101, 108, 111, 97, 100], [115, 104, 117, 116, 100, 111, 119, 110]]
def HTab (w : World) : Prop := StrsIs w "crossroad/table.Handlers" handlers

def fk (k : ByteArray × ByteArray) : Value := .agg #[.string k.1, .string k.2]
theorem eq_field (k k' : ByteArray × ByteArray) (w : World) : (Op.equal 62 (fk k) (fk k')).run Tryz.prog w = .ok (decide (k = k')) w := by
  unfold Op.equal fk
  show (Op.equalIn 10000 _ _ _).run _ _ = _
  go_simp
  have hb : ∀ a b : ByteArray, (a.toList = b.toList) ↔ a = b := fun a b => by
    have := beq_toListBytes a b
    rw [ba_beq] at this
    constructor
    · intro h; rw [h] at this; simpa using this
    · intro h; rw [h]
  obtain ⟨a, b⟩ := k
  obtain ⟨c, d⟩ := k'
  simp only [hb, Prod.mk.injEq]
  by_cases h1 : a = c
  · by_cases h2 : b = d
    · simp [h1, h2]
    · simp [h1, h2]
  · simp [h1]
theorem keyLaw_field : KeyLaw Tryz.prog 62 (ByteArray × ByteArray) fk where
  stays := fun k => by simp [fk, Instr.sameBits, ba_beq]
  check := fun b k w => by
    unfold Instr.checkKey
    simp only [fk, Sem.run_bind, run_underlying Tryz.underlying62, Result.andThen_ok]
    rw [← Array.forIn_toList]
    simp only [List.forIn_cons, List.forIn_nil]
    go_simp
    unfold Instr.checkKey
    simp [run_underlying Tryz.underlying9]
  find := fun L k w => by
    have ha : ∀ (L : List ((ByteArray × ByteArray) × Value × Nat)) (i : Nat), (Instr.findAsking 62 (fk k) (L.map (toE fk)) i).run Tryz.prog w = .ok (loc L k i) w := by
      intro L
      induction L with
      | nil => intro i; simp [Instr.findAsking, loc]
      | cons x r ih =>
        intro i
        simp only [List.map_cons, Instr.findAsking, toE, loc, Sem.run_bind, eq_field, Result.andThen_ok]
        by_cases hx : x.1 = k
        · subst hx; simp
        · have hx' : ¬ k = x.1 := fun e => hx e.symm
          simp only [hx, hx', decide_false, if_false, Bool.false_eq_true]
          exact ih (i + 1)
    cases L with
    | nil => simp [Instr.findKey, run_underlying Tryz.underlying62, Instr.findNow, loc]
    | cons x r =>
      have := ha (x :: r) 0
      simp only [Instr.findKey, Sem.run_bind, run_underlying Tryz.underlying62, Result.andThen_ok]
      rw [List.map_cons] at this ⊢
      simp only [Instr.findNow, Instr.sameNow]
      exact this
end Go.Proofs.YtndlbkiogagnaaaGreatDoor
