/- Arguments that came in, of any flat shape: what their cells are. -/
import Derived.Test.YtndlbkiogagnaaaGreatDoorMem
import Derived.Deep.Slices
import Derived.SizedLaws
namespace Go.Proofs.YtndlbkiogagnaaaGreatDoor
set_option linter.unusedSimpArgs false
set_option linter.unusedVariables false
set_option linter.unnecessarySimpa false
open Go.RowKit Go.ChangeShapes Go.WideShapes Go.Deep

/-- What one cell that came in is: a number, a text, a flag, or a slice of such rows. -/
inductive Leaf where
  | int (k : IntKind)
  | str
  | bool
  | sl (es : List Leaf)

mutual
def Leaf.ok (w : World) : Leaf → Value → Prop
  | .int k, v => ∃ z, v = .int k z ∧ (Lit.int k z).wf = true
  | .str, v => ∃ s : ByteArray, v = .string s ∧ s.size ≤ 140737488351232
  | .bool, v => ∃ b, v = .bool b
  | .sl es, v => ∃ (a : Option Addr) (len cap : Nat) (V : Nat → List Value), v = .slice a len cap ∧ len ≤ cap ∧ cap ≤ maxLen ∧ len ≤ 140737488351232 ∧ (0 < len → ∃ b off, a = some ⟨b, off, none⟩ ∧ ∀ i, i < len → (V i).length = es.length ∧ (∀ j, j < es.length → w.cell? ⟨b, off + (i * es.length + j), none⟩ = (V i)[j]?) ∧ Leaf.oks w es (V i))
def Leaf.oks (w : World) : List Leaf → List Value → Prop
  | [], vs => vs = []
  | l :: ls, vs => ∃ v r, vs = v :: r ∧ Leaf.ok w l v ∧ Leaf.oks w ls r
end

theorem Leaf.oks_append {w : World} : ∀ {as bs : List Leaf} {xs ys : List Value}, Leaf.oks w as xs → Leaf.oks w bs ys → Leaf.oks w (as ++ bs) (xs ++ ys)
  | [], bs, xs, ys, ha, hb => by simp only [Leaf.oks] at ha; subst ha; simpa using hb
  | l :: ls, bs, xs, ys, ha, hb => by
    simp only [Leaf.oks] at ha
    obtain ⟨v, r, rfl, h1, h2⟩ := ha
    simp only [List.cons_append, Leaf.oks]
    exact ⟨v, r ++ ys, rfl, h1, Leaf.oks_append h2 hb⟩
theorem Leaf.oks_len {w : World} : ∀ {as : List Leaf} {xs : List Value}, Leaf.oks w as xs → xs.length = as.length
  | [], xs, h => by simp only [Leaf.oks] at h; subst h; rfl
  | l :: ls, xs, h => by
    simp only [Leaf.oks] at h
    obtain ⟨v, r, rfl, _, h2⟩ := h
    simp [Leaf.oks_len h2]

/-- The leaves of a type, where it is flat. -/
def leafFields (P : Program) (L : TypeId → Option (List Leaf)) : Nat → List Field → Option (List Leaf × Nat)
  | off, [] => some ([], off)
  | off, f :: fs => if f.offset = off then (L f.type).bind fun a => (leafFields P L (off + P.cellsOf f.type) fs).map fun b => (a ++ b.1, b.2) else none
def leaves (P : Program) : Nat → TypeId → Option (List Leaf)
  | 0, _ => none
  | n + 1, t => match P.underlying t with
    | some (.int k) => some [.int k]
    | some .string => some [.str]
    | some .bool => some [.bool]
    | some (.slice e) => (leaves P n e).bind fun es => if (P.cellsOf e = es.length ∧ 0 < es.length) ∧ 0 < P.bytesOf e then some [.sl es] else none
    | some (.struct fs) => (leafFields P (leaves P n) 0 fs.toList).bind fun x => if x.2 = P.cellsOf t then some x.1 else none
    | _ => none

section
variable {H : Type} {enc : TypeId × Value → H} {P : Program} {w : World} {base : Nat} {spare : Nat → Bool} {held : Bool}

omit w base in
theorem weightsAll_mem {P : Program} {e : TypeId} (d : DataW H) : ∀ {ds : List (DataW H)}, d ∈ ds → ∀ n ∈ d.weights P e, n ∈ DataW.weightsAll P e ds
  | [], h, _, _ => by cases h
  | x :: r, h, n, hn => by
    simp only [DataW.weightsAll, List.mem_append]
    rcases List.mem_cons.1 h with rfl | h
    · exact .inl hn
    · exact .inr (weightsAll_mem d h n hn)
theorem leafFields_ok (L : TypeId → Option (List Leaf)) {m : Nat} (hL : ∀ t ls, L t = some ls → ∀ cs x, DataW.trod enc P w base spare held m t cs = some x → (∀ k ∈ x.1.weights P t, k ≤ reachBytes) → Leaf.oks w ls cs) (cs : List Value) :
    ∀ (fs : List Field) (off : Nat) (ls : List Leaf) (fin : Nat), leafFields P L off fs = some (ls, fin) → fin = cs.length →
      (∀ f, f ∈ fs → ∃ x, DataW.trod enc P w base spare held m f.type ((cs.drop f.offset).take (P.cellsOf f.type)) = some x ∧ ∀ k ∈ x.1.weights P f.type, k ≤ reachBytes) → Leaf.oks w ls (cs.drop off)
  | [], off, ls, fin, h, hf, _ => by
    simp only [leafFields, Option.some.injEq, Prod.mk.injEq] at h
    obtain ⟨rfl, rfl⟩ := h
    simp [Leaf.oks, hf]
  | f :: fs, off, ls, fin, h, hf, hr => by
    simp only [leafFields] at h
    split at h
    · rename_i ho
      obtain ⟨a, h1, h2⟩ := Option.bind_eq_some_iff.1 h
      obtain ⟨b, h3, h4⟩ := Option.map_eq_some_iff.1 h2
      simp only [Prod.mk.injEq] at h4
      obtain ⟨rfl, rfl⟩ := h4
      obtain ⟨x, hx, hxw⟩ := hr f (by simp)
      have g1 := hL _ _ h1 _ _ hx hxw
      have g2 := leafFields_ok L hL cs fs _ _ _ h3 hf (fun g hg => hr g (by simp [hg]))
      rw [ho] at g1
      have : cs.drop off = (cs.drop off).take (P.cellsOf f.type) ++ cs.drop (off + P.cellsOf f.type) := by
        rw [← List.drop_drop, List.take_append_drop]
      rw [this]
      exact Leaf.oks_append g1 g2
    · cases h

theorem leaves_ok : ∀ (n : Nat) (t : TypeId) (ls : List Leaf), leaves P n t = some ls → ∀ (fuel : Nat) (cs : List Value) (x : DataW H × List MemPlace), DataW.trod enc P w base spare held fuel t cs = some x → (∀ k ∈ x.1.weights P t, k ≤ reachBytes) → Leaf.oks w ls cs
  | 0, t, ls, h => by cases h
  | n + 1, t, ls, h => by
    intro fuel cs x hx hwt
    simp only [leaves] at h
    split at h
    · rename_i k hu
      simp only [Option.some.injEq] at h; subst h
      obtain ⟨z, rfl, _, hw⟩ := DataW.trod_int hu hx
      simp only [Leaf.oks, Leaf.ok]
      exact ⟨_, [], rfl, ⟨z, rfl, hw⟩, rfl⟩
    · rename_i hu
      simp only [Option.some.injEq] at h; subst h
      obtain ⟨z, rfl, rfl, hw⟩ := DataW.trod_string hu hx
      simp only [Leaf.oks, Leaf.ok]
      have := hwt z.data.toList.length (by simp [DataW.weights])
      exact ⟨_, [], rfl, ⟨z, rfl, by simpa [reachBytes] using this⟩, rfl⟩
    · rename_i hu
      simp only [Option.some.injEq] at h; subst h
      obtain ⟨z, rfl, _⟩ := DataW.trod_bool hu hx
      simp only [Leaf.oks, Leaf.ok]
      exact ⟨_, [], rfl, ⟨z, rfl⟩, rfl⟩
    · rename_i e hu
      obtain ⟨es, h1, h2⟩ := Option.bind_eq_some_iff.1 h
      split at h2
      · rename_i hc
        have hby := hc.2
        replace hc := hc.1
        have he := hc.2
        replace hc := hc.1
        simp only [Option.some.injEq] at h2; subst h2
        simp only [Leaf.oks, Leaf.ok]
        rcases open_slice hu hx with ⟨rfl, _⟩ | ⟨a, len, cap, m, k, D, Pl, rfl, _, hl, hm, hmm, hxe, hall⟩
        · exact ⟨_, [], rfl, ⟨none, 0, 0, fun _ => [], rfl, by omega, by omega, by omega, by omega⟩, rfl⟩
        · have hlm : len ≤ m := by rw [hmm]; split <;> omega
          obtain ⟨V, hV⟩ := choose_lt (α := List Value) (p := fun i vs => w.cells? base (a.add (i * P.cellsOf e)) (P.cellsOf e) = some vs ∧ DataW.trod enc P w base spare held k e vs = some (D i, Pl i)) (n := len) (fun i hi => hall i (by omega))
          subst hxe
          have hlen : len ≤ 140737488351232 := by
            have h3 := hwt ((((List.range len).map D).length + (((List.range (m - len)).map fun j => D (len + j)).length)) * P.bytesOf e) (by simp only [DataW.weights, hu]; exact List.mem_cons_self)
            simp only [List.length_map, List.length_range, reachBytes] at h3
            have h4 : len * 1 ≤ (len + (m - len)) * P.bytesOf e := Nat.mul_le_mul (by omega) hby
            omega
          have hwi : ∀ i, i < len → ∀ n ∈ (D i).weights P e, n ≤ reachBytes := by
            intro i hi n hn
            refine hwt n ?_
            simp only [DataW.weights, hu]
            refine List.mem_cons_of_mem _ (List.mem_append_left _ ?_)
            exact weightsAll_mem (D i) (List.mem_map.2 ⟨i, by simpa using hi, rfl⟩) n hn
          refine ⟨_, [], rfl, ⟨some a, len, cap, V, rfl, hl, hm, hlen, fun h0 => ?_⟩, rfl⟩
          obtain ⟨b, off, sp⟩ := a
          have hs : sp = none := by
            obtain ⟨c1, c2⟩ := hV 0 h0
            obtain ⟨_, c3, c4⟩ := World.cells?_some c1
            have c5 := c4 0 (by omega)
            rw [List.getElem?_eq_getElem (by omega)] at c5
            cases sp with
            | none => rfl
            | some s => simp [Addr.add, World.cell?] at c5; split at c5 <;> simp_all
          subst hs
          refine ⟨b, off, rfl, fun i hi => ?_⟩
          obtain ⟨c1, c2⟩ := hV i hi
          obtain ⟨_, c3, c4⟩ := World.cells?_some c1
          refine ⟨by rw [c3, hc], fun j hj => ?_, leaves_ok n e _ h1 _ _ _ c2 (hwi i hi)⟩
          have := c4 j (by omega)
          rw [Addr.add_lit, Addr.add_lit, hc] at this
          rw [← this, Nat.add_assoc]
      · cases h2
    · rename_i fs hu
      obtain ⟨y, h1, h2⟩ := Option.bind_eq_some_iff.1 h
      split at h2
      · rename_i hc
        simp only [Option.some.injEq] at h2; subst h2
        obtain ⟨xs, m, rfl, hxe, hlen, hxl, hf⟩ := DataW.trod_struct hu hx
        subst hxe
        have := leafFields_ok (enc := enc) (w := w) (base := base) (spare := spare) (held := held) (leaves P n) (m := m) (fun t ls hl cs x hx hw => leaves_ok n t ls hl m cs x hx hw) cs fs.toList 0 y.1 y.2 h1 (by rw [hc, hlen]) (fun f hf' => by
          obtain ⟨i, hi, rfl⟩ := List.mem_iff_getElem.1 hf'
          have hi' : i < fs.size := by simpa using hi
          have := hf i fs[i] (by simp [hi'])
          rw [List.getElem?_eq_getElem (by omega)] at this
          refine ⟨_, by simpa using this, fun k hk => hwt k ?_⟩
          simp only [DataW.weights, hu]
          exact DataW.weights_mem_each (j := i) (t := fs[i].type) (d := (xs[i]'(by omega)).1) (by simp [hi']) (by simp [show i < xs.length by omega]) k hk)
        simpa using this
      · cases h2
    · cases h
end

/-- A slice of rows that came in, written out where it has one. -/
theorem Leaf.open {w : World} {es : List Leaf} {a : Option Addr} {len cap : Nat} (h : Leaf.ok w (.sl es) (.slice a len cap)) (h0 : 0 < len) (he : 0 < es.length) :
    ∃ (b off : Nat) (V : Nat → List Value), a = some ⟨b, off, none⟩ ∧ b < w.heap.size ∧ len ≤ maxLen ∧ ∀ i, i < len → Leaf.oks w es (V i) ∧ ∀ j, j < es.length → w.cell? ⟨b, off + (i * es.length + j), none⟩ = (V i)[j]? := by
  simp only [Leaf.ok] at h
  obtain ⟨a', len', cap', V, h1, h2, h3, -, h4⟩ := h
  simp only [Value.slice.injEq] at h1
  obtain ⟨rfl, rfl, rfl⟩ := h1
  obtain ⟨b, off, rfl, h5⟩ := h4 h0
  refine ⟨b, off, V, rfl, ?_, by omega, fun i hi => ⟨(h5 i hi).2.2, (h5 i hi).2.1⟩⟩
  obtain ⟨h6, h7, -⟩ := h5 0 h0
  have := h7 0 he
  rw [List.getElem?_eq_getElem (by omega)] at this
  exact block_lt_of_cell (a := ⟨b, off + (0 * es.length + 0), none⟩) this
/-- A slice of texts that came in. -/
theorem Leaf.strs {w : World} {a : Option Addr} {len cap : Nat} (h : Leaf.ok w (.sl [.str]) (.slice a len cap)) :
    ∃ S : Nat → ByteArray, 0 < len → ∃ b off, a = some ⟨b, off, none⟩ ∧ b < w.heap.size ∧ ∀ i, i < len → w.cell? ⟨b, off + i, none⟩ = some (.string (S i)) := by
  by_cases h0 : 0 < len
  · obtain ⟨b, off, V, rfl, hb, -, hV⟩ := Leaf.open h h0 (by simp)
    refine ⟨fun i => match V i with | [.string s] => s | _ => ⟨#[]⟩, fun _ => ⟨b, off, rfl, hb, fun i hi => ?_⟩⟩
    obtain ⟨h1, h2⟩ := hV i hi
    have h3 := h2 0 (by simp)
    simp only [Leaf.oks, Leaf.ok] at h1
    obtain ⟨v, r, h4, ⟨s, rfl, -⟩, rfl⟩ := h1
    rw [h4] at h3
    simpa [h4] using h3
  · exact ⟨fun _ => ⟨#[]⟩, fun h => absurd h h0⟩
end Go.Proofs.YtndlbkiogagnaaaGreatDoor
