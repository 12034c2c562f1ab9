/- Tries: TrieStrong, plainly. -/
import Derived.Test.YtiombjmkaejjfaaDoorV23
namespace Go.Proofs.YtiombjmkaejjfaaDoor
set_option linter.unusedSimpArgs false
set_option linter.unusedVariables false
set_option linter.unnecessarySimpa false
open Go.RowKit BigFrame

def gET : Bs := [71, 69, 84]
def strongR : List Rt := [⟨gET, [47, 119, 47, 101, 110, 100], [103, 101, 116]⟩, ⟨gET, [47, 119, 47, 58, 120], [112, 117, 116]⟩, ⟨gET, [47, 119, 47, 42, 121], [108, 105, 115, 116]⟩, ⟨gET, [47, 58, 97, 47, 101, 110, 100], [119, 97, 108, 107]⟩, ⟨gET, [47, 42, 122], [104, 101, 97, 108, 116, 104]⟩]
def chosen (q k : Nat) : List Rt := ((strongR.zipIdx.take k).filter fun x => decide (2 < x.2) || q.testBit x.2).map (·.1)
def want (q : Nat) (s : Bs) : Bs :=
  if q.testBit 0 = true ∧ s = [101, 110, 100] then [103, 101, 116] else if q.testBit 1 = true then [112, 117, 116] else if q.testBit 2 = true then [108, 105, 115, 116] else if s = [101, 110, 100] then [119, 97, 108, 107] else [104, 101, 97, 108, 116, 104]
theorem strong_shp : strongR.map shp = [[.word [119], .word [101, 110, 100]], [.word [119], .any], [.word [119], .all], [.any, .word [101, 110, 100]], [.all]] := by decide +kernel
theorem strong_mt (q : Nat) (hq : q < 8) (s : Bs) (hs : s ≠ []) : (mtL (chosen q 5) gET [[119], s]).2 = true ∧ (mtL (chosen q 5) gET [[119], s]).1.h = want q s := by
  have hshp := strong_shp
  simp only [strongR, List.map_cons, List.map_nil, List.cons.injEq, and_true] at hshp
  obtain ⟨h0, h1, h2, h3, h4⟩ := hshp
  by_cases he : s = [101, 110, 100]
  · subst he
    rcases (by omega : q = 0 ∨ q = 1 ∨ q = 2 ∨ q = 3 ∨ q = 4 ∨ q = 5 ∨ q = 6 ∨ q = 7) with e | e | e | e | e | e | e | e <;> subst e <;> decide +kernel
  · have he' : ¬ ([101, 110, 100] : Bs) = s := fun e => he e.symm
    rcases (by omega : q = 0 ∨ q = 1 ∨ q = 2 ∨ q = 3 ∨ q = 4 ∨ q = 5 ∨ q = 6 ∨ q = 7) with e | e | e | e | e | e | e | e <;> subst e <;>
      simp [mtL, flatL, cands, chosen, strongR, want, hs, he, he', h0, h1, h2, h3, h4, byM, List.filter, Nat.testBit, List.zipIdx]
end Go.Proofs.YtiombjmkaejjfaaDoor
