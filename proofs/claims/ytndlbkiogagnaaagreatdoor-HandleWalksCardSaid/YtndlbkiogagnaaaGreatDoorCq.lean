/- A region that draws its order, whose operations only read, and whose callees may make memory: one walk in the text's order, over a class of worlds that the callees keep. -/
import Derived.WalkKit
import Derived.BigQuiet
namespace Go.Proofs.YtndlbkiogagnaaaGreatDoor
set_option linter.unusedSimpArgs false
set_option linter.unusedVariables false
set_option linter.unnecessarySimpa false
open BigFrame
/-- A world of the class. -/
structure Cls (R : World → Prop) where
  w : World
  ok : R w
section
variable {P : Program}
theorem wp_region_cls (R : World → Prop) {id : Nat} {Q : Exit → Act → World → Prop} {a : Act} {w : World} {l : List Oper} (hC : R w.drew) (hm : P.follows .mixedOrders = true) (hB : Region.lexB .any l.toArray = true)
    (h : Nonempty (Cls R) → wpQuiet P l.toArray (fun w' => ∃ x : Cls R, w' = x.w) (fun a' => ∀ w', (∃ x : Cls R, w' = x.w) → Q .normal a' w') l a) : (Code.region id l.toArray true).wp P Q a w :=
  wp_region_quiet (C := fun w' => ∃ x : Cls R, w' = x.w) hm hB ⟨⟨_, hC⟩, rfl⟩ (by simpa using h ⟨⟨_, hC⟩⟩)
end
/-- A callee of the class. -/
theorem Calls.cls {P : Program} {R : World → Prop} {f : FuncId} {args : Array Value} {w : World} {v : Value} {post : Ending → World → Prop}
    (h : Calls P f args w post) (hp : ∀ e w', post e w' → e = .returned v ∧ R w') : Calls P f args w fun e w'' => e = .returned v ∧ ∃ y : Cls R, w'' = y.w :=
  h.mono fun e w' h' => ⟨(hp e w' h').1, ⟨w', (hp e w' h').2⟩, rfl⟩
end Go.Proofs.YtndlbkiogagnaaaGreatDoor
