/- Tries: fit. -/
import Derived.Test.YtndlbkiogagnaaaGreatDoorV22
namespace Go.Proofs.YtndlbkiogagnaaaGreatDoor
set_option linter.unusedSimpArgs false
set_option linter.unusedVariables false
set_option linter.unnecessarySimpa false
open Go.RowKit BigFrame

def gET : Bs := [71, 69, 84]
def fitL : List Rt := [⟨[71, 69, 84], [47, 58, 121, 47, 98], [112, 117, 116]⟩, ⟨[71, 69, 84], [47, 97, 47, 58, 120], [103, 101, 116]⟩]
theorem fit_mt : mtL fitL [71, 69, 84] [[97], [98]] = (⟨[103, 101, 116], [([120], [98])], []⟩, true) := by decide +kernel
theorem fit_rgt : ∀ r ∈ fitL, Rgt r := by
  intro r hr
  simp only [fitL, List.mem_cons, List.not_mem_nil, or_false] at hr
  rcases hr with rfl | rfl
  · exact ⟨by decide +kernel, by decide⟩
  · exact ⟨by decide +kernel, by decide⟩
end Go.Proofs.YtndlbkiogagnaaaGreatDoor
