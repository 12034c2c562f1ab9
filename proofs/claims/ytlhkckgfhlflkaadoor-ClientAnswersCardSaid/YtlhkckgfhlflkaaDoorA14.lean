/- AnswerCuts: an answer that is cut is none. -/
import Derived.Test.YtlhkckgfhlflkaaDoorA13
namespace Go.Proofs.YtlhkckgfhlflkaaDoor
set_option linter.unusedSimpArgs false
set_option linter.unusedVariables false
set_option linter.unnecessarySimpa false
open Go.RowKit BigFrame

theorem enc_pos (r : Rs) : 12 ≤ (encL r).length := by
  unfold encL firstL
  simp [http, contLen]
  omega

end Go.Proofs.YtlhkckgfhlflkaaDoor
