/- law05: fit, same. -/
import Derived.Test.YtlhkckgfhlflkaaDoorA7
namespace Go.Proofs.YtlhkckgfhlflkaaDoor
set_option linter.unusedSimpArgs false
set_option linter.unusedVariables false
set_option linter.unnecessarySimpa false
open Go.RowKit BigFrame

def fitL : Bs := [72, 84, 84, 80, 47, 49, 46, 49, 32, 52, 48, 52, 32, 78, 111, 116, 32, 70, 111, 117, 110, 100, 13, 10, 99, 111, 110, 116, 101, 110, 116, 45, 108, 101, 110, 103, 116, 104, 58, 32, 49, 48, 13, 10, 13, 10, 78, 111, 116, 32, 70, 111, 117, 110, 100, 10]
theorem fit_enc : encL (Rs.plain 404 false) = fitL := by
  have h1 : Lib.decDigits 404 = [52, 48, 52] := by
    rw [Lib.decDigits, dif_neg (by omega), Lib.decDigits, dif_neg (by omega), Lib.decDigits, dif_pos (by omega)]
    rfl
  have h2 : Lib.decDigits 10 = [49, 48] := by
    rw [Lib.decDigits, dif_neg (by omega), Lib.decDigits, dif_pos (by omega)]
    rfl
  unfold encL firstL Rs.plain
  simp only [h1, show (wordL 404 ++ [10]).length = 10 by rfl, h2]
  rfl

end Go.Proofs.YtlhkckgfhlflkaaDoor
