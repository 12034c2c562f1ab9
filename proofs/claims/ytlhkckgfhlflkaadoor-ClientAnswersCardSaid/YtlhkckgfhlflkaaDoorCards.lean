/-
  DERIVED. GIVEN WITH THE SEED: THE CARDS: each row of YtlhkckgfhlflkaaDoorRows.lean that lists a variable, with what it lists TIED to the program's text (the seventh form; the later family's looks); each row that meets fmt, with fmt's text TOLD by the authors' own Lean function (tested against real Go, not proved from fmt's source: count such statements apart). THE CARD IS WHAT COUNTS. Prove the row's statement (the work); the ties are given (YtlhkckgfhlflkaaDoorTie.lean); close each card by the builder's one call (the guide's Derived/Test/ToyasCard.lean, 'card_holds'). Laid BY PROGRAM, IN A SANDBOX (cutbox-door.mjs). By AI agents, Wed Nov 11 2026. No macro, syntax, notation, axiom, sorry.
-/
import Derived.Test.YtlhkckgfhlflkaaDoorRows
import GoSem.ClaimSeven
namespace Go.Proofs.YtlhkckgfhlflkaaDoor
namespace Rows

/-- THE TIED CARD OF 'crossroadlaw21.ClientAnswers'. -/
def clientAnswersCard : Claim7 := { stood := { row := clientAnswersRow, standIns := [], harness := (true, "df57a8d9e25a1ff5e3e2a37372d6750286876b1d7aef1d1badd7ddc0e5be52a5"), looks := false }, kinds := [], alts := [], laidByText := true, laidKinds := [.data, .data, .data], laidTests := true, laidLooks := .later }
def ClientAnswersCardSaid : Prop := Claim7.holds Tryd.pinned (.plain (OpenSpec.ofChange clientAnswersSpec)) clientAnswersCard

/-- THE TIED CARD OF 'crossroadlaw21.ClientTexts'. -/
def clientTextsCard : Claim7 := { stood := { row := clientTextsRow, standIns := [], harness := (true, "df57a8d9e25a1ff5e3e2a37372d6750286876b1d7aef1d1badd7ddc0e5be52a5"), looks := false }, kinds := [], alts := [], laidByText := true, laidKinds := [.data, .data, .data, .data, .data, .data], laidTests := true, laidLooks := .later }
def ClientTextsCardSaid : Prop := Claim7.holds Tryd.pinned (.plain (OpenSpec.ofChange clientTextsSpec)) clientTextsCard

/-- THE SECOND FORM's CARD OF 'crossroadlaw21.ClientAnswers'. -/
def clientAnswersUptoCard : Claim7 := { stood := { row := clientAnswersUptoRow, standIns := [], harness := (true, "df57a8d9e25a1ff5e3e2a37372d6750286876b1d7aef1d1badd7ddc0e5be52a5"), looks := false }, kinds := [], alts := [], laidByText := true, laidKinds := [.data, .data, .data], laidTests := true, laidLooks := .later }
def ClientAnswersUptoCardSaid : Prop := Claim7.holds Tryd.pinned (.plain (OpenSpec.upto clientAnswersSpec)) clientAnswersUptoCard

/-- THE SECOND FORM's CARD OF 'crossroadlaw21.ClientTexts'. -/
def clientTextsUptoCard : Claim7 := { stood := { row := clientTextsUptoRow, standIns := [], harness := (true, "df57a8d9e25a1ff5e3e2a37372d6750286876b1d7aef1d1badd7ddc0e5be52a5"), looks := false }, kinds := [], alts := [], laidByText := true, laidKinds := [.data, .data, .data, .data, .data, .data], laidTests := true, laidLooks := .later }
def ClientTextsUptoCardSaid : Prop := Claim7.holds Tryd.pinned (.plain (OpenSpec.upto clientTextsSpec)) clientTextsUptoCard
end Rows
end Go.Proofs.YtlhkckgfhlflkaaDoor
