/-
  DERIVED. GIVEN WITH THE SEED: THE CARDS: each row of YtgmpahdagbelfaaDoorRows.lean that lists a variable, with what it lists TIED to the program's text (the seventh form; the later family's looks); each row that meets fmt, with fmt's text TOLD by the authors' own Lean function (tested against real Go, not proved from fmt's source: count such statements apart). THE CARD IS WHAT COUNTS. Prove the row's statement (the work); the ties are given (YtgmpahdagbelfaaDoorTie.lean); close each card by the builder's one call (the guide's Derived/Test/ToyasCard.lean, 'card_holds'). Laid BY PROGRAM, IN A SANDBOX (cutbox-door.mjs). By AI agents, Wed Nov 11 2026. No macro, syntax, notation, axiom, sorry.
-/
import Derived.Test.YtgmpahdagbelfaaDoorRows
import GoSem.ClaimSeven
namespace Go.Proofs.YtgmpahdagbelfaaDoor
namespace Rows

/-- THE TIED CARD OF 'crossroadlaw05.AnswerWords'. -/
def answerWordsCard : Claim7 := { stood := { row := answerWordsRow, standIns := [], harness := (true, "d5a4eede7905d3c9edbe249e9ec03adda2bc294246af76aa99fba828f6c75730"), looks := false }, kinds := [], alts := [], laidByText := true, laidKinds := [.data, .data, .data], laidTests := true, laidLooks := .later }
def AnswerWordsCardSaid : Prop := Claim7.holds Tryd.pinned (.plain (OpenSpec.ofChange answerWordsSpec)) answerWordsCard

/-- THE TIED CARD OF 'crossroadlaw05.AnswerParts'. -/
def answerPartsCard : Claim7 := { stood := { row := answerPartsRow, standIns := [], harness := (true, "d5a4eede7905d3c9edbe249e9ec03adda2bc294246af76aa99fba828f6c75730"), looks := false }, kinds := [], alts := [], laidByText := true, laidKinds := [.data, .data, .data], laidTests := true, laidLooks := .later }
def AnswerPartsCardSaid : Prop := Claim7.holds Tryd.pinned (.plain (OpenSpec.ofChange answerPartsSpec)) answerPartsCard

/-- THE TIED CARD OF 'crossroadlaw05.AnswerPlain'. -/
def answerPlainCard : Claim7 := { stood := { row := answerPlainRow, standIns := [], harness := (true, "d5a4eede7905d3c9edbe249e9ec03adda2bc294246af76aa99fba828f6c75730"), looks := false }, kinds := [], alts := [], laidByText := true, laidKinds := [.data, .data, .data], laidTests := true, laidLooks := .later }
def AnswerPlainCardSaid : Prop := Claim7.holds Tryd.pinned (.plain (OpenSpec.ofChange answerPlainSpec)) answerPlainCard

/-- THE TIED CARD OF 'crossroadlaw05.AnswerBack'. -/
def answerBackCard : Claim7 := { stood := { row := answerBackRow, standIns := [], harness := (true, "d5a4eede7905d3c9edbe249e9ec03adda2bc294246af76aa99fba828f6c75730"), looks := false }, kinds := [], alts := [], laidByText := true, laidKinds := [.data, .data, .data], laidTests := true, laidLooks := .later }
def AnswerBackCardSaid : Prop := Claim7.holds Tryd.pinned (.plain (OpenSpec.ofChange answerBackSpec)) answerBackCard

/-- THE TIED CARD OF 'crossroadlaw05.AnswerMany'. -/
def answerManyCard : Claim7 := { stood := { row := answerManyRow, standIns := [], harness := (true, "d5a4eede7905d3c9edbe249e9ec03adda2bc294246af76aa99fba828f6c75730"), looks := false }, kinds := [], alts := [], laidByText := true, laidKinds := [.data, .data, .data], laidTests := true, laidLooks := .later }
def AnswerManyCardSaid : Prop := Claim7.holds Tryd.pinned (.plain (OpenSpec.ofChange answerManySpec)) answerManyCard

/-- THE TIED CARD OF 'crossroadlaw05.AnswerCuts'. -/
def answerCutsCard : Claim7 := { stood := { row := answerCutsRow, standIns := [], harness := (true, "d5a4eede7905d3c9edbe249e9ec03adda2bc294246af76aa99fba828f6c75730"), looks := false }, kinds := [], alts := [], laidByText := true, laidKinds := [.data, .data, .data], laidTests := true, laidLooks := .later }
def AnswerCutsCardSaid : Prop := Claim7.holds Tryd.pinned (.plain (OpenSpec.ofChange answerCutsSpec)) answerCutsCard

/-- THE SECOND FORM's CARD OF 'crossroadlaw05.AnswerWords'. -/
def answerWordsUptoCard : Claim7 := { stood := { row := answerWordsUptoRow, standIns := [], harness := (true, "d5a4eede7905d3c9edbe249e9ec03adda2bc294246af76aa99fba828f6c75730"), looks := false }, kinds := [], alts := [], laidByText := true, laidKinds := [.data, .data, .data], laidTests := true, laidLooks := .later }
def AnswerWordsUptoCardSaid : Prop := Claim7.holds Tryd.pinned (.plain (OpenSpec.upto answerWordsSpec)) answerWordsUptoCard

/-- THE SECOND FORM's CARD OF 'crossroadlaw05.AnswerParts'. -/
def answerPartsUptoCard : Claim7 := { stood := { row := answerPartsUptoRow, standIns := [], harness := (true, "d5a4eede7905d3c9edbe249e9ec03adda2bc294246af76aa99fba828f6c75730"), looks := false }, kinds := [], alts := [], laidByText := true, laidKinds := [.data, .data, .data], laidTests := true, laidLooks := .later }
def AnswerPartsUptoCardSaid : Prop := Claim7.holds Tryd.pinned (.plain (OpenSpec.upto answerPartsSpec)) answerPartsUptoCard

/-- THE SECOND FORM's CARD OF 'crossroadlaw05.AnswerPlain'. -/
def answerPlainUptoCard : Claim7 := { stood := { row := answerPlainUptoRow, standIns := [], harness := (true, "d5a4eede7905d3c9edbe249e9ec03adda2bc294246af76aa99fba828f6c75730"), looks := false }, kinds := [], alts := [], laidByText := true, laidKinds := [.data, .data, .data], laidTests := true, laidLooks := .later }
def AnswerPlainUptoCardSaid : Prop := Claim7.holds Tryd.pinned (.plain (OpenSpec.upto answerPlainSpec)) answerPlainUptoCard

/-- THE SECOND FORM's CARD OF 'crossroadlaw05.AnswerBack'. -/
def answerBackUptoCard : Claim7 := { stood := { row := answerBackUptoRow, standIns := [], harness := (true, "d5a4eede7905d3c9edbe249e9ec03adda2bc294246af76aa99fba828f6c75730"), looks := false }, kinds := [], alts := [], laidByText := true, laidKinds := [.data, .data, .data], laidTests := true, laidLooks := .later }
def AnswerBackUptoCardSaid : Prop := Claim7.holds Tryd.pinned (.plain (OpenSpec.upto answerBackSpec)) answerBackUptoCard

/-- THE SECOND FORM's CARD OF 'crossroadlaw05.AnswerMany'. -/
def answerManyUptoCard : Claim7 := { stood := { row := answerManyUptoRow, standIns := [], harness := (true, "d5a4eede7905d3c9edbe249e9ec03adda2bc294246af76aa99fba828f6c75730"), looks := false }, kinds := [], alts := [], laidByText := true, laidKinds := [.data, .data, .data], laidTests := true, laidLooks := .later }
def AnswerManyUptoCardSaid : Prop := Claim7.holds Tryd.pinned (.plain (OpenSpec.upto answerManySpec)) answerManyUptoCard

/-- THE SECOND FORM's CARD OF 'crossroadlaw05.AnswerCuts'. -/
def answerCutsUptoCard : Claim7 := { stood := { row := answerCutsUptoRow, standIns := [], harness := (true, "d5a4eede7905d3c9edbe249e9ec03adda2bc294246af76aa99fba828f6c75730"), looks := false }, kinds := [], alts := [], laidByText := true, laidKinds := [.data, .data, .data], laidTests := true, laidLooks := .later }
def AnswerCutsUptoCardSaid : Prop := Claim7.holds Tryd.pinned (.plain (OpenSpec.upto answerCutsSpec)) answerCutsUptoCard
end Rows
end Go.Proofs.YtgmpahdagbelfaaDoor
