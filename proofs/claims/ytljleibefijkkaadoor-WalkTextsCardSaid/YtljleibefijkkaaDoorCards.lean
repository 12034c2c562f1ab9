/-
  DERIVED. GIVEN WITH THE SEED: THE CARDS: each row of YtljleibefijkkaaDoorRows.lean that lists a variable, with what it lists TIED to the program's text (the seventh form; the later family's looks); each row that meets fmt, with fmt's text TOLD by the authors' own Lean function (tested against real Go, not proved from fmt's source: count such statements apart). THE CARD IS WHAT COUNTS. Prove the row's statement (the work); the ties are given (YtljleibefijkkaaDoorTie.lean); close each card by the builder's one call (the guide's Derived/Test/ToyasCard.lean, 'card_holds'). Laid BY PROGRAM, IN A SANDBOX (cutbox-door.mjs). By AI agents, Wed Nov 11 2026. No macro, syntax, notation, axiom, sorry.
-/
import Derived.Test.YtljleibefijkkaaDoorRows
import GoSem.ClaimSeven
namespace Go.Proofs.YtljleibefijkkaaDoor
namespace Rows

/-- THE TIED CARD OF 'crossroadlaw11.WalkSteps'. -/
def walkStepsCard : Claim7 := { stood := { row := walkStepsRow, standIns := [], harness := (true, "5ce9e13ee6c6905104b12b446394c310beb58b4883d4d5fc02901d2232fa27ad"), looks := false }, kinds := [], alts := [], laidByText := true, laidKinds := [.data, .data, .data], laidTests := true, laidLooks := .later }
def WalkStepsCardSaid : Prop := Claim7.holds Tryd.pinned (.plain (OpenSpec.ofChange walkStepsSpec)) walkStepsCard

/-- THE TIED CARD OF 'crossroadlaw11.WalkBacks'. -/
def walkBacksCard : Claim7 := { stood := { row := walkBacksRow, standIns := [], harness := (true, "5ce9e13ee6c6905104b12b446394c310beb58b4883d4d5fc02901d2232fa27ad"), looks := false }, kinds := [], alts := [], laidByText := true, laidKinds := [.data, .data, .data], laidTests := true, laidLooks := .later }
def WalkBacksCardSaid : Prop := Claim7.holds Tryd.pinned (.plain (OpenSpec.ofChange walkBacksSpec)) walkBacksCard

/-- THE TIED CARD OF 'crossroadlaw11.WalkTexts'. -/
def walkTextsCard : Claim7 := { stood := { row := walkTextsRow, standIns := [], harness := (true, "5ce9e13ee6c6905104b12b446394c310beb58b4883d4d5fc02901d2232fa27ad"), looks := false }, kinds := [], alts := [], laidByText := true, laidKinds := [.data, .data, .data], laidTests := true, laidLooks := .later }
def WalkTextsCardSaid : Prop := Claim7.holds Tryd.pinned (.plain (OpenSpec.ofChange walkTextsSpec)) walkTextsCard

/-- THE TIED CARD OF 'crossroadlaw11.WalkTurns'. -/
def walkTurnsCard : Claim7 := { stood := { row := walkTurnsRow, standIns := [], harness := (true, "5ce9e13ee6c6905104b12b446394c310beb58b4883d4d5fc02901d2232fa27ad"), looks := false }, kinds := [], alts := [], laidByText := true, laidKinds := [.data, .data, .data], laidTests := true, laidLooks := .later }
def WalkTurnsCardSaid : Prop := Claim7.holds Tryd.pinned (.plain (OpenSpec.ofChange walkTurnsSpec)) walkTurnsCard

/-- THE TIED CARD OF 'crossroadlaw11.WalkLong'. -/
def walkLongCard : Claim7 := { stood := { row := walkLongRow, standIns := [], harness := (true, "5ce9e13ee6c6905104b12b446394c310beb58b4883d4d5fc02901d2232fa27ad"), looks := false }, kinds := [], alts := [], laidByText := true, laidKinds := [.data, .data, .data], laidTests := true, laidLooks := .later }
def WalkLongCardSaid : Prop := Claim7.holds Tryd.pinned (.plain (OpenSpec.ofChange walkLongSpec)) walkLongCard

/-- THE TIED CARD OF 'crossroadlaw11.WalkPlaces'. -/
def walkPlacesCard : Claim7 := { stood := { row := walkPlacesRow, standIns := [], harness := (true, "5ce9e13ee6c6905104b12b446394c310beb58b4883d4d5fc02901d2232fa27ad"), looks := false }, kinds := [], alts := [], laidByText := true, laidKinds := [.data, .data, .data], laidTests := true, laidLooks := .later }
def WalkPlacesCardSaid : Prop := Claim7.holds Tryd.pinned (.plain (OpenSpec.ofChange walkPlacesSpec)) walkPlacesCard

/-- THE SECOND FORM's CARD OF 'crossroadlaw11.WalkSteps'. -/
def walkStepsUptoCard : Claim7 := { stood := { row := walkStepsUptoRow, standIns := [], harness := (true, "5ce9e13ee6c6905104b12b446394c310beb58b4883d4d5fc02901d2232fa27ad"), looks := false }, kinds := [], alts := [], laidByText := true, laidKinds := [.data, .data, .data], laidTests := true, laidLooks := .later }
def WalkStepsUptoCardSaid : Prop := Claim7.holds Tryd.pinned (.plain (OpenSpec.upto walkStepsSpec)) walkStepsUptoCard

/-- THE SECOND FORM's CARD OF 'crossroadlaw11.WalkBacks'. -/
def walkBacksUptoCard : Claim7 := { stood := { row := walkBacksUptoRow, standIns := [], harness := (true, "5ce9e13ee6c6905104b12b446394c310beb58b4883d4d5fc02901d2232fa27ad"), looks := false }, kinds := [], alts := [], laidByText := true, laidKinds := [.data, .data, .data], laidTests := true, laidLooks := .later }
def WalkBacksUptoCardSaid : Prop := Claim7.holds Tryd.pinned (.plain (OpenSpec.upto walkBacksSpec)) walkBacksUptoCard

/-- THE SECOND FORM's CARD OF 'crossroadlaw11.WalkTexts'. -/
def walkTextsUptoCard : Claim7 := { stood := { row := walkTextsUptoRow, standIns := [], harness := (true, "5ce9e13ee6c6905104b12b446394c310beb58b4883d4d5fc02901d2232fa27ad"), looks := false }, kinds := [], alts := [], laidByText := true, laidKinds := [.data, .data, .data], laidTests := true, laidLooks := .later }
def WalkTextsUptoCardSaid : Prop := Claim7.holds Tryd.pinned (.plain (OpenSpec.upto walkTextsSpec)) walkTextsUptoCard

/-- THE SECOND FORM's CARD OF 'crossroadlaw11.WalkTurns'. -/
def walkTurnsUptoCard : Claim7 := { stood := { row := walkTurnsUptoRow, standIns := [], harness := (true, "5ce9e13ee6c6905104b12b446394c310beb58b4883d4d5fc02901d2232fa27ad"), looks := false }, kinds := [], alts := [], laidByText := true, laidKinds := [.data, .data, .data], laidTests := true, laidLooks := .later }
def WalkTurnsUptoCardSaid : Prop := Claim7.holds Tryd.pinned (.plain (OpenSpec.upto walkTurnsSpec)) walkTurnsUptoCard

/-- THE SECOND FORM's CARD OF 'crossroadlaw11.WalkLong'. -/
def walkLongUptoCard : Claim7 := { stood := { row := walkLongUptoRow, standIns := [], harness := (true, "5ce9e13ee6c6905104b12b446394c310beb58b4883d4d5fc02901d2232fa27ad"), looks := false }, kinds := [], alts := [], laidByText := true, laidKinds := [.data, .data, .data], laidTests := true, laidLooks := .later }
def WalkLongUptoCardSaid : Prop := Claim7.holds Tryd.pinned (.plain (OpenSpec.upto walkLongSpec)) walkLongUptoCard

/-- THE SECOND FORM's CARD OF 'crossroadlaw11.WalkPlaces'. -/
def walkPlacesUptoCard : Claim7 := { stood := { row := walkPlacesUptoRow, standIns := [], harness := (true, "5ce9e13ee6c6905104b12b446394c310beb58b4883d4d5fc02901d2232fa27ad"), looks := false }, kinds := [], alts := [], laidByText := true, laidKinds := [.data, .data, .data], laidTests := true, laidLooks := .later }
def WalkPlacesUptoCardSaid : Prop := Claim7.holds Tryd.pinned (.plain (OpenSpec.upto walkPlacesSpec)) walkPlacesUptoCard
end Rows
end Go.Proofs.YtljleibefijkkaaDoor
