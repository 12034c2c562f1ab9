/-
  DERIVED. GIVEN WITH THE SEED: THE CARDS: each row of YtaefooandfnloaaDoorRows.lean that lists a variable, with what it lists TIED to the program's text (the seventh form; the later family's looks); each row that meets fmt, with fmt's text TOLD by the authors' own Lean function (tested against real Go, not proved from fmt's source: count such statements apart). THE CARD IS WHAT COUNTS. Prove the row's statement (the work); the ties are given (YtaefooandfnloaaDoorTie.lean); close each card by the builder's one call (the guide's Derived/Test/ToyasCard.lean, 'card_holds'). Laid BY PROGRAM, IN A SANDBOX (cutbox-door.mjs). By AI agents, Wed Nov 11 2026. No macro, syntax, notation, axiom, sorry.
-/
import Derived.Test.YtaefooandfnloaaDoorRows
import GoSem.ClaimSeven
namespace Go.Proofs.YtaefooandfnloaaDoor
namespace Rows

/-- THE TIED CARD OF 'crossroadlaw09.HolderVersions'. -/
def holderVersionsCard : Claim7 := { stood := { row := holderVersionsRow, standIns := [], harness := (true, "dc7987e3aba38a8cbdc53c195d29df28cfe27313572334b09553efcedaff4a2b"), looks := false }, kinds := [], alts := [], laidByText := true, laidKinds := [.data], laidTests := true, laidLooks := .later }
def HolderVersionsCardSaid : Prop := Claim7.holds Tryd.pinned (.plain (OpenSpec.ofChange holderVersionsSpec)) holderVersionsCard

/-- THE TIED CARD OF 'crossroadlaw09.HolderSwaps'. -/
def holderSwapsCard : Claim7 := { stood := { row := holderSwapsRow, standIns := [], harness := (true, "dc7987e3aba38a8cbdc53c195d29df28cfe27313572334b09553efcedaff4a2b"), looks := false }, kinds := [], alts := [], laidByText := true, laidKinds := [.data], laidTests := true, laidLooks := .later }
def HolderSwapsCardSaid : Prop := Claim7.holds Tryd.pinned (.plain (OpenSpec.ofChange holderSwapsSpec)) holderSwapsCard

/-- THE TIED CARD OF 'crossroadlaw09.HolderOld'. -/
def holderOldCard : Claim7 := { stood := { row := holderOldRow, standIns := [], harness := (true, "dc7987e3aba38a8cbdc53c195d29df28cfe27313572334b09553efcedaff4a2b"), looks := false }, kinds := [], alts := [], laidByText := true, laidKinds := [.data], laidTests := true, laidLooks := .later }
def HolderOldCardSaid : Prop := Claim7.holds Tryd.pinned (.plain (OpenSpec.ofChange holderOldSpec)) holderOldCard

/-- THE SECOND FORM's CARD OF 'crossroadlaw09.HolderVersions'. -/
def holderVersionsUptoCard : Claim7 := { stood := { row := holderVersionsUptoRow, standIns := [], harness := (true, "dc7987e3aba38a8cbdc53c195d29df28cfe27313572334b09553efcedaff4a2b"), looks := false }, kinds := [], alts := [], laidByText := true, laidKinds := [.data], laidTests := true, laidLooks := .later }
def HolderVersionsUptoCardSaid : Prop := Claim7.holds Tryd.pinned (.plain (OpenSpec.upto holderVersionsSpec)) holderVersionsUptoCard

/-- THE SECOND FORM's CARD OF 'crossroadlaw09.HolderSwaps'. -/
def holderSwapsUptoCard : Claim7 := { stood := { row := holderSwapsUptoRow, standIns := [], harness := (true, "dc7987e3aba38a8cbdc53c195d29df28cfe27313572334b09553efcedaff4a2b"), looks := false }, kinds := [], alts := [], laidByText := true, laidKinds := [.data], laidTests := true, laidLooks := .later }
def HolderSwapsUptoCardSaid : Prop := Claim7.holds Tryd.pinned (.plain (OpenSpec.upto holderSwapsSpec)) holderSwapsUptoCard

/-- THE SECOND FORM's CARD OF 'crossroadlaw09.HolderOld'. -/
def holderOldUptoCard : Claim7 := { stood := { row := holderOldUptoRow, standIns := [], harness := (true, "dc7987e3aba38a8cbdc53c195d29df28cfe27313572334b09553efcedaff4a2b"), looks := false }, kinds := [], alts := [], laidByText := true, laidKinds := [.data], laidTests := true, laidLooks := .later }
def HolderOldUptoCardSaid : Prop := Claim7.holds Tryd.pinned (.plain (OpenSpec.upto holderOldSpec)) holderOldUptoCard
end Rows
end Go.Proofs.YtaefooandfnloaaDoor
