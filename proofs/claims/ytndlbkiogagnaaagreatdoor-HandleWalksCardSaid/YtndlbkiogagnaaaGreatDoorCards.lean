/-
  DERIVED. GIVEN WITH THE SEED: THE CARDS: each row of YtndlbkiogagnaaaGreatDoorRows.lean that lists a variable, with what it lists TIED to the program's text (the seventh form; the later family's looks); each row that meets fmt, with fmt's text TOLD by the authors' own Lean function (tested against real Go, not proved from fmt's source: count such statements apart). THE CARD IS WHAT COUNTS. Prove the row's statement (the work); the ties are given (YtndlbkiogagnaaaGreatDoorTie.lean); close each card by the builder's one call (the guide's Derived/Test/ToyasCard.lean, 'card_holds'). Laid BY PROGRAM, IN A SANDBOX (cutbox-door.mjs). By AI agents, Wed Nov 11 2026. No macro, syntax, notation, axiom, sorry.
-/
import Derived.Test.YtndlbkiogagnaaaGreatDoorRows
import GoSem.ClaimSeven
namespace Go.Proofs.YtndlbkiogagnaaaGreatDoor
namespace Rows

/-- THE TIED CARD OF 'crossroadlaw13.HandleReloads'. -/
def handleReloadsCard : Claim7 := { stood := { row := handleReloadsRow, standIns := [], harness := (true, "36e346160b26fdda5ceed82ff10740f906eac95eff23e526c16daf4071bd1ce4"), looks := false }, kinds := [], alts := [], laidByText := true, laidKinds := [.data, .data, .data, .data], laidTests := true, laidLooks := .later }
def HandleReloadsCardSaid : Prop := Claim7.holds Tryz.pinned (.plain (OpenSpec.ofChange handleReloadsSpec)) handleReloadsCard

/-- THE TIED CARD OF 'crossroadlaw13.HandleWalks'. -/
def handleWalksCard : Claim7 := { stood := { row := handleWalksRow, standIns := [], harness := (true, "36e346160b26fdda5ceed82ff10740f906eac95eff23e526c16daf4071bd1ce4"), looks := false }, kinds := [], alts := [], laidByText := true, laidKinds := [.data, .data, .data, .data], laidTests := true, laidLooks := .later }
def HandleWalksCardSaid : Prop := Claim7.holds Tryz.pinned (.plain (OpenSpec.ofChange handleWalksSpec)) handleWalksCard

/-- THE TIED CARD OF 'crossroadlaw13.HandleTags'. -/
def handleTagsCard : Claim7 := { stood := { row := handleTagsRow, standIns := [], harness := (true, "36e346160b26fdda5ceed82ff10740f906eac95eff23e526c16daf4071bd1ce4"), looks := false }, kinds := [], alts := [], laidByText := true, laidKinds := [.data, .data, .data, .data], laidTests := true, laidLooks := .later }
def HandleTagsCardSaid : Prop := Claim7.holds Tryz.pinned (.plain (OpenSpec.ofChange handleTagsSpec)) handleTagsCard

/-- THE TIED CARD OF 'crossroadlaw13.HandleLists'. -/
def handleListsCard : Claim7 := { stood := { row := handleListsRow, standIns := [], harness := (true, "36e346160b26fdda5ceed82ff10740f906eac95eff23e526c16daf4071bd1ce4"), looks := false }, kinds := [], alts := [], laidByText := true, laidKinds := [.data, .data, .data, .data], laidTests := true, laidLooks := .later }
def HandleListsCardSaid : Prop := Claim7.holds Tryz.pinned (.plain (OpenSpec.ofChange handleListsSpec)) handleListsCard

/-- THE TIED CARD OF 'crossroadlaw13.HandleAlone'. -/
def handleAloneCard : Claim7 := { stood := { row := handleAloneRow, standIns := [], harness := (true, "36e346160b26fdda5ceed82ff10740f906eac95eff23e526c16daf4071bd1ce4"), looks := false }, kinds := [], alts := [], laidByText := true, laidKinds := [.data, .data, .data, .data, .data, .data, .data], laidTests := true, laidLooks := .later }
def HandleAloneCardSaid : Prop := Claim7.holds Tryz.pinned (.plain (OpenSpec.ofChange handleAloneSpec)) handleAloneCard

/-- THE SECOND FORM's CARD OF 'crossroadlaw13.HandleReloads'. -/
def handleReloadsUptoCard : Claim7 := { stood := { row := handleReloadsUptoRow, standIns := [], harness := (true, "36e346160b26fdda5ceed82ff10740f906eac95eff23e526c16daf4071bd1ce4"), looks := false }, kinds := [], alts := [], laidByText := true, laidKinds := [.data, .data, .data, .data], laidTests := true, laidLooks := .later }
def HandleReloadsUptoCardSaid : Prop := Claim7.holds Tryz.pinned (.plain (OpenSpec.upto handleReloadsSpec)) handleReloadsUptoCard

/-- THE SECOND FORM's CARD OF 'crossroadlaw13.HandleWalks'. -/
def handleWalksUptoCard : Claim7 := { stood := { row := handleWalksUptoRow, standIns := [], harness := (true, "36e346160b26fdda5ceed82ff10740f906eac95eff23e526c16daf4071bd1ce4"), looks := false }, kinds := [], alts := [], laidByText := true, laidKinds := [.data, .data, .data, .data], laidTests := true, laidLooks := .later }
def HandleWalksUptoCardSaid : Prop := Claim7.holds Tryz.pinned (.plain (OpenSpec.upto handleWalksSpec)) handleWalksUptoCard

/-- THE SECOND FORM's CARD OF 'crossroadlaw13.HandleTags'. -/
def handleTagsUptoCard : Claim7 := { stood := { row := handleTagsUptoRow, standIns := [], harness := (true, "36e346160b26fdda5ceed82ff10740f906eac95eff23e526c16daf4071bd1ce4"), looks := false }, kinds := [], alts := [], laidByText := true, laidKinds := [.data, .data, .data, .data], laidTests := true, laidLooks := .later }
def HandleTagsUptoCardSaid : Prop := Claim7.holds Tryz.pinned (.plain (OpenSpec.upto handleTagsSpec)) handleTagsUptoCard

/-- THE SECOND FORM's CARD OF 'crossroadlaw13.HandleLists'. -/
def handleListsUptoCard : Claim7 := { stood := { row := handleListsUptoRow, standIns := [], harness := (true, "36e346160b26fdda5ceed82ff10740f906eac95eff23e526c16daf4071bd1ce4"), looks := false }, kinds := [], alts := [], laidByText := true, laidKinds := [.data, .data, .data, .data], laidTests := true, laidLooks := .later }
def HandleListsUptoCardSaid : Prop := Claim7.holds Tryz.pinned (.plain (OpenSpec.upto handleListsSpec)) handleListsUptoCard

/-- THE SECOND FORM's CARD OF 'crossroadlaw13.HandleAlone'. -/
def handleAloneUptoCard : Claim7 := { stood := { row := handleAloneUptoRow, standIns := [], harness := (true, "36e346160b26fdda5ceed82ff10740f906eac95eff23e526c16daf4071bd1ce4"), looks := false }, kinds := [], alts := [], laidByText := true, laidKinds := [.data, .data, .data, .data, .data, .data, .data], laidTests := true, laidLooks := .later }
def HandleAloneUptoCardSaid : Prop := Claim7.holds Tryz.pinned (.plain (OpenSpec.upto handleAloneSpec)) handleAloneUptoCard
end Rows
end Go.Proofs.YtndlbkiogagnaaaGreatDoor
