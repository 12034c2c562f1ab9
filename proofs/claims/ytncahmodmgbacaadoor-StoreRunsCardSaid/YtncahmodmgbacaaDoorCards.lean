/-
  DERIVED. GIVEN WITH THE SEED: THE CARDS: each row of YtncahmodmgbacaaDoorRows.lean that lists a variable, with what it lists TIED to the program's text (the seventh form; the later family's looks); each row that meets fmt, with fmt's text TOLD by the authors' own Lean function (tested against real Go, not proved from fmt's source: count such statements apart). THE CARD IS WHAT COUNTS. Prove the row's statement (the work); the ties are given (YtncahmodmgbacaaDoorTie.lean); close each card by the builder's one call (the guide's Derived/Test/ToyasCard.lean, 'card_holds'). Laid BY PROGRAM, IN A SANDBOX (cutbox-door.mjs). By AI agents, Wed Nov 11 2026. No macro, syntax, notation, axiom, sorry.
-/
import Derived.Test.YtncahmodmgbacaaDoorRows
import GoSem.ClaimSeven
namespace Go.Proofs.YtncahmodmgbacaaDoor
namespace Rows

/-- THE TIED CARD OF 'crossroadlaw10.StoreTags'. -/
def storeTagsCard : Claim7 := { stood := { row := storeTagsRow, standIns := [], harness := (true, "61c6bbb7ced023876a7bb992e8748de602b615050dfe3bc5eaaaab8e92b4514f"), looks := false }, kinds := [], alts := [], laidByText := true, laidKinds := [.data, .data, .data], laidTests := true, laidLooks := .later }
def StoreTagsCardSaid : Prop := Claim7.holds Tryd.pinned (.plain (OpenSpec.ofChange storeTagsSpec)) storeTagsCard

/-- THE TIED CARD OF 'crossroadlaw10.StoreShards'. -/
def storeShardsCard : Claim7 := { stood := { row := storeShardsRow, standIns := [], harness := (true, "61c6bbb7ced023876a7bb992e8748de602b615050dfe3bc5eaaaab8e92b4514f"), looks := false }, kinds := [], alts := [], laidByText := true, laidKinds := [.data, .data, .data], laidTests := true, laidLooks := .later }
def StoreShardsCardSaid : Prop := Claim7.holds Tryd.pinned (.plain (OpenSpec.ofChange storeShardsSpec)) storeShardsCard

/-- THE TIED CARD OF 'crossroadlaw10.StoreSwaps'. -/
def storeSwapsCard : Claim7 := { stood := { row := storeSwapsRow, standIns := [], harness := (true, "61c6bbb7ced023876a7bb992e8748de602b615050dfe3bc5eaaaab8e92b4514f"), looks := false }, kinds := [], alts := [], laidByText := true, laidKinds := [.data, .data, .data], laidTests := true, laidLooks := .later }
def StoreSwapsCardSaid : Prop := Claim7.holds Tryd.pinned (.plain (OpenSpec.ofChange storeSwapsSpec)) storeSwapsCard

/-- THE TIED CARD OF 'crossroadlaw10.StoreLists'. -/
def storeListsCard : Claim7 := { stood := { row := storeListsRow, standIns := [], harness := (true, "61c6bbb7ced023876a7bb992e8748de602b615050dfe3bc5eaaaab8e92b4514f"), looks := false }, kinds := [], alts := [], laidByText := true, laidKinds := [.data, .data, .data], laidTests := true, laidLooks := .later }
def StoreListsCardSaid : Prop := Claim7.holds Tryd.pinned (.plain (OpenSpec.ofChange storeListsSpec)) storeListsCard

/-- THE TIED CARD OF 'crossroadlaw10.StoreRoom'. -/
def storeRoomCard : Claim7 := { stood := { row := storeRoomRow, standIns := [], harness := (true, "61c6bbb7ced023876a7bb992e8748de602b615050dfe3bc5eaaaab8e92b4514f"), looks := false }, kinds := [], alts := [], laidByText := true, laidKinds := [.data, .data, .data], laidTests := true, laidLooks := .later }
def StoreRoomCardSaid : Prop := Claim7.holds Tryd.pinned (.plain (OpenSpec.ofChange storeRoomSpec)) storeRoomCard

/-- THE TIED CARD OF 'crossroadlaw10.StoreRuns'. -/
def storeRunsCard : Claim7 := { stood := { row := storeRunsRow, standIns := [], harness := (true, "61c6bbb7ced023876a7bb992e8748de602b615050dfe3bc5eaaaab8e92b4514f"), looks := false }, kinds := [], alts := [], laidByText := true, laidKinds := [.data, .data, .data], laidTests := true, laidLooks := .later }
def StoreRunsCardSaid : Prop := Claim7.holds Tryd.pinned (.plain (OpenSpec.ofChange storeRunsSpec)) storeRunsCard

/-- THE TIED CARD OF 'crossroadlaw10.StoreLocks'. -/
def storeLocksCard : Claim7 := { stood := { row := storeLocksRow, standIns := [], harness := (true, "61c6bbb7ced023876a7bb992e8748de602b615050dfe3bc5eaaaab8e92b4514f"), looks := false }, kinds := [], alts := [], laidByText := true, laidKinds := [.data, .data, .data], laidTests := true, laidLooks := .later }
def StoreLocksCardSaid : Prop := Claim7.holds Tryd.pinned (.plain (OpenSpec.ofChange storeLocksSpec)) storeLocksCard

/-- THE SECOND FORM's CARD OF 'crossroadlaw10.StoreTags'. -/
def storeTagsUptoCard : Claim7 := { stood := { row := storeTagsUptoRow, standIns := [], harness := (true, "61c6bbb7ced023876a7bb992e8748de602b615050dfe3bc5eaaaab8e92b4514f"), looks := false }, kinds := [], alts := [], laidByText := true, laidKinds := [.data, .data, .data], laidTests := true, laidLooks := .later }
def StoreTagsUptoCardSaid : Prop := Claim7.holds Tryd.pinned (.plain (OpenSpec.upto storeTagsSpec)) storeTagsUptoCard

/-- THE SECOND FORM's CARD OF 'crossroadlaw10.StoreShards'. -/
def storeShardsUptoCard : Claim7 := { stood := { row := storeShardsUptoRow, standIns := [], harness := (true, "61c6bbb7ced023876a7bb992e8748de602b615050dfe3bc5eaaaab8e92b4514f"), looks := false }, kinds := [], alts := [], laidByText := true, laidKinds := [.data, .data, .data], laidTests := true, laidLooks := .later }
def StoreShardsUptoCardSaid : Prop := Claim7.holds Tryd.pinned (.plain (OpenSpec.upto storeShardsSpec)) storeShardsUptoCard

/-- THE SECOND FORM's CARD OF 'crossroadlaw10.StoreSwaps'. -/
def storeSwapsUptoCard : Claim7 := { stood := { row := storeSwapsUptoRow, standIns := [], harness := (true, "61c6bbb7ced023876a7bb992e8748de602b615050dfe3bc5eaaaab8e92b4514f"), looks := false }, kinds := [], alts := [], laidByText := true, laidKinds := [.data, .data, .data], laidTests := true, laidLooks := .later }
def StoreSwapsUptoCardSaid : Prop := Claim7.holds Tryd.pinned (.plain (OpenSpec.upto storeSwapsSpec)) storeSwapsUptoCard

/-- THE SECOND FORM's CARD OF 'crossroadlaw10.StoreLists'. -/
def storeListsUptoCard : Claim7 := { stood := { row := storeListsUptoRow, standIns := [], harness := (true, "61c6bbb7ced023876a7bb992e8748de602b615050dfe3bc5eaaaab8e92b4514f"), looks := false }, kinds := [], alts := [], laidByText := true, laidKinds := [.data, .data, .data], laidTests := true, laidLooks := .later }
def StoreListsUptoCardSaid : Prop := Claim7.holds Tryd.pinned (.plain (OpenSpec.upto storeListsSpec)) storeListsUptoCard

/-- THE SECOND FORM's CARD OF 'crossroadlaw10.StoreRoom'. -/
def storeRoomUptoCard : Claim7 := { stood := { row := storeRoomUptoRow, standIns := [], harness := (true, "61c6bbb7ced023876a7bb992e8748de602b615050dfe3bc5eaaaab8e92b4514f"), looks := false }, kinds := [], alts := [], laidByText := true, laidKinds := [.data, .data, .data], laidTests := true, laidLooks := .later }
def StoreRoomUptoCardSaid : Prop := Claim7.holds Tryd.pinned (.plain (OpenSpec.upto storeRoomSpec)) storeRoomUptoCard

/-- THE SECOND FORM's CARD OF 'crossroadlaw10.StoreRuns'. -/
def storeRunsUptoCard : Claim7 := { stood := { row := storeRunsUptoRow, standIns := [], harness := (true, "61c6bbb7ced023876a7bb992e8748de602b615050dfe3bc5eaaaab8e92b4514f"), looks := false }, kinds := [], alts := [], laidByText := true, laidKinds := [.data, .data, .data], laidTests := true, laidLooks := .later }
def StoreRunsUptoCardSaid : Prop := Claim7.holds Tryd.pinned (.plain (OpenSpec.upto storeRunsSpec)) storeRunsUptoCard

/-- THE SECOND FORM's CARD OF 'crossroadlaw10.StoreLocks'. -/
def storeLocksUptoCard : Claim7 := { stood := { row := storeLocksUptoRow, standIns := [], harness := (true, "61c6bbb7ced023876a7bb992e8748de602b615050dfe3bc5eaaaab8e92b4514f"), looks := false }, kinds := [], alts := [], laidByText := true, laidKinds := [.data, .data, .data], laidTests := true, laidLooks := .later }
def StoreLocksUptoCardSaid : Prop := Claim7.holds Tryd.pinned (.plain (OpenSpec.upto storeLocksSpec)) storeLocksUptoCard
end Rows
end Go.Proofs.YtncahmodmgbacaaDoor
