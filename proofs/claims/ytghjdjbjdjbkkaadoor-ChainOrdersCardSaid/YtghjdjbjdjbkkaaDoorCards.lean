/-
  DERIVED. GIVEN WITH THE SEED: THE CARDS: each row of YtghjdjbjdjbkkaaDoorRows.lean that lists a variable, with what it lists TIED to the program's text (the seventh form; the later family's looks); each row that meets fmt, with fmt's text TOLD by the authors' own Lean function (tested against real Go, not proved from fmt's source: count such statements apart). THE CARD IS WHAT COUNTS. Prove the row's statement (the work); the ties are given (YtghjdjbjdjbkkaaDoorTie.lean); close each card by the builder's one call (the guide's Derived/Test/ToyasCard.lean, 'card_holds'). Laid BY PROGRAM, IN A SANDBOX (cutbox-door.mjs). By AI agents, Wed Nov 11 2026. No macro, syntax, notation, axiom, sorry.
-/
import Derived.Test.YtghjdjbjdjbkkaaDoorRows
import GoSem.ClaimSeven
namespace Go.Proofs.YtghjdjbjdjbkkaaDoor
namespace Rows

/-- THE TIED CARD OF 'crossroadlaw12.ChainOrders'. -/
def chainOrdersCard : Claim7 := { stood := { row := chainOrdersRow, standIns := [], harness := (true, "8e36fc97a253fe4d5dedf0e96142253fe9295cc50f196efe3cb6e7fd6ff294fa"), looks := false }, kinds := [], alts := [], laidByText := true, laidKinds := [.data, .data, .data], laidTests := true, laidLooks := .later }
def ChainOrdersCardSaid : Prop := Claim7.holds Tryd.pinned (.plain (OpenSpec.ofChange chainOrdersSpec)) chainOrdersCard

/-- THE TIED CARD OF 'crossroadlaw12.ChainMarks'. -/
def chainMarksCard : Claim7 := { stood := { row := chainMarksRow, standIns := [], harness := (true, "8e36fc97a253fe4d5dedf0e96142253fe9295cc50f196efe3cb6e7fd6ff294fa"), looks := false }, kinds := [], alts := [], laidByText := true, laidKinds := [.data, .data, .data], laidTests := true, laidLooks := .later }
def ChainMarksCardSaid : Prop := Claim7.holds Tryd.pinned (.plain (OpenSpec.ofChange chainMarksSpec)) chainMarksCard

/-- THE TIED CARD OF 'crossroadlaw12.ChainSafe'. -/
def chainSafeCard : Claim7 := { stood := { row := chainSafeRow, standIns := [], harness := (true, "8e36fc97a253fe4d5dedf0e96142253fe9295cc50f196efe3cb6e7fd6ff294fa"), looks := false }, kinds := [], alts := [], laidByText := true, laidKinds := [.data, .data, .data], laidTests := true, laidLooks := .later }
def ChainSafeCardSaid : Prop := Claim7.holds Tryd.pinned (.plain (OpenSpec.ofChange chainSafeSpec)) chainSafeCard

/-- THE TIED CARD OF 'crossroadlaw12.ChainAlone'. -/
def chainAloneCard : Claim7 := { stood := { row := chainAloneRow, standIns := [], harness := (true, "8e36fc97a253fe4d5dedf0e96142253fe9295cc50f196efe3cb6e7fd6ff294fa"), looks := false }, kinds := [], alts := [], laidByText := true, laidKinds := [.data, .data, .data], laidTests := true, laidLooks := .later }
def ChainAloneCardSaid : Prop := Claim7.holds Tryd.pinned (.plain (OpenSpec.ofChange chainAloneSpec)) chainAloneCard

/-- THE SECOND FORM's CARD OF 'crossroadlaw12.ChainOrders'. -/
def chainOrdersUptoCard : Claim7 := { stood := { row := chainOrdersUptoRow, standIns := [], harness := (true, "8e36fc97a253fe4d5dedf0e96142253fe9295cc50f196efe3cb6e7fd6ff294fa"), looks := false }, kinds := [], alts := [], laidByText := true, laidKinds := [.data, .data, .data], laidTests := true, laidLooks := .later }
def ChainOrdersUptoCardSaid : Prop := Claim7.holds Tryd.pinned (.plain (OpenSpec.upto chainOrdersSpec)) chainOrdersUptoCard

/-- THE SECOND FORM's CARD OF 'crossroadlaw12.ChainMarks'. -/
def chainMarksUptoCard : Claim7 := { stood := { row := chainMarksUptoRow, standIns := [], harness := (true, "8e36fc97a253fe4d5dedf0e96142253fe9295cc50f196efe3cb6e7fd6ff294fa"), looks := false }, kinds := [], alts := [], laidByText := true, laidKinds := [.data, .data, .data], laidTests := true, laidLooks := .later }
def ChainMarksUptoCardSaid : Prop := Claim7.holds Tryd.pinned (.plain (OpenSpec.upto chainMarksSpec)) chainMarksUptoCard

/-- THE SECOND FORM's CARD OF 'crossroadlaw12.ChainSafe'. -/
def chainSafeUptoCard : Claim7 := { stood := { row := chainSafeUptoRow, standIns := [], harness := (true, "8e36fc97a253fe4d5dedf0e96142253fe9295cc50f196efe3cb6e7fd6ff294fa"), looks := false }, kinds := [], alts := [], laidByText := true, laidKinds := [.data, .data, .data], laidTests := true, laidLooks := .later }
def ChainSafeUptoCardSaid : Prop := Claim7.holds Tryd.pinned (.plain (OpenSpec.upto chainSafeSpec)) chainSafeUptoCard

/-- THE SECOND FORM's CARD OF 'crossroadlaw12.ChainAlone'. -/
def chainAloneUptoCard : Claim7 := { stood := { row := chainAloneUptoRow, standIns := [], harness := (true, "8e36fc97a253fe4d5dedf0e96142253fe9295cc50f196efe3cb6e7fd6ff294fa"), looks := false }, kinds := [], alts := [], laidByText := true, laidKinds := [.data, .data, .data], laidTests := true, laidLooks := .later }
def ChainAloneUptoCardSaid : Prop := Claim7.holds Tryd.pinned (.plain (OpenSpec.upto chainAloneSpec)) chainAloneUptoCard
end Rows
end Go.Proofs.YtghjdjbjdjbkkaaDoor
