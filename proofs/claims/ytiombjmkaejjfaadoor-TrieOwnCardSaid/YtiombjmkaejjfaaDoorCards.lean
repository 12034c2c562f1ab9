/-
  DERIVED. GIVEN WITH THE SEED: THE CARDS: each row of YtiombjmkaejjfaaDoorRows.lean that lists a variable, with what it lists TIED to the program's text (the seventh form; the later family's looks); each row that meets fmt, with fmt's text TOLD by the authors' own Lean function (tested against real Go, not proved from fmt's source: count such statements apart). THE CARD IS WHAT COUNTS. Prove the row's statement (the work); the ties are given (YtiombjmkaejjfaaDoorTie.lean); close each card by the builder's one call (the guide's Derived/Test/ToyasCard.lean, 'card_holds'). Laid BY PROGRAM, IN A SANDBOX (cutbox-door.mjs). By AI agents, Wed Nov 11 2026. No macro, syntax, notation, axiom, sorry.
-/
import Derived.Test.YtiombjmkaejjfaaDoorRows
import GoSem.ClaimSeven
namespace Go.Proofs.YtiombjmkaejjfaaDoor
namespace Rows

/-- THE TIED CARD OF 'crossroadlaw08.TrieStrong'. -/
def trieStrongCard : Claim7 := { stood := { row := trieStrongRow, standIns := [], harness := (true, "b5cdcac561c96a53420f01a9ed5343ca26b1b1d4e7c0880e59fa694c17e0e588"), looks := false }, kinds := [], alts := [], laidByText := true, laidKinds := [.data], laidTests := true, laidLooks := .later }
def TrieStrongCardSaid : Prop := Claim7.holds Tryd.pinned (.plain (OpenSpec.ofChange trieStrongSpec)) trieStrongCard

/-- THE TIED CARD OF 'crossroadlaw08.TrieParams'. -/
def trieParamsCard : Claim7 := { stood := { row := trieParamsRow, standIns := [], harness := (true, "b5cdcac561c96a53420f01a9ed5343ca26b1b1d4e7c0880e59fa694c17e0e588"), looks := false }, kinds := [], alts := [], laidByText := true, laidKinds := [.data], laidTests := true, laidLooks := .later }
def TrieParamsCardSaid : Prop := Claim7.holds Tryd.pinned (.plain (OpenSpec.ofChange trieParamsSpec)) trieParamsCard

/-- THE TIED CARD OF 'crossroadlaw08.TrieWords'. -/
def trieWordsCard : Claim7 := { stood := { row := trieWordsRow, standIns := [], harness := (true, "b5cdcac561c96a53420f01a9ed5343ca26b1b1d4e7c0880e59fa694c17e0e588"), looks := false }, kinds := [], alts := [], laidByText := true, laidKinds := [.data], laidTests := true, laidLooks := .later }
def TrieWordsCardSaid : Prop := Claim7.holds Tryd.pinned (.plain (OpenSpec.ofChange trieWordsSpec)) trieWordsCard

/-- THE TIED CARD OF 'crossroadlaw08.TrieMatches'. -/
def trieMatchesCard : Claim7 := { stood := { row := trieMatchesRow, standIns := [], harness := (true, "b5cdcac561c96a53420f01a9ed5343ca26b1b1d4e7c0880e59fa694c17e0e588"), looks := false }, kinds := [], alts := [], laidByText := true, laidKinds := [.data], laidTests := true, laidLooks := .later }
def TrieMatchesCardSaid : Prop := Claim7.holds Tryd.pinned (.plain (OpenSpec.ofChange trieMatchesSpec)) trieMatchesCard

/-- THE TIED CARD OF 'crossroadlaw08.TrieKeeps'. -/
def trieKeepsCard : Claim7 := { stood := { row := trieKeepsRow, standIns := [], harness := (true, "b5cdcac561c96a53420f01a9ed5343ca26b1b1d4e7c0880e59fa694c17e0e588"), looks := false }, kinds := [], alts := [], laidByText := true, laidKinds := [.data], laidTests := true, laidLooks := .later }
def TrieKeepsCardSaid : Prop := Claim7.holds Tryd.pinned (.plain (OpenSpec.ofChange trieKeepsSpec)) trieKeepsCard

/-- THE TIED CARD OF 'crossroadlaw08.TrieOwn'. -/
def trieOwnCard : Claim7 := { stood := { row := trieOwnRow, standIns := [], harness := (true, "b5cdcac561c96a53420f01a9ed5343ca26b1b1d4e7c0880e59fa694c17e0e588"), looks := false }, kinds := [], alts := [], laidByText := true, laidKinds := [.data], laidTests := true, laidLooks := .later }
def TrieOwnCardSaid : Prop := Claim7.holds Tryd.pinned (.plain (OpenSpec.ofChange trieOwnSpec)) trieOwnCard

/-- THE TIED CARD OF 'crossroadlaw08.TrieSame'. -/
def trieSameCard : Claim7 := { stood := { row := trieSameRow, standIns := [], harness := (true, "b5cdcac561c96a53420f01a9ed5343ca26b1b1d4e7c0880e59fa694c17e0e588"), looks := false }, kinds := [], alts := [], laidByText := true, laidKinds := [.data], laidTests := true, laidLooks := .later }
def TrieSameCardSaid : Prop := Claim7.holds Tryd.pinned (.plain (OpenSpec.ofChange trieSameSpec)) trieSameCard

/-- THE SECOND FORM's CARD OF 'crossroadlaw08.TrieStrong'. -/
def trieStrongUptoCard : Claim7 := { stood := { row := trieStrongUptoRow, standIns := [], harness := (true, "b5cdcac561c96a53420f01a9ed5343ca26b1b1d4e7c0880e59fa694c17e0e588"), looks := false }, kinds := [], alts := [], laidByText := true, laidKinds := [.data], laidTests := true, laidLooks := .later }
def TrieStrongUptoCardSaid : Prop := Claim7.holds Tryd.pinned (.plain (OpenSpec.upto trieStrongSpec)) trieStrongUptoCard

/-- THE SECOND FORM's CARD OF 'crossroadlaw08.TrieParams'. -/
def trieParamsUptoCard : Claim7 := { stood := { row := trieParamsUptoRow, standIns := [], harness := (true, "b5cdcac561c96a53420f01a9ed5343ca26b1b1d4e7c0880e59fa694c17e0e588"), looks := false }, kinds := [], alts := [], laidByText := true, laidKinds := [.data], laidTests := true, laidLooks := .later }
def TrieParamsUptoCardSaid : Prop := Claim7.holds Tryd.pinned (.plain (OpenSpec.upto trieParamsSpec)) trieParamsUptoCard

/-- THE SECOND FORM's CARD OF 'crossroadlaw08.TrieWords'. -/
def trieWordsUptoCard : Claim7 := { stood := { row := trieWordsUptoRow, standIns := [], harness := (true, "b5cdcac561c96a53420f01a9ed5343ca26b1b1d4e7c0880e59fa694c17e0e588"), looks := false }, kinds := [], alts := [], laidByText := true, laidKinds := [.data], laidTests := true, laidLooks := .later }
def TrieWordsUptoCardSaid : Prop := Claim7.holds Tryd.pinned (.plain (OpenSpec.upto trieWordsSpec)) trieWordsUptoCard

/-- THE SECOND FORM's CARD OF 'crossroadlaw08.TrieMatches'. -/
def trieMatchesUptoCard : Claim7 := { stood := { row := trieMatchesUptoRow, standIns := [], harness := (true, "b5cdcac561c96a53420f01a9ed5343ca26b1b1d4e7c0880e59fa694c17e0e588"), looks := false }, kinds := [], alts := [], laidByText := true, laidKinds := [.data], laidTests := true, laidLooks := .later }
def TrieMatchesUptoCardSaid : Prop := Claim7.holds Tryd.pinned (.plain (OpenSpec.upto trieMatchesSpec)) trieMatchesUptoCard

/-- THE SECOND FORM's CARD OF 'crossroadlaw08.TrieKeeps'. -/
def trieKeepsUptoCard : Claim7 := { stood := { row := trieKeepsUptoRow, standIns := [], harness := (true, "b5cdcac561c96a53420f01a9ed5343ca26b1b1d4e7c0880e59fa694c17e0e588"), looks := false }, kinds := [], alts := [], laidByText := true, laidKinds := [.data], laidTests := true, laidLooks := .later }
def TrieKeepsUptoCardSaid : Prop := Claim7.holds Tryd.pinned (.plain (OpenSpec.upto trieKeepsSpec)) trieKeepsUptoCard

/-- THE SECOND FORM's CARD OF 'crossroadlaw08.TrieOwn'. -/
def trieOwnUptoCard : Claim7 := { stood := { row := trieOwnUptoRow, standIns := [], harness := (true, "b5cdcac561c96a53420f01a9ed5343ca26b1b1d4e7c0880e59fa694c17e0e588"), looks := false }, kinds := [], alts := [], laidByText := true, laidKinds := [.data], laidTests := true, laidLooks := .later }
def TrieOwnUptoCardSaid : Prop := Claim7.holds Tryd.pinned (.plain (OpenSpec.upto trieOwnSpec)) trieOwnUptoCard

/-- THE SECOND FORM's CARD OF 'crossroadlaw08.TrieSame'. -/
def trieSameUptoCard : Claim7 := { stood := { row := trieSameUptoRow, standIns := [], harness := (true, "b5cdcac561c96a53420f01a9ed5343ca26b1b1d4e7c0880e59fa694c17e0e588"), looks := false }, kinds := [], alts := [], laidByText := true, laidKinds := [.data], laidTests := true, laidLooks := .later }
def TrieSameUptoCardSaid : Prop := Claim7.holds Tryd.pinned (.plain (OpenSpec.upto trieSameSpec)) trieSameUptoCard
end Rows
end Go.Proofs.YtiombjmkaejjfaaDoor
