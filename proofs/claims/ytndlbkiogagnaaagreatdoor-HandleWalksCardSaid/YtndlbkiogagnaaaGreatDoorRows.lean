/-
  NARROWER THAN 'FOR EVERY INPUT', by the rows' own cells (each row's printed sentence says how): HandleReloads: laid · HandleWalks: laid · HandleTags: laid · HandleLists: laid · HandleAlone: laid.
  DERIVED. THE GIVEN ROWS OF THIS SEAT. 5 by the template 'for every input the law returns true; each argument reads behind the call as it read before'; 0 by the template 'total and deterministic' (their statements: YtndlbkiogagnaaaGreatDoorTotals.lean).
  GIVEN WITH THE SEED: the statements are not yours to turn. If you find one false, say at which input.
  Laid BY PROGRAM, IN A SANDBOX (cutbox-rows.mjs): the forced cells as the released guide's own fill.sh prints them over the translation d9967b4350c97230… (all of the seat's roots in one cut). By AI agents, Wed Nov 11 2026. No macro, syntax, notation, axiom, sorry.
-/
import Derived.Test.YtndlbkiogagnaaaGreatDoorChecked
import GoSem.Claim
import GoSem.ClaimJoined
import GoSem.ClaimMapViews
import Derived.JoinedTies
import Derived.KernelRfl
namespace Go.Proofs.YtndlbkiogagnaaaGreatDoor
/- THE CELL 'sum', in the pinned program and in every row, IS THE sha256 OF THE DUMP (.gsa) THAT YtndlbkiogagnaaaGreatDoorProg.lean LOADS. Nothing in Lean hashes anything: it is a label: what it is worth is what the hold of that sum in a sandbox is worth. -/
noncomputable def Tryz.pinned : Pinned := { name := "ytndlbkiogagnaaagreatdoor", sum := "d9967b4350c97230652ae6827d6b4e6bdf2fb584e1b8d3c8220c1a83f360e095", checked := Tryz.checked }
namespace Rows
def none {H : Type} : Left H := { results := [], args := [] }

/- WHAT THE LISTED PACKAGE-LEVEL VARIABLES READ AS WHEN THE CALL BEGINS. Each datum BY PROGRAM (the guide's laid-datum.mjs) off the statement by which the dump's own 'gosem.cut.vars' lays the variable. In a bare row this is a premise. The card (YtndlbkiogagnaaaGreatDoorCards.lean) ties it to the program's text. -/
def laid_math_bits_deBruijn32tab {H : Type} : DataW H := .agg [.lit (.int .u8 0), .lit (.int .u8 1), .lit (.int .u8 28), .lit (.int .u8 2), .lit (.int .u8 29), .lit (.int .u8 14), .lit (.int .u8 24), .lit (.int .u8 3), .lit (.int .u8 30), .lit (.int .u8 22), .lit (.int .u8 20), .lit (.int .u8 15), .lit (.int .u8 25), .lit (.int .u8 17), .lit (.int .u8 4), .lit (.int .u8 8), .lit (.int .u8 31), .lit (.int .u8 27), .lit (.int .u8 13), .lit (.int .u8 23), .lit (.int .u8 21), .lit (.int .u8 19), .lit (.int .u8 16), .lit (.int .u8 7), .lit (.int .u8 26), .lit (.int .u8 12), .lit (.int .u8 18), .lit (.int .u8 6), .lit (.int .u8 11), .lit (.int .u8 5), .lit (.int .u8 10), .lit (.int .u8 9)]
def laid_math_bits_deBruijn64tab {H : Type} : DataW H := .agg [.lit (.int .u8 0), .lit (.int .u8 1), .lit (.int .u8 56), .lit (.int .u8 2), .lit (.int .u8 57), .lit (.int .u8 49), .lit (.int .u8 28), .lit (.int .u8 3), .lit (.int .u8 61), .lit (.int .u8 58), .lit (.int .u8 42), .lit (.int .u8 50), .lit (.int .u8 38), .lit (.int .u8 29), .lit (.int .u8 17), .lit (.int .u8 4), .lit (.int .u8 62), .lit (.int .u8 47), .lit (.int .u8 59), .lit (.int .u8 36), .lit (.int .u8 45), .lit (.int .u8 43), .lit (.int .u8 51), .lit (.int .u8 22), .lit (.int .u8 53), .lit (.int .u8 39), .lit (.int .u8 33), .lit (.int .u8 30), .lit (.int .u8 24), .lit (.int .u8 18), .lit (.int .u8 12), .lit (.int .u8 5), .lit (.int .u8 63), .lit (.int .u8 55), .lit (.int .u8 48), .lit (.int .u8 27), .lit (.int .u8 60), .lit (.int .u8 41), .lit (.int .u8 37), .lit (.int .u8 16), .lit (.int .u8 46), .lit (.int .u8 35), .lit (.int .u8 44), .lit (.int .u8 21), .lit (.int .u8 52), .lit (.int .u8 32), .lit (.int .u8 23), .lit (.int .u8 11), .lit (.int .u8 54), .lit (.int .u8 26), .lit (.int .u8 40), .lit (.int .u8 15), .lit (.int .u8 34), .lit (.int .u8 20), .lit (.int .u8 31), .lit (.int .u8 10), .lit (.int .u8 25), .lit (.int .u8 14), .lit (.int .u8 19), .lit (.int .u8 9), .lit (.int .u8 13), .lit (.int .u8 8), .lit (.int .u8 7), .lit (.int .u8 6)]
def laid_internal_strconv_uint64pow10 {H : Type} : DataW H := .agg [.lit (.int .u64 1), .lit (.int .u64 10), .lit (.int .u64 100), .lit (.int .u64 1000), .lit (.int .u64 10000), .lit (.int .u64 100000), .lit (.int .u64 1000000), .lit (.int .u64 10000000), .lit (.int .u64 100000000), .lit (.int .u64 1000000000), .lit (.int .u64 10000000000), .lit (.int .u64 100000000000), .lit (.int .u64 1000000000000), .lit (.int .u64 10000000000000), .lit (.int .u64 100000000000000), .lit (.int .u64 1000000000000000), .lit (.int .u64 10000000000000000), .lit (.int .u64 100000000000000000), .lit (.int .u64 1000000000000000000), .lit (.int .u64 10000000000000000000)]
def laid_crossroad_table_Handlers {H : Type} : DataW H := .agg [.lit (.string [103, 101, 116]), .lit (.string [112, 117, 116]), .lit (.string [100, 101, 108, 101, 116, 101]), .lit (.string [108, 105, 115, 116]), .lit (.string [119, 97, 108, 107]), .lit (.string [104, 101, 97, 108, 116, 104]), .lit (.string [114, 101, 108, 111, 97, 100]), .lit (.string [115, 104, 117, 116, 100, 111, 119, 110])]
def laid_crossroad_crossroadlaw04_methods {H : Type} : DataW H := .agg [.lit (.string [71, 69, 84]), .lit (.string [80, 85, 84]), .lit (.string [80, 79, 83, 84]), .lit (.string [68, 69, 76, 69, 84, 69]), .lit (.string [71, 69, 84]), .lit (.string [72, 69, 65, 68])]
def laid_crossroad_crossroadlaw04_targets {H : Type} : DataW H := .agg [.lit (.string [47, 104, 101, 97, 108, 116, 104]), .lit (.string [47, 107, 118, 47, 97]), .lit (.string [47, 107, 118, 47, 98]), .lit (.string [47, 107, 118, 47, 99, 37, 50, 48, 100]), .lit (.string [47, 108, 105, 115, 116, 47]), .lit (.string [47, 108, 105, 115, 116, 47, 97]), .lit (.string [47, 119, 97, 108, 107, 47, 70, 76, 70]), .lit (.string [47, 119, 97, 108, 107, 47, 120]), .lit (.string [47, 97, 100, 109, 105, 110, 47, 114, 111, 117, 116, 101, 115]), .lit (.string [47, 97, 100, 109, 105, 110, 47, 115, 116, 111, 112]), .lit (.string [47, 110, 111, 112, 101]), .lit (.string [47, 107, 118]), .lit (.string [47, 107, 118, 47, 97]), .lit (.string [47, 107, 118, 47, 98, 63, 120]), .lit (.string [47, 107, 118, 47, 37, 122, 122]), .lit (.string [47])]
def laid_crossroad_crossroadlaw04_bodies {H : Type} : DataW H := .agg [.lit (.string []), .lit (.string [111, 110, 101]), .lit (.string [116, 119, 111]), .lit (.string [71, 69, 84, 32, 47, 104, 101, 97, 108, 116, 104, 32, 104, 101, 97, 108, 116, 104, 10, 80, 85, 84, 32, 47, 107, 118, 47, 58, 107, 32, 112, 117, 116, 10, 71, 69, 84, 32, 47, 107, 118, 47, 58, 107, 32, 103, 101, 116, 10, 80, 79, 83, 84, 32, 47, 97, 100, 109, 105, 110, 47, 114, 111, 117, 116, 101, 115, 32, 114, 101, 108, 111, 97, 100, 10]), .lit (.string [71, 69, 84, 32, 47, 97, 47, 58, 120, 32, 103, 101, 116, 10, 71, 69, 84, 32, 47, 97, 47, 58, 121, 32, 112, 117, 116, 10]), .lit (.string [106, 117, 110, 107]), .lit (.string []), .lit (.string [80, 79, 83, 84, 32, 47, 97, 100, 109, 105, 110, 47, 114, 111, 117, 116, 101, 115, 32, 114, 101, 108, 111, 97, 100, 10, 80, 79, 83, 84, 32, 47, 97, 100, 109, 105, 110, 47, 115, 116, 111, 112, 32, 115, 104, 117, 116, 100, 111, 119, 110, 10, 71, 69, 84, 32, 47, 107, 118, 47, 58, 107, 101, 121, 32, 103, 101, 116, 10, 71, 69, 84, 32, 47, 42, 97, 108, 108, 32, 108, 105, 115, 116, 10, 80, 85, 84, 32, 47, 107, 118, 47, 58, 107, 101, 121, 32, 112, 117, 116, 10])]

/-- 'crossroadlaw13.HandleReloads': WHATEVER THE INPUT: true; the input reads as it did. -/
def handleReloadsSpec : ChangeSpec := { name := "handleReloads", fn := fun _ => fun
  | [d1, d2] => { results := [.lit (.bool true)], args := [d1, d2] }
  | _ => none }
def handleReloadsRow : OpenClaim := { program := "ytndlbkiogagnaaagreatdoor", sum := "d9967b4350c97230652ae6827d6b4e6bdf2fb584e1b8d3c8220c1a83f360e095", func := "crossroad/crossroadlaw13.HandleReloads", spec := "handleReloads", inPlace := ["internal/abi.NoEscape", "internal/bytealg.MakeNoZero"], unfollowed := true, recurses := true, named := ["crossroad/table.Handlers", "internal/strconv.uint64pow10", "math/bits.deBruijn32tab", "math/bits.deBruijn64tab"], plainKeys := false, apart := false, laid := [("math/bits.deBruijn32tab", laid_math_bits_deBruijn32tab), ("math/bits.deBruijn64tab", laid_math_bits_deBruijn64tab), ("internal/strconv.uint64pow10", laid_internal_strconv_uint64pow10), ("crossroad/table.Handlers", laid_crossroad_table_Handlers)] }
def HandleReloadsSaid : Prop := handleReloadsRow.holds Tryz.pinned (OpenSpec.ofChange handleReloadsSpec)

/-- ITS FALSE NEIGHBOUR: 'it returns false'. Refute it at one input. -/
def handleReloadsWrong : ChangeSpec := { name := "handleReloads", fn := fun _ => fun
  | [d1, d2] => { results := [.lit (.bool false)], args := [d1, d2] }
  | _ => none }
def HandleReloadsWrongFalsely : Prop := handleReloadsRow.holds Tryz.pinned (OpenSpec.ofChange handleReloadsWrong)

/-- 'crossroadlaw13.HandleWalks': WHATEVER THE INPUT: true; the input reads as it did. -/
def handleWalksSpec : ChangeSpec := { name := "handleWalks", fn := fun _ => fun
  | [d] => { results := [.lit (.bool true)], args := [d] }
  | _ => none }
def handleWalksRow : OpenClaim := { program := "ytndlbkiogagnaaagreatdoor", sum := "d9967b4350c97230652ae6827d6b4e6bdf2fb584e1b8d3c8220c1a83f360e095", func := "crossroad/crossroadlaw13.HandleWalks", spec := "handleWalks", inPlace := ["internal/abi.NoEscape", "internal/bytealg.MakeNoZero"], unfollowed := true, recurses := true, named := ["crossroad/table.Handlers", "internal/strconv.uint64pow10", "math/bits.deBruijn32tab", "math/bits.deBruijn64tab"], plainKeys := false, apart := false, laid := [("math/bits.deBruijn32tab", laid_math_bits_deBruijn32tab), ("math/bits.deBruijn64tab", laid_math_bits_deBruijn64tab), ("internal/strconv.uint64pow10", laid_internal_strconv_uint64pow10), ("crossroad/table.Handlers", laid_crossroad_table_Handlers)] }
def HandleWalksSaid : Prop := handleWalksRow.holds Tryz.pinned (OpenSpec.ofChange handleWalksSpec)

/-- ITS FALSE NEIGHBOUR: 'it returns false'. Refute it at one input. -/
def handleWalksWrong : ChangeSpec := { name := "handleWalks", fn := fun _ => fun
  | [d] => { results := [.lit (.bool false)], args := [d] }
  | _ => none }
def HandleWalksWrongFalsely : Prop := handleWalksRow.holds Tryz.pinned (OpenSpec.ofChange handleWalksWrong)

/-- 'crossroadlaw13.HandleTags': WHATEVER THE INPUT: true; the input reads as it did. -/
def handleTagsSpec : ChangeSpec := { name := "handleTags", fn := fun _ => fun
  | [d1, d2, d3] => { results := [.lit (.bool true)], args := [d1, d2, d3] }
  | _ => none }
def handleTagsRow : OpenClaim := { program := "ytndlbkiogagnaaagreatdoor", sum := "d9967b4350c97230652ae6827d6b4e6bdf2fb584e1b8d3c8220c1a83f360e095", func := "crossroad/crossroadlaw13.HandleTags", spec := "handleTags", inPlace := ["internal/abi.NoEscape", "internal/bytealg.MakeNoZero"], unfollowed := true, recurses := true, named := ["crossroad/table.Handlers", "internal/strconv.uint64pow10", "math/bits.deBruijn32tab", "math/bits.deBruijn64tab"], plainKeys := false, apart := false, laid := [("math/bits.deBruijn32tab", laid_math_bits_deBruijn32tab), ("math/bits.deBruijn64tab", laid_math_bits_deBruijn64tab), ("internal/strconv.uint64pow10", laid_internal_strconv_uint64pow10), ("crossroad/table.Handlers", laid_crossroad_table_Handlers)] }
def HandleTagsSaid : Prop := handleTagsRow.holds Tryz.pinned (OpenSpec.ofChange handleTagsSpec)

/-- ITS FALSE NEIGHBOUR: 'it returns false'. Refute it at one input. -/
def handleTagsWrong : ChangeSpec := { name := "handleTags", fn := fun _ => fun
  | [d1, d2, d3] => { results := [.lit (.bool false)], args := [d1, d2, d3] }
  | _ => none }
def HandleTagsWrongFalsely : Prop := handleTagsRow.holds Tryz.pinned (OpenSpec.ofChange handleTagsWrong)

/-- 'crossroadlaw13.HandleLists': WHATEVER THE INPUT: true; the input reads as it did. -/
def handleListsSpec : ChangeSpec := { name := "handleLists", fn := fun _ => fun
  | [d1, d2] => { results := [.lit (.bool true)], args := [d1, d2] }
  | _ => none }
def handleListsRow : OpenClaim := { program := "ytndlbkiogagnaaagreatdoor", sum := "d9967b4350c97230652ae6827d6b4e6bdf2fb584e1b8d3c8220c1a83f360e095", func := "crossroad/crossroadlaw13.HandleLists", spec := "handleLists", inPlace := ["internal/abi.NoEscape", "internal/bytealg.MakeNoZero"], unfollowed := true, recurses := true, named := ["crossroad/table.Handlers", "internal/strconv.uint64pow10", "math/bits.deBruijn32tab", "math/bits.deBruijn64tab"], plainKeys := false, apart := false, laid := [("math/bits.deBruijn32tab", laid_math_bits_deBruijn32tab), ("math/bits.deBruijn64tab", laid_math_bits_deBruijn64tab), ("internal/strconv.uint64pow10", laid_internal_strconv_uint64pow10), ("crossroad/table.Handlers", laid_crossroad_table_Handlers)] }
def HandleListsSaid : Prop := handleListsRow.holds Tryz.pinned (OpenSpec.ofChange handleListsSpec)

/-- ITS FALSE NEIGHBOUR: 'it returns false'. Refute it at one input. -/
def handleListsWrong : ChangeSpec := { name := "handleLists", fn := fun _ => fun
  | [d1, d2] => { results := [.lit (.bool false)], args := [d1, d2] }
  | _ => none }
def HandleListsWrongFalsely : Prop := handleListsRow.holds Tryz.pinned (OpenSpec.ofChange handleListsWrong)

/-- 'crossroadlaw13.HandleAlone': WHATEVER THE INPUT: true; the input reads as it did. -/
def handleAloneSpec : ChangeSpec := { name := "handleAlone", fn := fun _ => fun
  | [d1, d2] => { results := [.lit (.bool true)], args := [d1, d2] }
  | _ => none }
def handleAloneRow : OpenClaim := { program := "ytndlbkiogagnaaagreatdoor", sum := "d9967b4350c97230652ae6827d6b4e6bdf2fb584e1b8d3c8220c1a83f360e095", func := "crossroad/crossroadlaw13.HandleAlone", spec := "handleAlone", inPlace := ["internal/abi.NoEscape", "internal/bytealg.MakeNoZero"], unfollowed := true, recurses := true, named := ["crossroad/table.Handlers", "internal/strconv.uint64pow10", "math/bits.deBruijn32tab", "math/bits.deBruijn64tab", "crossroad/crossroadlaw04.bodies", "crossroad/crossroadlaw04.methods", "crossroad/crossroadlaw04.targets"], plainKeys := false, apart := false, laid := [("math/bits.deBruijn32tab", laid_math_bits_deBruijn32tab), ("math/bits.deBruijn64tab", laid_math_bits_deBruijn64tab), ("internal/strconv.uint64pow10", laid_internal_strconv_uint64pow10), ("crossroad/crossroadlaw04.methods", laid_crossroad_crossroadlaw04_methods), ("crossroad/crossroadlaw04.targets", laid_crossroad_crossroadlaw04_targets), ("crossroad/crossroadlaw04.bodies", laid_crossroad_crossroadlaw04_bodies), ("crossroad/table.Handlers", laid_crossroad_table_Handlers)] }
def HandleAloneSaid : Prop := handleAloneRow.holds Tryz.pinned (OpenSpec.ofChange handleAloneSpec)

/-- ITS FALSE NEIGHBOUR: 'it returns false'. Refute it at one input. -/
def handleAloneWrong : ChangeSpec := { name := "handleAlone", fn := fun _ => fun
  | [d1, d2] => { results := [.lit (.bool false)], args := [d1, d2] }
  | _ => none }
def HandleAloneWrongFalsely : Prop := handleAloneRow.holds Tryz.pinned (OpenSpec.ofChange handleAloneWrong)

/- THE SECOND FORM. 'bulk': how many values and letters a reading holds, each counted each time it is reached (what is shared counts as often as it is met; a slice's spare places count too). A statement '..UptoSaid' is the law's where the arguments, and the package variables that the reading takes, are together of bulk at most 1048576: NARROWER than '..Said'. Prove '..Said' where nothing that the law and all that it calls make is longer than what came in: it says more and counts as full. Else prove '..UptoSaid'. A law counts once. -/
mutual
def uptoBulk {H : Type} : DataW H → Nat
  | .lit (.string bytes) => bytes.length + 1
  | .lit _ => 1
  | .nil => 1
  | .ptr d => uptoBulk d + 1
  | .slice elems spare => uptoBulkAll elems + uptoBulkAll spare + 1
  | .agg parts => uptoBulkAll parts + 1
  | .iface _ d => uptoBulk d + 1
  | .map entries => uptoBulkEntries entries + 1
  | .held _ => 1
def uptoBulkAll {H : Type} : List (DataW H) → Nat
  | [] => 0
  | d :: r => uptoBulk d + uptoBulkAll r
def uptoBulkEntries {H : Type} : List (Lit × DataW H) → Nat
  | [] => 0
  | x :: r => uptoBulkEntry x + uptoBulkEntries r
def uptoBulkEntry {H : Type} : Lit × DataW H → Nat
  | (.string bytes, d) => bytes.length + uptoBulk d + 1
  | (_, d) => uptoBulk d + 1
 end
def uptoSmall : (H : Type) → List (DataW H) → Bool := fun _ ds => decide (uptoBulkAll ds ≤ 1048576)
def OpenSpec.upto (s : _root_.Go.ChangeSpec) : _root_.Go.OpenSpec := { _root_.Go.OpenSpec.ofChange s with cond := some uptoSmall }

/-- 'crossroadlaw13.HandleReloads', WHERE WHAT IT READS IS OF BULK AT MOST 1048576: true; the input reads as it did. -/
def handleReloadsUptoRow : OpenClaim := { program := "ytndlbkiogagnaaagreatdoor", sum := "d9967b4350c97230652ae6827d6b4e6bdf2fb584e1b8d3c8220c1a83f360e095", func := "crossroad/crossroadlaw13.HandleReloads", spec := "handleReloads", inPlace := ["internal/abi.NoEscape", "internal/bytealg.MakeNoZero"], unfollowed := true, recurses := true, named := ["crossroad/table.Handlers", "internal/strconv.uint64pow10", "math/bits.deBruijn32tab", "math/bits.deBruijn64tab"], plainKeys := false, apart := false, laid := [("math/bits.deBruijn32tab", laid_math_bits_deBruijn32tab), ("math/bits.deBruijn64tab", laid_math_bits_deBruijn64tab), ("internal/strconv.uint64pow10", laid_internal_strconv_uint64pow10), ("crossroad/table.Handlers", laid_crossroad_table_Handlers)], narrowed := true }
def HandleReloadsUptoSaid : Prop := handleReloadsUptoRow.holds Tryz.pinned (OpenSpec.upto handleReloadsSpec)

/-- 'crossroadlaw13.HandleWalks', WHERE WHAT IT READS IS OF BULK AT MOST 1048576: true; the input reads as it did. -/
def handleWalksUptoRow : OpenClaim := { program := "ytndlbkiogagnaaagreatdoor", sum := "d9967b4350c97230652ae6827d6b4e6bdf2fb584e1b8d3c8220c1a83f360e095", func := "crossroad/crossroadlaw13.HandleWalks", spec := "handleWalks", inPlace := ["internal/abi.NoEscape", "internal/bytealg.MakeNoZero"], unfollowed := true, recurses := true, named := ["crossroad/table.Handlers", "internal/strconv.uint64pow10", "math/bits.deBruijn32tab", "math/bits.deBruijn64tab"], plainKeys := false, apart := false, laid := [("math/bits.deBruijn32tab", laid_math_bits_deBruijn32tab), ("math/bits.deBruijn64tab", laid_math_bits_deBruijn64tab), ("internal/strconv.uint64pow10", laid_internal_strconv_uint64pow10), ("crossroad/table.Handlers", laid_crossroad_table_Handlers)], narrowed := true }
def HandleWalksUptoSaid : Prop := handleWalksUptoRow.holds Tryz.pinned (OpenSpec.upto handleWalksSpec)

/-- 'crossroadlaw13.HandleTags', WHERE WHAT IT READS IS OF BULK AT MOST 1048576: true; the input reads as it did. -/
def handleTagsUptoRow : OpenClaim := { program := "ytndlbkiogagnaaagreatdoor", sum := "d9967b4350c97230652ae6827d6b4e6bdf2fb584e1b8d3c8220c1a83f360e095", func := "crossroad/crossroadlaw13.HandleTags", spec := "handleTags", inPlace := ["internal/abi.NoEscape", "internal/bytealg.MakeNoZero"], unfollowed := true, recurses := true, named := ["crossroad/table.Handlers", "internal/strconv.uint64pow10", "math/bits.deBruijn32tab", "math/bits.deBruijn64tab"], plainKeys := false, apart := false, laid := [("math/bits.deBruijn32tab", laid_math_bits_deBruijn32tab), ("math/bits.deBruijn64tab", laid_math_bits_deBruijn64tab), ("internal/strconv.uint64pow10", laid_internal_strconv_uint64pow10), ("crossroad/table.Handlers", laid_crossroad_table_Handlers)], narrowed := true }
def HandleTagsUptoSaid : Prop := handleTagsUptoRow.holds Tryz.pinned (OpenSpec.upto handleTagsSpec)

/-- 'crossroadlaw13.HandleLists', WHERE WHAT IT READS IS OF BULK AT MOST 1048576: true; the input reads as it did. -/
def handleListsUptoRow : OpenClaim := { program := "ytndlbkiogagnaaagreatdoor", sum := "d9967b4350c97230652ae6827d6b4e6bdf2fb584e1b8d3c8220c1a83f360e095", func := "crossroad/crossroadlaw13.HandleLists", spec := "handleLists", inPlace := ["internal/abi.NoEscape", "internal/bytealg.MakeNoZero"], unfollowed := true, recurses := true, named := ["crossroad/table.Handlers", "internal/strconv.uint64pow10", "math/bits.deBruijn32tab", "math/bits.deBruijn64tab"], plainKeys := false, apart := false, laid := [("math/bits.deBruijn32tab", laid_math_bits_deBruijn32tab), ("math/bits.deBruijn64tab", laid_math_bits_deBruijn64tab), ("internal/strconv.uint64pow10", laid_internal_strconv_uint64pow10), ("crossroad/table.Handlers", laid_crossroad_table_Handlers)], narrowed := true }
def HandleListsUptoSaid : Prop := handleListsUptoRow.holds Tryz.pinned (OpenSpec.upto handleListsSpec)

/-- 'crossroadlaw13.HandleAlone', WHERE WHAT IT READS IS OF BULK AT MOST 1048576: true; the input reads as it did. -/
def handleAloneUptoRow : OpenClaim := { program := "ytndlbkiogagnaaagreatdoor", sum := "d9967b4350c97230652ae6827d6b4e6bdf2fb584e1b8d3c8220c1a83f360e095", func := "crossroad/crossroadlaw13.HandleAlone", spec := "handleAlone", inPlace := ["internal/abi.NoEscape", "internal/bytealg.MakeNoZero"], unfollowed := true, recurses := true, named := ["crossroad/table.Handlers", "internal/strconv.uint64pow10", "math/bits.deBruijn32tab", "math/bits.deBruijn64tab", "crossroad/crossroadlaw04.bodies", "crossroad/crossroadlaw04.methods", "crossroad/crossroadlaw04.targets"], plainKeys := false, apart := false, laid := [("math/bits.deBruijn32tab", laid_math_bits_deBruijn32tab), ("math/bits.deBruijn64tab", laid_math_bits_deBruijn64tab), ("internal/strconv.uint64pow10", laid_internal_strconv_uint64pow10), ("crossroad/crossroadlaw04.methods", laid_crossroad_crossroadlaw04_methods), ("crossroad/crossroadlaw04.targets", laid_crossroad_crossroadlaw04_targets), ("crossroad/crossroadlaw04.bodies", laid_crossroad_crossroadlaw04_bodies), ("crossroad/table.Handlers", laid_crossroad_table_Handlers)], narrowed := true }
def HandleAloneUptoSaid : Prop := handleAloneUptoRow.holds Tryz.pinned (OpenSpec.upto handleAloneSpec)

end Rows
end Go.Proofs.YtndlbkiogagnaaaGreatDoor
