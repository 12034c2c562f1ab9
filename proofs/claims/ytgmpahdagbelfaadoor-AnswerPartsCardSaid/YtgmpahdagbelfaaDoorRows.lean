/-
  NARROWER THAN 'FOR EVERY INPUT', by the rows' own cells (each row's printed sentence says how): AnswerWords: laid · AnswerParts: laid · AnswerPlain: laid · AnswerBack: laid · AnswerMany: laid · AnswerCuts: laid.
  DERIVED. THE GIVEN ROWS OF THIS SEAT. 6 by the template 'for every input the law returns true; each argument reads behind the call as it read before'; 0 by the template 'total and deterministic' (their statements: YtgmpahdagbelfaaDoorTotals.lean).
  GIVEN WITH THE SEED: the statements are not yours to turn. If you find one false, say at which input.
  Laid BY PROGRAM, IN A SANDBOX (cutbox-rows.mjs): the forced cells as the released guide's own fill.sh prints them over the translation 157d6a3ae749d0b6… (all of the seat's roots in one cut). By AI agents, Wed Nov 11 2026. No macro, syntax, notation, axiom, sorry.
-/
import Derived.Test.YtgmpahdagbelfaaDoorChecked
import GoSem.Claim
import GoSem.ClaimJoined
import GoSem.ClaimMapViews
import Derived.JoinedTies
import Derived.KernelRfl
namespace Go.Proofs.YtgmpahdagbelfaaDoor
/- THE CELL 'sum', in the pinned program and in every row, IS THE sha256 OF THE DUMP (.gsa) THAT YtgmpahdagbelfaaDoorProg.lean LOADS. Nothing in Lean hashes anything: it is a label: what it is worth is what the hold of that sum in a sandbox is worth. -/
noncomputable def Tryd.pinned : Pinned := { name := "ytgmpahdagbelfaadoor", sum := "157d6a3ae749d0b6422a96652120b56ec8d9d9f66dcecf3ee57798b2629c0a33", checked := Tryd.checked }
namespace Rows
def none {H : Type} : Left H := { results := [], args := [] }

/- WHAT THE LISTED PACKAGE-LEVEL VARIABLES READ AS WHEN THE CALL BEGINS. Each datum BY PROGRAM (the guide's laid-datum.mjs) off the statement by which the dump's own 'gosem.cut.vars' lays the variable. In a bare row this is a premise. The card (YtgmpahdagbelfaaDoorCards.lean) ties it to the program's text. -/
def laid_math_bits_deBruijn32tab {H : Type} : DataW H := .agg [.lit (.int .u8 0), .lit (.int .u8 1), .lit (.int .u8 28), .lit (.int .u8 2), .lit (.int .u8 29), .lit (.int .u8 14), .lit (.int .u8 24), .lit (.int .u8 3), .lit (.int .u8 30), .lit (.int .u8 22), .lit (.int .u8 20), .lit (.int .u8 15), .lit (.int .u8 25), .lit (.int .u8 17), .lit (.int .u8 4), .lit (.int .u8 8), .lit (.int .u8 31), .lit (.int .u8 27), .lit (.int .u8 13), .lit (.int .u8 23), .lit (.int .u8 21), .lit (.int .u8 19), .lit (.int .u8 16), .lit (.int .u8 7), .lit (.int .u8 26), .lit (.int .u8 12), .lit (.int .u8 18), .lit (.int .u8 6), .lit (.int .u8 11), .lit (.int .u8 5), .lit (.int .u8 10), .lit (.int .u8 9)]
def laid_math_bits_deBruijn64tab {H : Type} : DataW H := .agg [.lit (.int .u8 0), .lit (.int .u8 1), .lit (.int .u8 56), .lit (.int .u8 2), .lit (.int .u8 57), .lit (.int .u8 49), .lit (.int .u8 28), .lit (.int .u8 3), .lit (.int .u8 61), .lit (.int .u8 58), .lit (.int .u8 42), .lit (.int .u8 50), .lit (.int .u8 38), .lit (.int .u8 29), .lit (.int .u8 17), .lit (.int .u8 4), .lit (.int .u8 62), .lit (.int .u8 47), .lit (.int .u8 59), .lit (.int .u8 36), .lit (.int .u8 45), .lit (.int .u8 43), .lit (.int .u8 51), .lit (.int .u8 22), .lit (.int .u8 53), .lit (.int .u8 39), .lit (.int .u8 33), .lit (.int .u8 30), .lit (.int .u8 24), .lit (.int .u8 18), .lit (.int .u8 12), .lit (.int .u8 5), .lit (.int .u8 63), .lit (.int .u8 55), .lit (.int .u8 48), .lit (.int .u8 27), .lit (.int .u8 60), .lit (.int .u8 41), .lit (.int .u8 37), .lit (.int .u8 16), .lit (.int .u8 46), .lit (.int .u8 35), .lit (.int .u8 44), .lit (.int .u8 21), .lit (.int .u8 52), .lit (.int .u8 32), .lit (.int .u8 23), .lit (.int .u8 11), .lit (.int .u8 54), .lit (.int .u8 26), .lit (.int .u8 40), .lit (.int .u8 15), .lit (.int .u8 34), .lit (.int .u8 20), .lit (.int .u8 31), .lit (.int .u8 10), .lit (.int .u8 25), .lit (.int .u8 14), .lit (.int .u8 19), .lit (.int .u8 9), .lit (.int .u8 13), .lit (.int .u8 8), .lit (.int .u8 7), .lit (.int .u8 6)]
def laid_internal_strconv_uint64pow10 {H : Type} : DataW H := .agg [.lit (.int .u64 1), .lit (.int .u64 10), .lit (.int .u64 100), .lit (.int .u64 1000), .lit (.int .u64 10000), .lit (.int .u64 100000), .lit (.int .u64 1000000), .lit (.int .u64 10000000), .lit (.int .u64 100000000), .lit (.int .u64 1000000000), .lit (.int .u64 10000000000), .lit (.int .u64 100000000000), .lit (.int .u64 1000000000000), .lit (.int .u64 10000000000000), .lit (.int .u64 100000000000000), .lit (.int .u64 1000000000000000), .lit (.int .u64 10000000000000000), .lit (.int .u64 100000000000000000), .lit (.int .u64 1000000000000000000), .lit (.int .u64 10000000000000000000)]

/-- 'crossroadlaw05.AnswerWords': WHATEVER THE INPUT: true; the input reads as it did. -/
def answerWordsSpec : ChangeSpec := { name := "answerWords", fn := fun _ => fun
  | [d] => { results := [.lit (.bool true)], args := [d] }
  | _ => none }
def answerWordsRow : OpenClaim := { program := "ytgmpahdagbelfaadoor", sum := "157d6a3ae749d0b6422a96652120b56ec8d9d9f66dcecf3ee57798b2629c0a33", func := "crossroad/crossroadlaw05.AnswerWords", spec := "answerWords", named := ["internal/strconv.uint64pow10", "math/bits.deBruijn32tab", "math/bits.deBruijn64tab"], apart := false, laid := [("math/bits.deBruijn32tab", laid_math_bits_deBruijn32tab), ("math/bits.deBruijn64tab", laid_math_bits_deBruijn64tab), ("internal/strconv.uint64pow10", laid_internal_strconv_uint64pow10)] }
def AnswerWordsSaid : Prop := answerWordsRow.holds Tryd.pinned (OpenSpec.ofChange answerWordsSpec)

/-- ITS FALSE NEIGHBOUR: 'it returns false'. Refute it at one input. -/
def answerWordsWrong : ChangeSpec := { name := "answerWords", fn := fun _ => fun
  | [d] => { results := [.lit (.bool false)], args := [d] }
  | _ => none }
def AnswerWordsWrongFalsely : Prop := answerWordsRow.holds Tryd.pinned (OpenSpec.ofChange answerWordsWrong)

/-- 'crossroadlaw05.AnswerParts': WHATEVER THE INPUT: true; the input reads as it did. -/
def answerPartsSpec : ChangeSpec := { name := "answerParts", fn := fun _ => fun
  | [d] => { results := [.lit (.bool true)], args := [d] }
  | _ => none }
def answerPartsRow : OpenClaim := { program := "ytgmpahdagbelfaadoor", sum := "157d6a3ae749d0b6422a96652120b56ec8d9d9f66dcecf3ee57798b2629c0a33", func := "crossroad/crossroadlaw05.AnswerParts", spec := "answerParts", named := ["internal/strconv.uint64pow10", "math/bits.deBruijn32tab", "math/bits.deBruijn64tab"], apart := false, laid := [("math/bits.deBruijn32tab", laid_math_bits_deBruijn32tab), ("math/bits.deBruijn64tab", laid_math_bits_deBruijn64tab), ("internal/strconv.uint64pow10", laid_internal_strconv_uint64pow10)] }
def AnswerPartsSaid : Prop := answerPartsRow.holds Tryd.pinned (OpenSpec.ofChange answerPartsSpec)

/-- ITS FALSE NEIGHBOUR: 'it returns false'. Refute it at one input. -/
def answerPartsWrong : ChangeSpec := { name := "answerParts", fn := fun _ => fun
  | [d] => { results := [.lit (.bool false)], args := [d] }
  | _ => none }
def AnswerPartsWrongFalsely : Prop := answerPartsRow.holds Tryd.pinned (OpenSpec.ofChange answerPartsWrong)

/-- 'crossroadlaw05.AnswerPlain': WHATEVER THE INPUT: true; the input reads as it did. -/
def answerPlainSpec : ChangeSpec := { name := "answerPlain", fn := fun _ => fun
  | [d1, d2, d3] => { results := [.lit (.bool true)], args := [d1, d2, d3] }
  | _ => none }
def answerPlainRow : OpenClaim := { program := "ytgmpahdagbelfaadoor", sum := "157d6a3ae749d0b6422a96652120b56ec8d9d9f66dcecf3ee57798b2629c0a33", func := "crossroad/crossroadlaw05.AnswerPlain", spec := "answerPlain", named := ["internal/strconv.uint64pow10", "math/bits.deBruijn32tab", "math/bits.deBruijn64tab"], apart := false, laid := [("math/bits.deBruijn32tab", laid_math_bits_deBruijn32tab), ("math/bits.deBruijn64tab", laid_math_bits_deBruijn64tab), ("internal/strconv.uint64pow10", laid_internal_strconv_uint64pow10)] }
def AnswerPlainSaid : Prop := answerPlainRow.holds Tryd.pinned (OpenSpec.ofChange answerPlainSpec)

/-- ITS FALSE NEIGHBOUR: 'it returns false'. Refute it at one input. -/
def answerPlainWrong : ChangeSpec := { name := "answerPlain", fn := fun _ => fun
  | [d1, d2, d3] => { results := [.lit (.bool false)], args := [d1, d2, d3] }
  | _ => none }
def AnswerPlainWrongFalsely : Prop := answerPlainRow.holds Tryd.pinned (OpenSpec.ofChange answerPlainWrong)

/-- 'crossroadlaw05.AnswerBack': WHATEVER THE INPUT: true; the input reads as it did. -/
def answerBackSpec : ChangeSpec := { name := "answerBack", fn := fun _ => fun
  | [d1, d2, d3] => { results := [.lit (.bool true)], args := [d1, d2, d3] }
  | _ => none }
def answerBackRow : OpenClaim := { program := "ytgmpahdagbelfaadoor", sum := "157d6a3ae749d0b6422a96652120b56ec8d9d9f66dcecf3ee57798b2629c0a33", func := "crossroad/crossroadlaw05.AnswerBack", spec := "answerBack", named := ["internal/strconv.uint64pow10", "math/bits.deBruijn32tab", "math/bits.deBruijn64tab"], apart := false, laid := [("math/bits.deBruijn32tab", laid_math_bits_deBruijn32tab), ("math/bits.deBruijn64tab", laid_math_bits_deBruijn64tab), ("internal/strconv.uint64pow10", laid_internal_strconv_uint64pow10)] }
def AnswerBackSaid : Prop := answerBackRow.holds Tryd.pinned (OpenSpec.ofChange answerBackSpec)

/-- ITS FALSE NEIGHBOUR: 'it returns false'. Refute it at one input. -/
def answerBackWrong : ChangeSpec := { name := "answerBack", fn := fun _ => fun
  | [d1, d2, d3] => { results := [.lit (.bool false)], args := [d1, d2, d3] }
  | _ => none }
def AnswerBackWrongFalsely : Prop := answerBackRow.holds Tryd.pinned (OpenSpec.ofChange answerBackWrong)

/-- 'crossroadlaw05.AnswerMany': WHATEVER THE INPUT: true; the input reads as it did. -/
def answerManySpec : ChangeSpec := { name := "answerMany", fn := fun _ => fun
  | [d] => { results := [.lit (.bool true)], args := [d] }
  | _ => none }
def answerManyRow : OpenClaim := { program := "ytgmpahdagbelfaadoor", sum := "157d6a3ae749d0b6422a96652120b56ec8d9d9f66dcecf3ee57798b2629c0a33", func := "crossroad/crossroadlaw05.AnswerMany", spec := "answerMany", named := ["internal/strconv.uint64pow10", "math/bits.deBruijn32tab", "math/bits.deBruijn64tab"], apart := false, laid := [("math/bits.deBruijn32tab", laid_math_bits_deBruijn32tab), ("math/bits.deBruijn64tab", laid_math_bits_deBruijn64tab), ("internal/strconv.uint64pow10", laid_internal_strconv_uint64pow10)] }
def AnswerManySaid : Prop := answerManyRow.holds Tryd.pinned (OpenSpec.ofChange answerManySpec)

/-- ITS FALSE NEIGHBOUR: 'it returns false'. Refute it at one input. -/
def answerManyWrong : ChangeSpec := { name := "answerMany", fn := fun _ => fun
  | [d] => { results := [.lit (.bool false)], args := [d] }
  | _ => none }
def AnswerManyWrongFalsely : Prop := answerManyRow.holds Tryd.pinned (OpenSpec.ofChange answerManyWrong)

/-- 'crossroadlaw05.AnswerCuts': WHATEVER THE INPUT: true; the input reads as it did. -/
def answerCutsSpec : ChangeSpec := { name := "answerCuts", fn := fun _ => fun
  | [d1, d2] => { results := [.lit (.bool true)], args := [d1, d2] }
  | _ => none }
def answerCutsRow : OpenClaim := { program := "ytgmpahdagbelfaadoor", sum := "157d6a3ae749d0b6422a96652120b56ec8d9d9f66dcecf3ee57798b2629c0a33", func := "crossroad/crossroadlaw05.AnswerCuts", spec := "answerCuts", named := ["internal/strconv.uint64pow10", "math/bits.deBruijn32tab", "math/bits.deBruijn64tab"], apart := false, laid := [("math/bits.deBruijn32tab", laid_math_bits_deBruijn32tab), ("math/bits.deBruijn64tab", laid_math_bits_deBruijn64tab), ("internal/strconv.uint64pow10", laid_internal_strconv_uint64pow10)] }
def AnswerCutsSaid : Prop := answerCutsRow.holds Tryd.pinned (OpenSpec.ofChange answerCutsSpec)

/-- ITS FALSE NEIGHBOUR: 'it returns false'. Refute it at one input. -/
def answerCutsWrong : ChangeSpec := { name := "answerCuts", fn := fun _ => fun
  | [d1, d2] => { results := [.lit (.bool false)], args := [d1, d2] }
  | _ => none }
def AnswerCutsWrongFalsely : Prop := answerCutsRow.holds Tryd.pinned (OpenSpec.ofChange answerCutsWrong)

/- THE SECOND FORM. 'bulk': how many values and letters a reading holds, each counted each time it is reached (what is shared counts as often as it is met; a slice's spare places count too). A statement '..UptoSaid' is the law's where the arguments, and the package variables that the reading takes, are together of bulk at most 1048576: NARROWER than '..Said'. Prove '..Said' where nothing that the law and all that it calls make is longer than what came in: it says more and counts as full. Else prove '..UptoSaid'. A law counts once. -/
mutual
def uptoBulk {H : Type} : DataW H → Nat
  | .lit (.string bytes) => bytes.length + 1
  | .lit _ => 1
  | .nil => 1
  | .ptr d => uptoBulk d + 1
  | .slice elems spare => uptoBulkAll elems + uptoBulkAll spare + 1
  | .agg parts => uptoBulkAll parts + 1
  | .iface _ d => uptoBulk d + 1
  | .map entries => uptoBulkEntries entries + 1
  | .held _ => 1
def uptoBulkAll {H : Type} : List (DataW H) → Nat
  | [] => 0
  | d :: r => uptoBulk d + uptoBulkAll r
def uptoBulkEntries {H : Type} : List (Lit × DataW H) → Nat
  | [] => 0
  | x :: r => uptoBulkEntry x + uptoBulkEntries r
def uptoBulkEntry {H : Type} : Lit × DataW H → Nat
  | (.string bytes, d) => bytes.length + uptoBulk d + 1
  | (_, d) => uptoBulk d + 1
 end
def uptoSmall : (H : Type) → List (DataW H) → Bool := fun _ ds => decide (uptoBulkAll ds ≤ 1048576)
def OpenSpec.upto (s : _root_.Go.ChangeSpec) : _root_.Go.OpenSpec := { _root_.Go.OpenSpec.ofChange s with cond := some uptoSmall }

/-- 'crossroadlaw05.AnswerWords', WHERE WHAT IT READS IS OF BULK AT MOST 1048576: true; the input reads as it did. -/
def answerWordsUptoRow : OpenClaim := { program := "ytgmpahdagbelfaadoor", sum := "157d6a3ae749d0b6422a96652120b56ec8d9d9f66dcecf3ee57798b2629c0a33", func := "crossroad/crossroadlaw05.AnswerWords", spec := "answerWords", named := ["internal/strconv.uint64pow10", "math/bits.deBruijn32tab", "math/bits.deBruijn64tab"], apart := false, laid := [("math/bits.deBruijn32tab", laid_math_bits_deBruijn32tab), ("math/bits.deBruijn64tab", laid_math_bits_deBruijn64tab), ("internal/strconv.uint64pow10", laid_internal_strconv_uint64pow10)], narrowed := true }
def AnswerWordsUptoSaid : Prop := answerWordsUptoRow.holds Tryd.pinned (OpenSpec.upto answerWordsSpec)

/-- 'crossroadlaw05.AnswerParts', WHERE WHAT IT READS IS OF BULK AT MOST 1048576: true; the input reads as it did. -/
def answerPartsUptoRow : OpenClaim := { program := "ytgmpahdagbelfaadoor", sum := "157d6a3ae749d0b6422a96652120b56ec8d9d9f66dcecf3ee57798b2629c0a33", func := "crossroad/crossroadlaw05.AnswerParts", spec := "answerParts", named := ["internal/strconv.uint64pow10", "math/bits.deBruijn32tab", "math/bits.deBruijn64tab"], apart := false, laid := [("math/bits.deBruijn32tab", laid_math_bits_deBruijn32tab), ("math/bits.deBruijn64tab", laid_math_bits_deBruijn64tab), ("internal/strconv.uint64pow10", laid_internal_strconv_uint64pow10)], narrowed := true }
def AnswerPartsUptoSaid : Prop := answerPartsUptoRow.holds Tryd.pinned (OpenSpec.upto answerPartsSpec)

/-- 'crossroadlaw05.AnswerPlain', WHERE WHAT IT READS IS OF BULK AT MOST 1048576: true; the input reads as it did. -/
def answerPlainUptoRow : OpenClaim := { program := "ytgmpahdagbelfaadoor", sum := "157d6a3ae749d0b6422a96652120b56ec8d9d9f66dcecf3ee57798b2629c0a33", func := "crossroad/crossroadlaw05.AnswerPlain", spec := "answerPlain", named := ["internal/strconv.uint64pow10", "math/bits.deBruijn32tab", "math/bits.deBruijn64tab"], apart := false, laid := [("math/bits.deBruijn32tab", laid_math_bits_deBruijn32tab), ("math/bits.deBruijn64tab", laid_math_bits_deBruijn64tab), ("internal/strconv.uint64pow10", laid_internal_strconv_uint64pow10)], narrowed := true }
def AnswerPlainUptoSaid : Prop := answerPlainUptoRow.holds Tryd.pinned (OpenSpec.upto answerPlainSpec)

/-- 'crossroadlaw05.AnswerBack', WHERE WHAT IT READS IS OF BULK AT MOST 1048576: true; the input reads as it did. -/
def answerBackUptoRow : OpenClaim := { program := "ytgmpahdagbelfaadoor", sum := "157d6a3ae749d0b6422a96652120b56ec8d9d9f66dcecf3ee57798b2629c0a33", func := "crossroad/crossroadlaw05.AnswerBack", spec := "answerBack", named := ["internal/strconv.uint64pow10", "math/bits.deBruijn32tab", "math/bits.deBruijn64tab"], apart := false, laid := [("math/bits.deBruijn32tab", laid_math_bits_deBruijn32tab), ("math/bits.deBruijn64tab", laid_math_bits_deBruijn64tab), ("internal/strconv.uint64pow10", laid_internal_strconv_uint64pow10)], narrowed := true }
def AnswerBackUptoSaid : Prop := answerBackUptoRow.holds Tryd.pinned (OpenSpec.upto answerBackSpec)

/-- 'crossroadlaw05.AnswerMany', WHERE WHAT IT READS IS OF BULK AT MOST 1048576: true; the input reads as it did. -/
def answerManyUptoRow : OpenClaim := { program := "ytgmpahdagbelfaadoor", sum := "157d6a3ae749d0b6422a96652120b56ec8d9d9f66dcecf3ee57798b2629c0a33", func := "crossroad/crossroadlaw05.AnswerMany", spec := "answerMany", named := ["internal/strconv.uint64pow10", "math/bits.deBruijn32tab", "math/bits.deBruijn64tab"], apart := false, laid := [("math/bits.deBruijn32tab", laid_math_bits_deBruijn32tab), ("math/bits.deBruijn64tab", laid_math_bits_deBruijn64tab), ("internal/strconv.uint64pow10", laid_internal_strconv_uint64pow10)], narrowed := true }
def AnswerManyUptoSaid : Prop := answerManyUptoRow.holds Tryd.pinned (OpenSpec.upto answerManySpec)

/-- 'crossroadlaw05.AnswerCuts', WHERE WHAT IT READS IS OF BULK AT MOST 1048576: true; the input reads as it did. -/
def answerCutsUptoRow : OpenClaim := { program := "ytgmpahdagbelfaadoor", sum := "157d6a3ae749d0b6422a96652120b56ec8d9d9f66dcecf3ee57798b2629c0a33", func := "crossroad/crossroadlaw05.AnswerCuts", spec := "answerCuts", named := ["internal/strconv.uint64pow10", "math/bits.deBruijn32tab", "math/bits.deBruijn64tab"], apart := false, laid := [("math/bits.deBruijn32tab", laid_math_bits_deBruijn32tab), ("math/bits.deBruijn64tab", laid_math_bits_deBruijn64tab), ("internal/strconv.uint64pow10", laid_internal_strconv_uint64pow10)], narrowed := true }
def AnswerCutsUptoSaid : Prop := answerCutsUptoRow.holds Tryd.pinned (OpenSpec.upto answerCutsSpec)

end Rows
end Go.Proofs.YtgmpahdagbelfaaDoor
