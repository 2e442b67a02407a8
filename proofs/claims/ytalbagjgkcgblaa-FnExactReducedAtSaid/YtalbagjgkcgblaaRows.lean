/-
  No cell of these rows narrows 'for every input' (looked for: loops, veiled, ifaces, maps, wideKeys, modest, calm, conditions, laid).
  DERIVED. THE GIVEN ROWS OF THIS SEAT. 12 by the template 'for every input the law returns true; each argument reads behind the call as it read before'; 0 by the template 'total and deterministic' (their statements: YtalbagjgkcgblaaTotals.lean).
  GIVEN WITH THE SEED: the statements are not yours to turn. If you find one false, say at which input.
  Laid BY PROGRAM, IN A SANDBOX (cutbox-rows.mjs): the forced cells as the released guide's own fill.sh prints them over the translation 9555a19f0ccc047a… (all of the seat's roots in one cut). By AI agents, Wed Nov 11 2026. No macro, syntax, notation, axiom, sorry.
-/
import Derived.Test.YtalbagjgkcgblaaChecked
import GoSem.Claim
import GoSem.ClaimJoined
import GoSem.ClaimMapViews
import Derived.JoinedTies
import Derived.KernelRfl
namespace Go.Proofs.Ytalbagjgkcgblaa
/- THE CELL 'sum', in the pinned program and in every row, IS THE sha256 OF THE DUMP (.gsa) THAT YtalbagjgkcgblaaProg.lean LOADS. Nothing in Lean hashes anything: it is a label: what it is worth is what the hold of that sum in a sandbox is worth. -/
noncomputable def Try.pinned : Pinned := { name := "ytalbagjgkcgblaa", sum := "9555a19f0ccc047a786d395f39f0e0bb2f05703d4ef39714fe4d9a9b02ca6984", checked := Try.checked }
namespace Rows
def none {H : Type} : Left H := { results := [], args := [] }

/-- 'laws.FnExactValidWord': WHATEVER THE INPUT: true; the input reads as it did. -/
def fnExactValidWordSpec : ChangeSpec := { name := "fnExactValidWord", fn := fun _ => fun
  | [d] => { results := [.lit (.bool true)], args := [d] }
  | _ => none }
def fnExactValidWordRow : OpenClaim := { program := "ytalbagjgkcgblaa", sum := "9555a19f0ccc047a786d395f39f0e0bb2f05703d4ef39714fe4d9a9b02ca6984", func := "loop.example/g01171/laws.FnExactValidWord", spec := "fnExactValidWord", apart := false }
def FnExactValidWordSaid : Prop := fnExactValidWordRow.holds Try.pinned (OpenSpec.ofChange fnExactValidWordSpec)

/-- ITS FALSE NEIGHBOUR: 'it returns false'. Refute it at one input. -/
def fnExactValidWordWrong : ChangeSpec := { name := "fnExactValidWord", fn := fun _ => fun
  | [d] => { results := [.lit (.bool false)], args := [d] }
  | _ => none }
def FnExactValidWordWrongFalsely : Prop := fnExactValidWordRow.holds Try.pinned (OpenSpec.ofChange fnExactValidWordWrong)

/-- 'laws.FnExactCountReduced': WHATEVER THE INPUT: true; the input reads as it did. -/
def fnExactCountReducedSpec : ChangeSpec := { name := "fnExactCountReduced", fn := fun _ => fun
  | [d1, d2] => { results := [.lit (.bool true)], args := [d1, d2] }
  | _ => none }
def fnExactCountReducedRow : OpenClaim := { program := "ytalbagjgkcgblaa", sum := "9555a19f0ccc047a786d395f39f0e0bb2f05703d4ef39714fe4d9a9b02ca6984", func := "loop.example/g01171/laws.FnExactCountReduced", spec := "fnExactCountReduced", apart := false }
def FnExactCountReducedSaid : Prop := fnExactCountReducedRow.holds Try.pinned (OpenSpec.ofChange fnExactCountReducedSpec)

/-- ITS FALSE NEIGHBOUR: 'it returns false'. Refute it at one input. -/
def fnExactCountReducedWrong : ChangeSpec := { name := "fnExactCountReduced", fn := fun _ => fun
  | [d1, d2] => { results := [.lit (.bool false)], args := [d1, d2] }
  | _ => none }
def FnExactCountReducedWrongFalsely : Prop := fnExactCountReducedRow.holds Try.pinned (OpenSpec.ofChange fnExactCountReducedWrong)

/-- 'laws.FnExactCommonStart': WHATEVER THE INPUT: true; the input reads as it did. -/
def fnExactCommonStartSpec : ChangeSpec := { name := "fnExactCommonStart", fn := fun _ => fun
  | [d1, d2] => { results := [.lit (.bool true)], args := [d1, d2] }
  | _ => none }
def fnExactCommonStartRow : OpenClaim := { program := "ytalbagjgkcgblaa", sum := "9555a19f0ccc047a786d395f39f0e0bb2f05703d4ef39714fe4d9a9b02ca6984", func := "loop.example/g01171/laws.FnExactCommonStart", spec := "fnExactCommonStart", apart := false }
def FnExactCommonStartSaid : Prop := fnExactCommonStartRow.holds Try.pinned (OpenSpec.ofChange fnExactCommonStartSpec)

/-- ITS FALSE NEIGHBOUR: 'it returns false'. Refute it at one input. -/
def fnExactCommonStartWrong : ChangeSpec := { name := "fnExactCommonStart", fn := fun _ => fun
  | [d1, d2] => { results := [.lit (.bool false)], args := [d1, d2] }
  | _ => none }
def FnExactCommonStartWrongFalsely : Prop := fnExactCommonStartRow.holds Try.pinned (OpenSpec.ofChange fnExactCommonStartWrong)

/-- 'laws.FnExactInverseWord': WHATEVER THE INPUT: true; the input reads as it did. -/
def fnExactInverseWordSpec : ChangeSpec := { name := "fnExactInverseWord", fn := fun _ => fun
  | [d] => { results := [.lit (.bool true)], args := [d] }
  | _ => none }
def fnExactInverseWordRow : OpenClaim := { program := "ytalbagjgkcgblaa", sum := "9555a19f0ccc047a786d395f39f0e0bb2f05703d4ef39714fe4d9a9b02ca6984", func := "loop.example/g01171/laws.FnExactInverseWord", spec := "fnExactInverseWord", apart := false }
def FnExactInverseWordSaid : Prop := fnExactInverseWordRow.holds Try.pinned (OpenSpec.ofChange fnExactInverseWordSpec)

/-- ITS FALSE NEIGHBOUR: 'it returns false'. Refute it at one input. -/
def fnExactInverseWordWrong : ChangeSpec := { name := "fnExactInverseWord", fn := fun _ => fun
  | [d] => { results := [.lit (.bool false)], args := [d] }
  | _ => none }
def FnExactInverseWordWrongFalsely : Prop := fnExactInverseWordRow.holds Try.pinned (OpenSpec.ofChange fnExactInverseWordWrong)

/-- 'laws.FnExactReduceWord': WHATEVER THE INPUT: true; the input reads as it did. -/
def fnExactReduceWordSpec : ChangeSpec := { name := "fnExactReduceWord", fn := fun _ => fun
  | [d] => { results := [.lit (.bool true)], args := [d] }
  | _ => none }
def fnExactReduceWordRow : OpenClaim := { program := "ytalbagjgkcgblaa", sum := "9555a19f0ccc047a786d395f39f0e0bb2f05703d4ef39714fe4d9a9b02ca6984", func := "loop.example/g01171/laws.FnExactReduceWord", spec := "fnExactReduceWord", apart := false }
def FnExactReduceWordSaid : Prop := fnExactReduceWordRow.holds Try.pinned (OpenSpec.ofChange fnExactReduceWordSpec)

/-- ITS FALSE NEIGHBOUR: 'it returns false'. Refute it at one input. -/
def fnExactReduceWordWrong : ChangeSpec := { name := "fnExactReduceWord", fn := fun _ => fun
  | [d] => { results := [.lit (.bool false)], args := [d] }
  | _ => none }
def FnExactReduceWordWrongFalsely : Prop := fnExactReduceWordRow.holds Try.pinned (OpenSpec.ofChange fnExactReduceWordWrong)

/-- 'laws.FnExactIsReduced': WHATEVER THE INPUT: true; the input reads as it did. -/
def fnExactIsReducedSpec : ChangeSpec := { name := "fnExactIsReduced", fn := fun _ => fun
  | [d] => { results := [.lit (.bool true)], args := [d] }
  | _ => none }
def fnExactIsReducedRow : OpenClaim := { program := "ytalbagjgkcgblaa", sum := "9555a19f0ccc047a786d395f39f0e0bb2f05703d4ef39714fe4d9a9b02ca6984", func := "loop.example/g01171/laws.FnExactIsReduced", spec := "fnExactIsReduced", apart := false }
def FnExactIsReducedSaid : Prop := fnExactIsReducedRow.holds Try.pinned (OpenSpec.ofChange fnExactIsReducedSpec)

/-- ITS FALSE NEIGHBOUR: 'it returns false'. Refute it at one input. -/
def fnExactIsReducedWrong : ChangeSpec := { name := "fnExactIsReduced", fn := fun _ => fun
  | [d] => { results := [.lit (.bool false)], args := [d] }
  | _ => none }
def FnExactIsReducedWrongFalsely : Prop := fnExactIsReducedRow.holds Try.pinned (OpenSpec.ofChange fnExactIsReducedWrong)

/-- 'laws.FnExactLetterSums': WHATEVER THE INPUT: true; the input reads as it did. -/
def fnExactLetterSumsSpec : ChangeSpec := { name := "fnExactLetterSums", fn := fun _ => fun
  | [d] => { results := [.lit (.bool true)], args := [d] }
  | _ => none }
def fnExactLetterSumsRow : OpenClaim := { program := "ytalbagjgkcgblaa", sum := "9555a19f0ccc047a786d395f39f0e0bb2f05703d4ef39714fe4d9a9b02ca6984", func := "loop.example/g01171/laws.FnExactLetterSums", spec := "fnExactLetterSums", inPlace := ["internal/bytealg.IndexByteString"], apart := false }
def FnExactLetterSumsSaid : Prop := fnExactLetterSumsRow.holds Try.pinned (OpenSpec.ofChange fnExactLetterSumsSpec)

/-- ITS FALSE NEIGHBOUR: 'it returns false'. Refute it at one input. -/
def fnExactLetterSumsWrong : ChangeSpec := { name := "fnExactLetterSums", fn := fun _ => fun
  | [d] => { results := [.lit (.bool false)], args := [d] }
  | _ => none }
def FnExactLetterSumsWrongFalsely : Prop := fnExactLetterSumsRow.holds Try.pinned (OpenSpec.ofChange fnExactLetterSumsWrong)

/-- 'laws.FnExactCodeOfWord': WHATEVER THE INPUT: true; the input reads as it did. -/
def fnExactCodeOfWordSpec : ChangeSpec := { name := "fnExactCodeOfWord", fn := fun _ => fun
  | [d] => { results := [.lit (.bool true)], args := [d] }
  | _ => none }
def fnExactCodeOfWordRow : OpenClaim := { program := "ytalbagjgkcgblaa", sum := "9555a19f0ccc047a786d395f39f0e0bb2f05703d4ef39714fe4d9a9b02ca6984", func := "loop.example/g01171/laws.FnExactCodeOfWord", spec := "fnExactCodeOfWord", inPlace := ["internal/bytealg.IndexByteString"], apart := false }
def FnExactCodeOfWordSaid : Prop := fnExactCodeOfWordRow.holds Try.pinned (OpenSpec.ofChange fnExactCodeOfWordSpec)

/-- ITS FALSE NEIGHBOUR: 'it returns false'. Refute it at one input. -/
def fnExactCodeOfWordWrong : ChangeSpec := { name := "fnExactCodeOfWord", fn := fun _ => fun
  | [d] => { results := [.lit (.bool false)], args := [d] }
  | _ => none }
def FnExactCodeOfWordWrongFalsely : Prop := fnExactCodeOfWordRow.holds Try.pinned (OpenSpec.ofChange fnExactCodeOfWordWrong)

/-- 'laws.FnExactReducedAt': WHATEVER THE INPUT: true; the input reads as it did. -/
def fnExactReducedAtSpec : ChangeSpec := { name := "fnExactReducedAt", fn := fun _ => fun
  | [d1, d2, d3] => { results := [.lit (.bool true)], args := [d1, d2, d3] }
  | _ => none }
def fnExactReducedAtRow : OpenClaim := { program := "ytalbagjgkcgblaa", sum := "9555a19f0ccc047a786d395f39f0e0bb2f05703d4ef39714fe4d9a9b02ca6984", func := "loop.example/g01171/laws.FnExactReducedAt", spec := "fnExactReducedAt", apart := false }
def FnExactReducedAtSaid : Prop := fnExactReducedAtRow.holds Try.pinned (OpenSpec.ofChange fnExactReducedAtSpec)

/-- ITS FALSE NEIGHBOUR: 'it returns false'. Refute it at one input. -/
def fnExactReducedAtWrong : ChangeSpec := { name := "fnExactReducedAt", fn := fun _ => fun
  | [d1, d2, d3] => { results := [.lit (.bool false)], args := [d1, d2, d3] }
  | _ => none }
def FnExactReducedAtWrongFalsely : Prop := fnExactReducedAtRow.holds Try.pinned (OpenSpec.ofChange fnExactReducedAtWrong)

/-- 'laws.FnExactJoinReduced': WHATEVER THE INPUT: true; the input reads as it did. -/
def fnExactJoinReducedSpec : ChangeSpec := { name := "fnExactJoinReduced", fn := fun _ => fun
  | [d1, d2] => { results := [.lit (.bool true)], args := [d1, d2] }
  | _ => none }
def fnExactJoinReducedRow : OpenClaim := { program := "ytalbagjgkcgblaa", sum := "9555a19f0ccc047a786d395f39f0e0bb2f05703d4ef39714fe4d9a9b02ca6984", func := "loop.example/g01171/laws.FnExactJoinReduced", spec := "fnExactJoinReduced", apart := false }
def FnExactJoinReducedSaid : Prop := fnExactJoinReducedRow.holds Try.pinned (OpenSpec.ofChange fnExactJoinReducedSpec)

/-- ITS FALSE NEIGHBOUR: 'it returns false'. Refute it at one input. -/
def fnExactJoinReducedWrong : ChangeSpec := { name := "fnExactJoinReduced", fn := fun _ => fun
  | [d1, d2] => { results := [.lit (.bool false)], args := [d1, d2] }
  | _ => none }
def FnExactJoinReducedWrongFalsely : Prop := fnExactJoinReducedRow.holds Try.pinned (OpenSpec.ofChange fnExactJoinReducedWrong)

/-- 'laws.FnExactCyclicCore': WHATEVER THE INPUT: true; the input reads as it did. -/
def fnExactCyclicCoreSpec : ChangeSpec := { name := "fnExactCyclicCore", fn := fun _ => fun
  | [d] => { results := [.lit (.bool true)], args := [d] }
  | _ => none }
def fnExactCyclicCoreRow : OpenClaim := { program := "ytalbagjgkcgblaa", sum := "9555a19f0ccc047a786d395f39f0e0bb2f05703d4ef39714fe4d9a9b02ca6984", func := "loop.example/g01171/laws.FnExactCyclicCore", spec := "fnExactCyclicCore", apart := false }
def FnExactCyclicCoreSaid : Prop := fnExactCyclicCoreRow.holds Try.pinned (OpenSpec.ofChange fnExactCyclicCoreSpec)

/-- ITS FALSE NEIGHBOUR: 'it returns false'. Refute it at one input. -/
def fnExactCyclicCoreWrong : ChangeSpec := { name := "fnExactCyclicCore", fn := fun _ => fun
  | [d] => { results := [.lit (.bool false)], args := [d] }
  | _ => none }
def FnExactCyclicCoreWrongFalsely : Prop := fnExactCyclicCoreRow.holds Try.pinned (OpenSpec.ofChange fnExactCyclicCoreWrong)

/-- 'laws.FnExactCompareWords': WHATEVER THE INPUT: true; the input reads as it did. -/
def fnExactCompareWordsSpec : ChangeSpec := { name := "fnExactCompareWords", fn := fun _ => fun
  | [d1, d2] => { results := [.lit (.bool true)], args := [d1, d2] }
  | _ => none }
def fnExactCompareWordsRow : OpenClaim := { program := "ytalbagjgkcgblaa", sum := "9555a19f0ccc047a786d395f39f0e0bb2f05703d4ef39714fe4d9a9b02ca6984", func := "loop.example/g01171/laws.FnExactCompareWords", spec := "fnExactCompareWords", inPlace := ["internal/bytealg.IndexByteString"], apart := false }
def FnExactCompareWordsSaid : Prop := fnExactCompareWordsRow.holds Try.pinned (OpenSpec.ofChange fnExactCompareWordsSpec)

/-- ITS FALSE NEIGHBOUR: 'it returns false'. Refute it at one input. -/
def fnExactCompareWordsWrong : ChangeSpec := { name := "fnExactCompareWords", fn := fun _ => fun
  | [d1, d2] => { results := [.lit (.bool false)], args := [d1, d2] }
  | _ => none }
def FnExactCompareWordsWrongFalsely : Prop := fnExactCompareWordsRow.holds Try.pinned (OpenSpec.ofChange fnExactCompareWordsWrong)

/- THE SECOND FORM. 'bulk': how many values and letters a reading holds, each counted each time it is reached (what is shared counts as often as it is met; a slice's spare places count too). A statement '..UptoSaid' is the law's where the arguments, and the package variables that the reading takes, are together of bulk at most 1048576: NARROWER than '..Said'. Prove '..Said' where nothing that the law and all that it calls make is longer than what came in: it says more and counts as full. Else prove '..UptoSaid'. A law counts once. -/
mutual
def uptoBulk {H : Type} : DataW H → Nat
  | .lit (.string bytes) => bytes.length + 1
  | .lit _ => 1
  | .nil => 1
  | .ptr d => uptoBulk d + 1
  | .slice elems spare => uptoBulkAll elems + uptoBulkAll spare + 1
  | .agg parts => uptoBulkAll parts + 1
  | .iface _ d => uptoBulk d + 1
  | .map entries => uptoBulkEntries entries + 1
  | .held _ => 1
def uptoBulkAll {H : Type} : List (DataW H) → Nat
  | [] => 0
  | d :: r => uptoBulk d + uptoBulkAll r
def uptoBulkEntries {H : Type} : List (Lit × DataW H) → Nat
  | [] => 0
  | x :: r => uptoBulkEntry x + uptoBulkEntries r
def uptoBulkEntry {H : Type} : Lit × DataW H → Nat
  | (.string bytes, d) => bytes.length + uptoBulk d + 1
  | (_, d) => uptoBulk d + 1
 end
def uptoSmall : (H : Type) → List (DataW H) → Bool := fun _ ds => decide (uptoBulkAll ds ≤ 1048576)
def OpenSpec.upto (s : _root_.Go.ChangeSpec) : _root_.Go.OpenSpec := { _root_.Go.OpenSpec.ofChange s with cond := some uptoSmall }

/-- 'laws.FnExactValidWord', WHERE WHAT IT READS IS OF BULK AT MOST 1048576: true; the input reads as it did. -/
def fnExactValidWordUptoRow : OpenClaim := { program := "ytalbagjgkcgblaa", sum := "9555a19f0ccc047a786d395f39f0e0bb2f05703d4ef39714fe4d9a9b02ca6984", func := "loop.example/g01171/laws.FnExactValidWord", spec := "fnExactValidWord", apart := false, narrowed := true }
def FnExactValidWordUptoSaid : Prop := fnExactValidWordUptoRow.holds Try.pinned (OpenSpec.upto fnExactValidWordSpec)

/-- 'laws.FnExactCountReduced', WHERE WHAT IT READS IS OF BULK AT MOST 1048576: true; the input reads as it did. -/
def fnExactCountReducedUptoRow : OpenClaim := { program := "ytalbagjgkcgblaa", sum := "9555a19f0ccc047a786d395f39f0e0bb2f05703d4ef39714fe4d9a9b02ca6984", func := "loop.example/g01171/laws.FnExactCountReduced", spec := "fnExactCountReduced", apart := false, narrowed := true }
def FnExactCountReducedUptoSaid : Prop := fnExactCountReducedUptoRow.holds Try.pinned (OpenSpec.upto fnExactCountReducedSpec)

/-- 'laws.FnExactCommonStart', WHERE WHAT IT READS IS OF BULK AT MOST 1048576: true; the input reads as it did. -/
def fnExactCommonStartUptoRow : OpenClaim := { program := "ytalbagjgkcgblaa", sum := "9555a19f0ccc047a786d395f39f0e0bb2f05703d4ef39714fe4d9a9b02ca6984", func := "loop.example/g01171/laws.FnExactCommonStart", spec := "fnExactCommonStart", apart := false, narrowed := true }
def FnExactCommonStartUptoSaid : Prop := fnExactCommonStartUptoRow.holds Try.pinned (OpenSpec.upto fnExactCommonStartSpec)

/-- 'laws.FnExactInverseWord', WHERE WHAT IT READS IS OF BULK AT MOST 1048576: true; the input reads as it did. -/
def fnExactInverseWordUptoRow : OpenClaim := { program := "ytalbagjgkcgblaa", sum := "9555a19f0ccc047a786d395f39f0e0bb2f05703d4ef39714fe4d9a9b02ca6984", func := "loop.example/g01171/laws.FnExactInverseWord", spec := "fnExactInverseWord", apart := false, narrowed := true }
def FnExactInverseWordUptoSaid : Prop := fnExactInverseWordUptoRow.holds Try.pinned (OpenSpec.upto fnExactInverseWordSpec)

/-- 'laws.FnExactReduceWord', WHERE WHAT IT READS IS OF BULK AT MOST 1048576: true; the input reads as it did. -/
def fnExactReduceWordUptoRow : OpenClaim := { program := "ytalbagjgkcgblaa", sum := "9555a19f0ccc047a786d395f39f0e0bb2f05703d4ef39714fe4d9a9b02ca6984", func := "loop.example/g01171/laws.FnExactReduceWord", spec := "fnExactReduceWord", apart := false, narrowed := true }
def FnExactReduceWordUptoSaid : Prop := fnExactReduceWordUptoRow.holds Try.pinned (OpenSpec.upto fnExactReduceWordSpec)

/-- 'laws.FnExactIsReduced', WHERE WHAT IT READS IS OF BULK AT MOST 1048576: true; the input reads as it did. -/
def fnExactIsReducedUptoRow : OpenClaim := { program := "ytalbagjgkcgblaa", sum := "9555a19f0ccc047a786d395f39f0e0bb2f05703d4ef39714fe4d9a9b02ca6984", func := "loop.example/g01171/laws.FnExactIsReduced", spec := "fnExactIsReduced", apart := false, narrowed := true }
def FnExactIsReducedUptoSaid : Prop := fnExactIsReducedUptoRow.holds Try.pinned (OpenSpec.upto fnExactIsReducedSpec)

/-- 'laws.FnExactLetterSums', WHERE WHAT IT READS IS OF BULK AT MOST 1048576: true; the input reads as it did. -/
def fnExactLetterSumsUptoRow : OpenClaim := { program := "ytalbagjgkcgblaa", sum := "9555a19f0ccc047a786d395f39f0e0bb2f05703d4ef39714fe4d9a9b02ca6984", func := "loop.example/g01171/laws.FnExactLetterSums", spec := "fnExactLetterSums", inPlace := ["internal/bytealg.IndexByteString"], apart := false, narrowed := true }
def FnExactLetterSumsUptoSaid : Prop := fnExactLetterSumsUptoRow.holds Try.pinned (OpenSpec.upto fnExactLetterSumsSpec)

/-- 'laws.FnExactCodeOfWord', WHERE WHAT IT READS IS OF BULK AT MOST 1048576: true; the input reads as it did. -/
def fnExactCodeOfWordUptoRow : OpenClaim := { program := "ytalbagjgkcgblaa", sum := "9555a19f0ccc047a786d395f39f0e0bb2f05703d4ef39714fe4d9a9b02ca6984", func := "loop.example/g01171/laws.FnExactCodeOfWord", spec := "fnExactCodeOfWord", inPlace := ["internal/bytealg.IndexByteString"], apart := false, narrowed := true }
def FnExactCodeOfWordUptoSaid : Prop := fnExactCodeOfWordUptoRow.holds Try.pinned (OpenSpec.upto fnExactCodeOfWordSpec)

/-- 'laws.FnExactReducedAt', WHERE WHAT IT READS IS OF BULK AT MOST 1048576: true; the input reads as it did. -/
def fnExactReducedAtUptoRow : OpenClaim := { program := "ytalbagjgkcgblaa", sum := "9555a19f0ccc047a786d395f39f0e0bb2f05703d4ef39714fe4d9a9b02ca6984", func := "loop.example/g01171/laws.FnExactReducedAt", spec := "fnExactReducedAt", apart := false, narrowed := true }
def FnExactReducedAtUptoSaid : Prop := fnExactReducedAtUptoRow.holds Try.pinned (OpenSpec.upto fnExactReducedAtSpec)

/-- 'laws.FnExactJoinReduced', WHERE WHAT IT READS IS OF BULK AT MOST 1048576: true; the input reads as it did. -/
def fnExactJoinReducedUptoRow : OpenClaim := { program := "ytalbagjgkcgblaa", sum := "9555a19f0ccc047a786d395f39f0e0bb2f05703d4ef39714fe4d9a9b02ca6984", func := "loop.example/g01171/laws.FnExactJoinReduced", spec := "fnExactJoinReduced", apart := false, narrowed := true }
def FnExactJoinReducedUptoSaid : Prop := fnExactJoinReducedUptoRow.holds Try.pinned (OpenSpec.upto fnExactJoinReducedSpec)

/-- 'laws.FnExactCyclicCore', WHERE WHAT IT READS IS OF BULK AT MOST 1048576: true; the input reads as it did. -/
def fnExactCyclicCoreUptoRow : OpenClaim := { program := "ytalbagjgkcgblaa", sum := "9555a19f0ccc047a786d395f39f0e0bb2f05703d4ef39714fe4d9a9b02ca6984", func := "loop.example/g01171/laws.FnExactCyclicCore", spec := "fnExactCyclicCore", apart := false, narrowed := true }
def FnExactCyclicCoreUptoSaid : Prop := fnExactCyclicCoreUptoRow.holds Try.pinned (OpenSpec.upto fnExactCyclicCoreSpec)

/-- 'laws.FnExactCompareWords', WHERE WHAT IT READS IS OF BULK AT MOST 1048576: true; the input reads as it did. -/
def fnExactCompareWordsUptoRow : OpenClaim := { program := "ytalbagjgkcgblaa", sum := "9555a19f0ccc047a786d395f39f0e0bb2f05703d4ef39714fe4d9a9b02ca6984", func := "loop.example/g01171/laws.FnExactCompareWords", spec := "fnExactCompareWords", inPlace := ["internal/bytealg.IndexByteString"], apart := false, narrowed := true }
def FnExactCompareWordsUptoSaid : Prop := fnExactCompareWordsUptoRow.holds Try.pinned (OpenSpec.upto fnExactCompareWordsSpec)

end Rows
end Go.Proofs.Ytalbagjgkcgblaa
