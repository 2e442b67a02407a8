/-
  No cell of these rows narrows 'for every input' (looked for: loops, veiled, ifaces, maps, wideKeys, modest, calm, conditions, laid).
  DERIVED. THE GIVEN ROWS OF THIS SEAT. 4 by the template 'for every input the law returns true; each argument reads behind the call as it read before'; 0 by the template 'total and deterministic' (their statements: YtejmbbnhdojcbaaTotals.lean).
  GIVEN WITH THE SEED: the statements are not yours to turn. If you find one false, say at which input.
  Laid BY PROGRAM, IN A SANDBOX (cutbox-rows.mjs): the forced cells as the released guide's own fill.sh prints them over the translation d6e3163504a72a21… (all of the seat's roots in one cut). By AI agents, Wed Nov 11 2026. No macro, syntax, notation, axiom, sorry.
-/
import Derived.Test.YtejmbbnhdojcbaaChecked
import GoSem.Claim
import GoSem.ClaimJoined
import GoSem.ClaimMapViews
import Derived.JoinedTies
import Derived.KernelRfl
namespace Go.Proofs.Ytejmbbnhdojcbaa
/- THE CELL 'sum', in the pinned program and in every row, IS THE sha256 OF THE DUMP (.gsa) THAT YtejmbbnhdojcbaaProg.lean LOADS. Nothing in Lean hashes anything: it is a label: what it is worth is what the hold of that sum in a sandbox is worth. -/
noncomputable def Try.pinned : Pinned := { name := "ytejmbbnhdojcbaa", sum := "d6e3163504a72a21873a6268953bf0ab286c63c153c6ba0dc2c673ddf5e2bd53", checked := Try.checked }
namespace Rows
def none {H : Type} : Left H := { results := [], args := [] }

/-- 'laws.FnImages': WHATEVER THE INPUT: true; the input reads as it did. -/
def fnImagesSpec : ChangeSpec := { name := "fnImages", fn := fun _ => fun
  | [d1, d2] => { results := [.lit (.bool true)], args := [d1, d2] }
  | _ => none }
def fnImagesRow : OpenClaim := { program := "ytejmbbnhdojcbaa", sum := "d6e3163504a72a21873a6268953bf0ab286c63c153c6ba0dc2c673ddf5e2bd53", func := "loop.example/g01171/laws.FnImages", spec := "fnImages", inPlace := ["internal/bytealg.IndexByteString"], unfollowed := true, recurses := true, apart := false }
def FnImagesSaid : Prop := fnImagesRow.holds Try.pinned (OpenSpec.ofChange fnImagesSpec)

/-- ITS FALSE NEIGHBOUR: 'it returns false'. Refute it at one input. -/
def fnImagesWrong : ChangeSpec := { name := "fnImages", fn := fun _ => fun
  | [d1, d2] => { results := [.lit (.bool false)], args := [d1, d2] }
  | _ => none }
def FnImagesWrongFalsely : Prop := fnImagesRow.holds Try.pinned (OpenSpec.ofChange fnImagesWrong)

/-- 'laws.FnCountedWords': WHATEVER THE INPUT: true; the input reads as it did. -/
def fnCountedWordsSpec : ChangeSpec := { name := "fnCountedWords", fn := fun _ => fun
  | [d1, d2] => { results := [.lit (.bool true)], args := [d1, d2] }
  | _ => none }
def fnCountedWordsRow : OpenClaim := { program := "ytejmbbnhdojcbaa", sum := "d6e3163504a72a21873a6268953bf0ab286c63c153c6ba0dc2c673ddf5e2bd53", func := "loop.example/g01171/laws.FnCountedWords", spec := "fnCountedWords", inPlace := ["internal/bytealg.IndexByteString"], unfollowed := true, recurses := true, apart := false }
def FnCountedWordsSaid : Prop := fnCountedWordsRow.holds Try.pinned (OpenSpec.ofChange fnCountedWordsSpec)

/-- ITS FALSE NEIGHBOUR: 'it returns false'. Refute it at one input. -/
def fnCountedWordsWrong : ChangeSpec := { name := "fnCountedWords", fn := fun _ => fun
  | [d1, d2] => { results := [.lit (.bool false)], args := [d1, d2] }
  | _ => none }
def FnCountedWordsWrongFalsely : Prop := fnCountedWordsRow.holds Try.pinned (OpenSpec.ofChange fnCountedWordsWrong)

/-- 'laws.FnConjugates': WHATEVER THE INPUT: true; the input reads as it did. -/
def fnConjugatesSpec : ChangeSpec := { name := "fnConjugates", fn := fun _ => fun
  | [d1, d2] => { results := [.lit (.bool true)], args := [d1, d2] }
  | _ => none }
def fnConjugatesRow : OpenClaim := { program := "ytejmbbnhdojcbaa", sum := "d6e3163504a72a21873a6268953bf0ab286c63c153c6ba0dc2c673ddf5e2bd53", func := "loop.example/g01171/laws.FnConjugates", spec := "fnConjugates", inPlace := ["internal/bytealg.IndexByteString", "internal/abi.NoEscape", "internal/bytealg.MakeNoZero"], apart := false }
def FnConjugatesSaid : Prop := fnConjugatesRow.holds Try.pinned (OpenSpec.ofChange fnConjugatesSpec)

/-- ITS FALSE NEIGHBOUR: 'it returns false'. Refute it at one input. -/
def fnConjugatesWrong : ChangeSpec := { name := "fnConjugates", fn := fun _ => fun
  | [d1, d2] => { results := [.lit (.bool false)], args := [d1, d2] }
  | _ => none }
def FnConjugatesWrongFalsely : Prop := fnConjugatesRow.holds Try.pinned (OpenSpec.ofChange fnConjugatesWrong)

/-- 'laws.FnWords': WHATEVER THE INPUT: true; the input reads as it did. -/
def fnWordsSpec : ChangeSpec := { name := "fnWords", fn := fun _ => fun
  | [d1, d2] => { results := [.lit (.bool true)], args := [d1, d2] }
  | _ => none }
def fnWordsRow : OpenClaim := { program := "ytejmbbnhdojcbaa", sum := "d6e3163504a72a21873a6268953bf0ab286c63c153c6ba0dc2c673ddf5e2bd53", func := "loop.example/g01171/laws.FnWords", spec := "fnWords", inPlace := ["internal/abi.NoEscape", "internal/bytealg.MakeNoZero", "internal/bytealg.IndexByteString"], apart := false }
def FnWordsSaid : Prop := fnWordsRow.holds Try.pinned (OpenSpec.ofChange fnWordsSpec)

/-- ITS FALSE NEIGHBOUR: 'it returns false'. Refute it at one input. -/
def fnWordsWrong : ChangeSpec := { name := "fnWords", fn := fun _ => fun
  | [d1, d2] => { results := [.lit (.bool false)], args := [d1, d2] }
  | _ => none }
def FnWordsWrongFalsely : Prop := fnWordsRow.holds Try.pinned (OpenSpec.ofChange fnWordsWrong)

/- THE SECOND FORM. 'bulk': how many values and letters a reading holds, each counted each time it is reached (what is shared counts as often as it is met; a slice's spare places count too). A statement '..UptoSaid' is the law's where the arguments, and the package variables that the reading takes, are together of bulk at most 1048576: NARROWER than '..Said'. Prove '..Said' where nothing that the law and all that it calls make is longer than what came in: it says more and counts as full. Else prove '..UptoSaid'. A law counts once. -/
mutual
def uptoBulk {H : Type} : DataW H → Nat
  | .lit (.string bytes) => bytes.length + 1
  | .lit _ => 1
  | .nil => 1
  | .ptr d => uptoBulk d + 1
  | .slice elems spare => uptoBulkAll elems + uptoBulkAll spare + 1
  | .agg parts => uptoBulkAll parts + 1
  | .iface _ d => uptoBulk d + 1
  | .map entries => uptoBulkEntries entries + 1
  | .held _ => 1
def uptoBulkAll {H : Type} : List (DataW H) → Nat
  | [] => 0
  | d :: r => uptoBulk d + uptoBulkAll r
def uptoBulkEntries {H : Type} : List (Lit × DataW H) → Nat
  | [] => 0
  | x :: r => uptoBulkEntry x + uptoBulkEntries r
def uptoBulkEntry {H : Type} : Lit × DataW H → Nat
  | (.string bytes, d) => bytes.length + uptoBulk d + 1
  | (_, d) => uptoBulk d + 1
 end
def uptoSmall : (H : Type) → List (DataW H) → Bool := fun _ ds => decide (uptoBulkAll ds ≤ 1048576)
def OpenSpec.upto (s : _root_.Go.ChangeSpec) : _root_.Go.OpenSpec := { _root_.Go.OpenSpec.ofChange s with cond := some uptoSmall }

/-- 'laws.FnImages', WHERE WHAT IT READS IS OF BULK AT MOST 1048576: true; the input reads as it did. -/
def fnImagesUptoRow : OpenClaim := { program := "ytejmbbnhdojcbaa", sum := "d6e3163504a72a21873a6268953bf0ab286c63c153c6ba0dc2c673ddf5e2bd53", func := "loop.example/g01171/laws.FnImages", spec := "fnImages", inPlace := ["internal/bytealg.IndexByteString"], unfollowed := true, recurses := true, apart := false, narrowed := true }
def FnImagesUptoSaid : Prop := fnImagesUptoRow.holds Try.pinned (OpenSpec.upto fnImagesSpec)

/-- 'laws.FnCountedWords', WHERE WHAT IT READS IS OF BULK AT MOST 1048576: true; the input reads as it did. -/
def fnCountedWordsUptoRow : OpenClaim := { program := "ytejmbbnhdojcbaa", sum := "d6e3163504a72a21873a6268953bf0ab286c63c153c6ba0dc2c673ddf5e2bd53", func := "loop.example/g01171/laws.FnCountedWords", spec := "fnCountedWords", inPlace := ["internal/bytealg.IndexByteString"], unfollowed := true, recurses := true, apart := false, narrowed := true }
def FnCountedWordsUptoSaid : Prop := fnCountedWordsUptoRow.holds Try.pinned (OpenSpec.upto fnCountedWordsSpec)

/-- 'laws.FnConjugates', WHERE WHAT IT READS IS OF BULK AT MOST 1048576: true; the input reads as it did. -/
def fnConjugatesUptoRow : OpenClaim := { program := "ytejmbbnhdojcbaa", sum := "d6e3163504a72a21873a6268953bf0ab286c63c153c6ba0dc2c673ddf5e2bd53", func := "loop.example/g01171/laws.FnConjugates", spec := "fnConjugates", inPlace := ["internal/bytealg.IndexByteString", "internal/abi.NoEscape", "internal/bytealg.MakeNoZero"], apart := false, narrowed := true }
def FnConjugatesUptoSaid : Prop := fnConjugatesUptoRow.holds Try.pinned (OpenSpec.upto fnConjugatesSpec)

/-- 'laws.FnWords', WHERE WHAT IT READS IS OF BULK AT MOST 1048576: true; the input reads as it did. -/
def fnWordsUptoRow : OpenClaim := { program := "ytejmbbnhdojcbaa", sum := "d6e3163504a72a21873a6268953bf0ab286c63c153c6ba0dc2c673ddf5e2bd53", func := "loop.example/g01171/laws.FnWords", spec := "fnWords", inPlace := ["internal/abi.NoEscape", "internal/bytealg.MakeNoZero", "internal/bytealg.IndexByteString"], apart := false, narrowed := true }
def FnWordsUptoSaid : Prop := fnWordsUptoRow.holds Try.pinned (OpenSpec.upto fnWordsSpec)

end Rows
end Go.Proofs.Ytejmbbnhdojcbaa
