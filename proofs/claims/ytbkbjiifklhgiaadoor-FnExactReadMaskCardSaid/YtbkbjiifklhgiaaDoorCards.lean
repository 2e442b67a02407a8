/-
  DERIVED. GIVEN WITH THE SEED: THE CARDS: each row of YtbkbjiifklhgiaaDoorRows.lean that lists a variable, with what it lists TIED to the program's text (the seventh form; the later family's looks); each row that meets fmt, with fmt's text TOLD by the authors' own Lean function (tested against real Go, not proved from fmt's source: count such statements apart). THE CARD IS WHAT COUNTS. Prove the row's statement (the work); the ties are given (YtbkbjiifklhgiaaDoorTie.lean); close each card by the builder's one call (the guide's Derived/Test/ToyasCard.lean, 'card_holds'). Laid BY PROGRAM, IN A SANDBOX (cutbox-door.mjs). By AI agents, Wed Nov 11 2026. No macro, syntax, notation, axiom, sorry.
-/
import Derived.Test.YtbkbjiifklhgiaaDoorRows
import GoSem.ClaimSeven
namespace Go.Proofs.YtbkbjiifklhgiaaDoor
namespace Rows

/-- THE TIED CARD OF 'laws.FnExactReadMask'. -/
def fnExactReadMaskCard : Claim7 := { stood := { row := fnExactReadMaskRow, standIns := [], harness := (true, "0362db4402584d609a48fc41bf9453599d777657037264338f6d62486de35207"), looks := false }, kinds := [], alts := [], laidByText := true, laidKinds := [.data, .pinned], laidTests := true, laidLooks := .later }
def FnExactReadMaskCardSaid : Prop := Claim7.holds Tryd.pinned (.plain (OpenSpec.ofChange fnExactReadMaskSpec)) fnExactReadMaskCard

/-- THE SECOND FORM's CARD OF 'laws.FnExactReadMask'. -/
def fnExactReadMaskUptoCard : Claim7 := { stood := { row := fnExactReadMaskUptoRow, standIns := [], harness := (true, "0362db4402584d609a48fc41bf9453599d777657037264338f6d62486de35207"), looks := false }, kinds := [], alts := [], laidByText := true, laidKinds := [.data, .pinned], laidTests := true, laidLooks := .later }
def FnExactReadMaskUptoCardSaid : Prop := Claim7.holds Tryd.pinned (.plain (OpenSpec.upto fnExactReadMaskSpec)) fnExactReadMaskUptoCard
end Rows
end Go.Proofs.YtbkbjiifklhgiaaDoor
