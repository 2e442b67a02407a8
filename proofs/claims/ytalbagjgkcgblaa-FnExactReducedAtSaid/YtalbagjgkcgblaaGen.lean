/- The code of a number of generators and of a word of them: the walks of both sides. Conditions: none. -/
import Derived.Test.YtalbagjgkcgblaaWay
import Derived.Test.YtalbagjgkcgblaaCmp
import Derived.Test.YtalbagjgkcgblaaRow
import Derived.Lib.OthersKept
import Derived.Deep.LoopGhost
import Derived.OneCell
namespace Go.Proofs.Ytalbagjgkcgblaa
open Go.RowKit
set_option linter.unusedVariables false

/-- Is a letter one of so many generators? -/
def okG (g : Int) (l : List UInt8) (n : Nat) : Bool := decide (n < l.length) && decide (lno (atb l n) < 2 * g)
/-- Are all letters of so many generators? -/
def gOk (g : Int) (l : List UInt8) : Bool := decide (∀ n, n < l.length → lno (atb l n) < 2 * g)
theorem gOk_iff {g : Int} {l : List UInt8} : gOk g l = true ↔ ∀ n, n < l.length → lno (atb l n) < 2 * g := by simp [gOk]
theorem lno_07 {c : UInt8} (h : Wd.isL c = true) : 0 ≤ lno c ∧ lno c ≤ 7 := by
  obtain ⟨a1, _, _, _⟩ := letter_at c h
  unfold lno; rw [if_pos a1]; omega
theorem bs_at (l : List UInt8) (k : Nat) (h : k < (bs l).size) : (bs l)[k]'h = atb l k := by
  have h2 : k < l.length := h
  rw [atb_eq h2]; rfl
theorem small_letter {c : UInt8} (h : Wd.isL c = true) : c.toNat < 128 := by
  have := Wd.allU8 (p := fun c => !Wd.isL c || decide (c.toNat < 128)) (by decide +kernel) c
  rw [h] at this; simpa using this











/-- The code of a reduced word over so many generators, if the word is valid and the number is. -/
def givC (g : Int) (l : List UInt8) : Int := if gOk g l then (if isRed l then 0 else 4) else 2

end Go.Proofs.Ytalbagjgkcgblaa
