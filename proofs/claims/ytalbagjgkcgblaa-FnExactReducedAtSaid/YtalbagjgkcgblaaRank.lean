/- RankReduced: the walks of both sides and of the law. Conditions: none. -/
import Derived.Test.YtalbagjgkcgblaaGen
import Derived.Test.YtalbagjgkcgblaaSlb
namespace Go.Proofs.Ytalbagjgkcgblaa
open Go.RowKit
set_option linter.unusedVariables false

theorem let_xor : ∀ x : Nat, x < 8 → atb letters (x ^^^ 1) = Wd.oth (atb letters x) ∧ x ^^^ 1 < 8 := by decide +kernel
/-- May a letter stand at a place of a reduced word? -/
def fre (l : List UInt8) (i x : Nat) : Bool := decide (i = 0) || (atb l (i - 1) != Wd.oth (atb letters x))
/-- The rank's part at place i, the first x letters. -/
def inS (g : Int) (l : List UInt8) (i : Nat) : Nat → Int
  | 0 => 0
  | x + 1 => inS g l i x + (if fre l i x then wy g true (l.length - i - 1) else 0)
/-- The rank's part before place i. -/
def rkTo (g : Int) (l : List UInt8) : Nat → Int
  | 0 => 0
  | i + 1 => rkTo g l i + inS g l i (lnoN (atb l i))
theorem inS_lim {g : Int} {l : List UInt8} {i : Nat} (hg : 1 ≤ g) (hg4 : g ≤ 4) (hl : l.length ≤ 12) : ∀ x : Nat, 0 ≤ inS g l i x ∧ inS g l i x ≤ 68719476736 * (x : Int)
  | 0 => by simp [inS]
  | x + 1 => by
    obtain ⟨h1, h2⟩ := inS_lim (i := i) hg hg4 hl x
    obtain ⟨w1, w2⟩ := wy_lim (b := true) hg hg4 (l.length - i - 1) (by omega)
    unfold inS
    split <;> omega
theorem rkTo_lim {g : Int} {l : List UInt8} (hg : 1 ≤ g) (hg4 : g ≤ 4) (hl : l.length ≤ 12) (hL : ∀ x ∈ l, Wd.isL x = true) : ∀ k : Nat, k ≤ l.length → 0 ≤ rkTo g l k ∧ rkTo g l k ≤ 549755813888 * (k : Int)
  | 0, _ => by simp [rkTo]
  | k + 1, hk => by
    obtain ⟨h1, h2⟩ := rkTo_lim hg hg4 hl hL k (by omega)
    obtain ⟨a1, _⟩ := letter_at (atb l k) (vld_at hL (by omega))
    obtain ⟨w1, w2⟩ := inS_lim (l := l) (i := k) hg hg4 hl (lnoN (atb l k))
    unfold rkTo
    omega
theorem lno_N {c : UInt8} (h : Wd.isL c = true) : lno c = (lnoN c : Nat) ∧ lnoN c < 8 := by
  obtain ⟨a1, _⟩ := letter_at c h
  exact ⟨by unfold lno; rw [if_pos a1], a1⟩


theorem take_letters {p : Nat} (h : p < 8) : (letters.take p).length = p := by rw [List.length_take, letters_len]; omega
theorem atb_take {l : List UInt8} {p x : Nat} (h : x < p) : atb (l.take p) x = atb l x := by
  unfold atb; rw [List.getD_eq_getElem?_getD, List.getD_eq_getElem?_getD, List.getElem?_take, if_pos h]









end Go.Proofs.Ytalbagjgkcgblaa
