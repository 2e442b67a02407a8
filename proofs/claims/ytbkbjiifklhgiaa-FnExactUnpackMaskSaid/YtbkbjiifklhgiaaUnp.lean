/- UnpackMask: what the bytes of a mask tell (plain law). Conditions: none. -/
import Derived.Test.YtbkbjiifklhgiaaPack
import Derived.Test.YtbkbjiifklhgiaaCount
namespace Go.Proofs.Ytbkbjiifklhgiaa
open Go.RowKit
set_option linter.unusedVariables false

def sumU (l : List UInt8) : Nat := (l.map UInt8.toNat).sum
theorem sumU_snoc (l : List UInt8) (b : UInt8) : sumU (l ++ [b]) = sumU l + b.toNat := by simp [sumU]
def odd (k : Nat) : Bool := k % 2 == 1
theorem odd_succ (k : Nat) : odd (k + 1) = !odd k := by
  unfold odd
  rcases Nat.mod_two_eq_zero_or_one k with h | h
  · have : (k + 1) % 2 = 1 := by omega
    rw [h, this]; rfl
  · have : (k + 1) % 2 = 0 := by omega
    rw [h, this]; rfl
/-- What the runs so far tell of the cells so far. -/
def Told (zs : List Int) (i : Nat) (out : List UInt8) (on : Bool) (run : Nat) : Prop :=
  sumU out + run = i ∧ on = odd out.length ∧ (∀ t, sumU out ≤ t → t < i → hasN zs t = on) ∧
    ∀ k, k < out.length → ∀ t, sumU (out.take k) ≤ t → t < sumU (out.take (k + 1)) → hasN zs t = odd k
theorem pk_told (zs : List Int) : ∀ i, i ≤ 256 → Told zs i (pk zs i).1 (pk zs i).2.1 (pk zs i).2.2
  | 0, _ => ⟨rfl, rfl, fun t h1 h2 => by omega, fun k hk => by simp [pk] at hk⟩
  | i + 1, hi => by
    obtain ⟨h1, h2, h3, h4⟩ := pk_told zs i (by omega)
    have lim := (pk_lim zs i).1
    cases hb : (hasN zs i != (pk zs i).2.1)
    · rw [pk_miss hb]
      have hb' : hasN zs i = (pk zs i).2.1 := by simpa using hb
      refine ⟨by show sumU (pk zs i).1 + ((pk zs i).2.2 + 1) = i + 1; omega, h2, fun t ht1 ht2 => ?_, h4⟩
      by_cases e : t = i
      · subst e; exact hb'
      · exact h3 t ht1 (by omega)
    · rw [pk_hit hb]
      have hr : (UInt8.ofNat (pk zs i).2.2).toNat = (pk zs i).2.2 := by
        have := ofNat_small (r := (pk zs i).2.2) (by omega)
        omega
      have hs : sumU ((pk zs i).1 ++ [UInt8.ofNat (pk zs i).2.2]) = i := by rw [sumU_snoc, hr]; exact h1
      have hb' : hasN zs i = !(pk zs i).2.1 := by
        revert hb
        cases hasN zs i <;> cases (pk zs i).2.1 <;> simp
      refine ⟨by show sumU _ + 1 = i + 1; rw [hs], by show (!(pk zs i).2.1) = odd ((pk zs i).1 ++ [UInt8.ofNat (pk zs i).2.2]).length; rw [List.length_append, h2]; exact (odd_succ _).symm, fun t ht1 ht2 => ?_, fun k hk t ht1 ht2 => ?_⟩
      · rw [hs] at ht1
        have : t = i := by omega
        subst this; exact hb'
      · rw [List.length_append] at hk
        by_cases e : k = (pk zs i).1.length
        · subst e
          rw [List.take_left] at ht1
          rw [List.take_of_length_le (by simp), hs] at ht2
          rw [h3 t ht1 ht2, h2]
        · have hk' : k < (pk zs i).1.length := by simp at hk; omega
          rw [List.take_append_of_le_length (by omega)] at ht1
          rw [List.take_append_of_le_length (by omega)] at ht2
          exact h4 k hk' t ht1 ht2
/-- A mask's bytes tell its cells. -/
theorem packed (zs : List Int) : sumU (packL zs) ≤ 256 ∧ (∀ t, sumU (packL zs) ≤ t → t < 256 → hasN zs t = odd (packL zs).length) ∧
    ∀ k, k < (packL zs).length → ∀ t, sumU ((packL zs).take k) ≤ t → t < sumU ((packL zs).take (k + 1)) → hasN zs t = odd k := by
  obtain ⟨h1, h2, h3, h4⟩ := pk_told zs 256 (Nat.le_refl _)
  exact ⟨by unfold packL; omega, fun t a b => by rw [h3 t a b, h2]; rfl, h4⟩

theorem bits_or_u16 (a b : Nat) (ha : a < 65536) (hb : b < 65536) : bits .or .u16 (a : Int) (b : Int) = ((a ||| b : Nat) : Int) := by
  have hx : a ||| b < 2 ^ 16 := Nat.or_lt_two_pow (by omega) (by omega)
  have h1 : (BitVec.ofInt 16 (a : Int)).toNat = a := by
    rw [BitVec.ofInt_natCast, BitVec.toNat_ofNat]; exact Nat.mod_eq_of_lt (by omega)
  have h2 : (BitVec.ofInt 16 (b : Int)).toNat = b := by
    rw [BitVec.ofInt_natCast, BitVec.toNat_ofNat]; exact Nat.mod_eq_of_lt (by omega)
  show IntKind.u16.wrap ((BitVec.ofInt 16 (a : Int) ||| BitVec.ofInt 16 (b : Int)).toNat : Int) = _
  rw [BitVec.toNat_or, h1, h2]
  simp only [IntKind.wrap, IntKind.bits, IntKind.signed, Bool.false_and, Bool.false_eq_true, if_false]
  omega
/-- A cell set in a mask. -/
def put (zs : List Int) (t : Nat) : List Int := zs.set (t / 16) (bits BinOp.or IntKind.u16 (nth zs (t / 16)) (IntKind.u16.wrap (2 ^ (t % 16))))
/-- The mask's cells before number t, and no others. -/
def upM (zs : List Int) : Nat → List Int
  | 0 => zs0
  | t + 1 => if hasN zs t then put (upM zs t) t else upM zs t
theorem upM_len (zs : List Int) : ∀ t, (upM zs t).length = 16
  | 0 => rfl
  | t + 1 => by
    show (if _ then _ else _ : List Int).length = 16
    split
    · show ((upM zs t).set _ _).length = 16
      rw [List.length_set, upM_len zs t]
    · exact upM_len zs t
theorem nth_set (zs : List Int) (k j : Nat) (z : Int) (h : k < zs.length) : nth (zs.set k z) j = if k = j then z else nth zs j := by
  unfold nth
  rw [List.getD_eq_getElem?_getD, List.getElem?_set, List.getD_eq_getElem?_getD]
  by_cases e : k = j
  · subst e; rw [if_pos rfl, if_pos rfl, if_pos h]; rfl
  · rw [if_neg e, if_neg e]
theorem wrap_pow {x : Nat} (h : x < 16) : IntKind.u16.wrap (2 ^ x) = ((2 ^ x : Nat) : Int) := by
  have : ∀ x, x < 16 → IntKind.u16.wrap (2 ^ x) = ((2 ^ x : Nat) : Int) := by decide
  exact this x h
theorem upM_row (zs : List Int) (hw : ∀ z ∈ zs, (Lit.int .u16 z).wf = true) : ∀ t, t ≤ 256 → ∀ y, y < 16 → ∀ n : Nat, nth zs y = n → n < 65536 → nth (upM zs t) y = ((n % 2 ^ (min (t - 16 * y) 16) : Nat) : Int)
  | 0, _, y, hy, n, hn, hl => by
    rw [Nat.zero_sub, Nat.zero_min, Nat.pow_zero, Nat.mod_one]
    have : ∀ y, y < 16 → nth zs0 y = 0 := by decide
    exact this y hy
  | t + 1, ht, y, hy, n, hn, hl => by
    have ih := upM_row zs hw t (by omega) y hy n hn hl
    show nth (if hasN zs t then put (upM zs t) t else upM zs t) y = _
    by_cases e : t / 16 = y
    · have hx : t % 16 < 16 := Nat.mod_lt _ (by omega)
      have e1 : min (t - 16 * y) 16 = t % 16 := by omega
      have e2 : min (t + 1 - 16 * y) 16 = t % 16 + 1 := by omega
      rw [e1] at ih
      rw [e2, Nat.mod_pow_succ]
      have hb : hasN zs t = (n / 2 ^ (t % 16) % 2 == 1) := by
        unfold hasN
        rw [e]; exact has_nat zs _ y n hn hl
      have hlow : n % 2 ^ (t % 16) < 2 ^ (t % 16) := Nat.mod_lt _ (Nat.two_pow_pos _)
      have hp : 2 ^ (t % 16) ≤ 2 ^ 15 := Nat.pow_le_pow_right (by omega) (by omega)
      rcases Nat.mod_two_eq_zero_or_one (n / 2 ^ (t % 16)) with h0 | h1
      · rw [hb, h0, if_neg (by simp), ih]; simp
      · rw [hb, h1, if_pos (by simp)]
        unfold put
        rw [nth_set _ _ _ _ (by rw [upM_len]; omega), if_pos e, e, ih, wrap_pow hx, bits_or_u16 _ _ (by omega) (by omega), Nat.or_comm]
        have := Nat.two_pow_add_eq_or_of_lt hlow 1
        rw [Nat.mul_one] at this
        rw [← this, Nat.mul_one, Nat.add_comm]
    · have e3 : min (t + 1 - 16 * y) 16 = min (t - 16 * y) 16 := by omega
      rw [e3]
      split
      · unfold put
        rw [nth_set _ _ _ _ (by rw [upM_len]; omega), if_neg e]; exact ih
      · exact ih
theorem upM_all (zs : List Int) (hz : zs.length = 16) (hw : ∀ z ∈ zs, (Lit.int .u16 z).wf = true) : upM zs 256 = zs := by
  apply List.ext_getElem (by rw [upM_len, hz])
  intro y h1 h2
  have hy : y < 16 := by omega
  obtain ⟨n, hn, hl⟩ := nth_nat zs hw y
  have := upM_row zs hw 256 (Nat.le_refl _) y hy n hn hl
  have e : min (256 - 16 * y) 16 = 16 := by omega
  rw [e, Nat.mod_eq_of_lt (by omega), ← hn] at this
  unfold nth at this
  rw [List.getD_eq_getElem?_getD, List.getD_eq_getElem?_getD, List.getElem?_eq_getElem h1, List.getElem?_eq_getElem h2] at this
  exact this
end Go.Proofs.Ytbkbjiifklhgiaa
