/- FnCountedWords: the plain law of codes: a word grows back from its code. Conditions: none. -/
import Derived.Test.YtejmbbnhdojcbaaWoc
import Derived.Test.YtejmbbnhdojcbaaNlaw
namespace Go.Proofs.Ytejmbbnhdojcbaa
open Go.RowKit
set_option linter.unusedVariables false

theorem orAt_nat : ∀ z : Nat, z < 256 → ∀ r : Nat, r < 8 → orAt (z : Int) r = ((z ||| 2 ^ (7 - r) : Nat) : Int) ∧ z ||| 2 ^ (7 - r) < 256 := by decide +kernel
/-- Bit t of a code, as a number's bit. -/
def bitB (zs : List Int) (t : Nat) : Bool := (nth zs (1 + t / 8)).toNat.testBit (7 - t % 8)
def onB (l : List UInt8) (t : Nat) : Bool := bitOn (atb l (t / 3)) (2 - t % 3)
theorem code_bits (l : List UInt8) (hl : l.length ≤ 40) : ∀ n, n ≤ 3 * l.length → (∀ j, ∃ z : Nat, nth (codeTo l n) j = z ∧ z < 256) ∧ nth (codeTo l n) 0 = l.length ∧ ∀ t, t < 120 → bitB (codeTo l n) t = (decide (t < n) && onB l t)
  | 0, _ => by
    have h0 : ∀ j, nth (codeTo l 0) j = if j = 0 then (l.length : Int) else 0 := fun j => by
      unfold codeTo nth
      match j with
      | 0 => rfl
      | 1 | 2 | 3 | 4 | 5 | 6 | 7 | 8 | 9 | 10 | 11 | 12 | 13 | 14 | 15 => rfl
      | j + 16 => rfl
    refine ⟨fun j => ?_, by rw [h0, if_pos rfl], fun t ht => ?_⟩
    · rw [h0]
      split
      · exact ⟨l.length, rfl, by omega⟩
      · exact ⟨0, rfl, by omega⟩
    · unfold bitB
      rw [h0, if_neg (by omega)]
      simp
  | n + 1, hn => by
    obtain ⟨h1, h2, h3⟩ := code_bits l hl n (by omega)
    have hl16 := codeTo_len l n
    have e : onB l n = bitOn (atb l (n / 3)) (2 - n % 3) := rfl
    unfold codeTo
    cases hb : onB l n
    · rw [← e, hb, if_neg (by simp)]
      refine ⟨h1, h2, fun t ht => ?_⟩
      rw [h3 t ht]
      by_cases et : t = n
      · subst et
        rw [hb]; simp
      · by_cases hlt : t < n
        · rw [decide_eq_true hlt, decide_eq_true (by omega)]
        · rw [decide_eq_false hlt, decide_eq_false (by omega)]
    · rw [← e, hb, if_pos rfl]
      obtain ⟨z, hz, hz2⟩ := h1 (1 + n / 8)
      obtain ⟨o1, o2⟩ := orAt_nat z hz2 (n % 8) (Nat.mod_lt _ (by omega))
      have hset : ∀ j, nth ((codeTo l n).set (1 + n / 8) (orAt (nth (codeTo l n) (1 + n / 8)) (n % 8))) j = if j = 1 + n / 8 then ((z ||| 2 ^ (7 - n % 8) : Nat) : Int) else nth (codeTo l n) j := fun j => by
        rw [nth_set _ _ _ _ (by omega), hz, o1]
      refine ⟨fun j => ?_, by rw [hset, if_neg (by omega)]; exact h2, fun t ht => ?_⟩
      · rw [hset]
        split
        · exact ⟨_, rfl, o2⟩
        · exact h1 j
      · have h3t := h3 t ht
        unfold bitB at h3t ⊢
        rw [hset]
        by_cases ej : 1 + t / 8 = 1 + n / 8
        · rw [if_pos ej, Int.toNat_natCast, Nat.testBit_or, Nat.testBit_two_pow]
          rw [ej, hz, Int.toNat_natCast] at h3t
          rw [h3t]
          by_cases et : t = n
          · subst et
            rw [hb]; simp
          · have hne : ¬ (7 - n % 8 = 7 - t % 8) := by omega
            rw [decide_eq_false hne, Bool.or_false]
            by_cases hlt : t < n
            · rw [decide_eq_true hlt, decide_eq_true (by omega)]
            · rw [decide_eq_false hlt, decide_eq_false (by omega)]
        · rw [if_neg ej, h3t]
          have et : t ≠ n := fun e => ej (by rw [e])
          by_cases hlt : t < n
          · rw [decide_eq_true hlt, decide_eq_true (by omega)]
          · rw [decide_eq_false hlt, decide_eq_false (by omega)]
theorem bitZ_B {zs : List Int} (h : ∀ j, ∃ z : Nat, nth zs j = z ∧ z < 256) (t : Nat) : bitZ zs t = if bitB zs t then 1 else 0 := by
  obtain ⟨z, hz, hz2⟩ := h (1 + t / 8)
  unfold bitZ bitB
  have e : ((z : Int) / 2 ^ (7 - t % 8)) = ((z / 2 ^ (7 - t % 8) : Nat) : Int) := by simp
  have hlt : z / 2 ^ (7 - t % 8) < 256 := Nat.lt_of_le_of_lt (Nat.div_le_self _ _) hz2
  rw [hz, e, and_one _ hlt, Int.toNat_natCast, Nat.testBit_eq_decide_div_mod_eq]
  rcases Nat.mod_two_eq_zero_or_one (z / 2 ^ (7 - t % 8)) with h0 | h1
  · rw [h0]; simp
  · rw [h1]; simp
theorem three_bits : ∀ c : Nat, c < 8 → (2 * (2 * (2 * (0 : Int) + (if bits BinOp.and IntKind.i64 ((c : Int) / 2 ^ 2) 1 == 1 then 1 else 0)) + (if bits BinOp.and IntKind.i64 ((c : Int) / 2 ^ 1) 1 == 1 then 1 else 0)) + (if bits BinOp.and IntKind.i64 ((c : Int) / 2 ^ 0) 1 == 1 then 1 else 0)) = (c : Int) := by decide +kernel
theorem code_letter (l : List UInt8) (hl : l.length ≤ 40) (hL : ∀ x ∈ l, Wd.isL x = true) (i : Nat) (hi : i < l.length) : pz (codeTo l (3 * l.length)) i 3 = lnoN (atb l i) := by
  obtain ⟨h1, h2, h3⟩ := code_bits l hl (3 * l.length) (Nat.le_refl _)
  obtain ⟨a1, a2⟩ := lno_N (vld_at hL hi)
  have hb : ∀ b, b < 3 → bitZ (codeTo l (3 * l.length)) (3 * i + b) = if bits BinOp.and IntKind.i64 ((lnoN (atb l i) : Int) / 2 ^ (2 - b)) 1 == 1 then 1 else 0 := fun b hb => by
    rw [bitZ_B h1, h3 _ (by omega), decide_eq_true (by omega), Bool.true_and]
    unfold onB bitOn
    rw [show (3 * i + b) / 3 = i by omega, show (3 * i + b) % 3 = b by omega, a1]
  unfold pz
  unfold pz
  unfold pz
  rw [show pz (codeTo l (3 * l.length)) i 0 = 0 from rfl, hb 0 (by omega), hb 1 (by omega), hb 2 (by omega)]
  exact three_bits _ a2
theorem code_word (l : List UInt8) (hl : l.length ≤ 40) (hL : ∀ x ∈ l, Wd.isL x = true) : ∀ k, k ≤ l.length → wl (codeTo l (3 * l.length)) k = l.take k
  | 0, _ => rfl
  | k + 1, hk => by
    unfold wl
    rw [code_word l hl hL k (by omega), code_letter l hl hL k (by omega), Int.toNat_natCast, (letter_at _ (vld_at hL (by omega))).2.1, take_atb (by omega)]
theorem code_back (l : List UInt8) (hl : l.length ≤ 40) (hL : ∀ x ∈ l, Wd.isL x = true) : Byz (codeTo l (3 * l.length)) ∧ nth (codeTo l (3 * l.length)) 0 = l.length ∧ wocW (codeTo l (3 * l.length)) l.length = l ∧ wocC (codeTo l (3 * l.length)) l.length = 0 := by
  obtain ⟨h1, h2, h3⟩ := code_bits l hl (3 * l.length) (Nat.le_refl _)
  have hw := code_word l hl hL l.length (Nat.le_refl _)
  rw [List.take_length] at hw
  refine ⟨fun j => ?_, h2, ?_, ?_⟩
  · obtain ⟨z, hz, hz2⟩ := h1 j
    rw [hz]; omega
  · unfold wocW; rw [hw]; simp
  · unfold wocC; rw [hw]; simp
theorem code_inj {u l : List UInt8} (hu : u.length ≤ 40) (hU : ∀ x ∈ u, Wd.isL x = true) (hl : l.length ≤ 40) (hL : ∀ x ∈ l, Wd.isL x = true) (h : codeTo u (3 * u.length) = codeTo l (3 * l.length)) : u = l := by
  obtain ⟨_, a1, a2, _⟩ := code_back u hu hU
  obtain ⟨_, b1, b2, _⟩ := code_back l hl hL
  rw [h] at a1 a2
  have hlen : u.length = l.length := by omega
  rw [hlen] at a2
  rw [← a2, b2]
end Go.Proofs.Ytejmbbnhdojcbaa
