/- In how many ways a reduced word goes on; CountReduced. The walks of both sides and of the law. Conditions: none. -/
import Derived.Test.YtejmbbnhdojcbaaSmall
namespace Go.Proofs.Ytejmbbnhdojcbaa
open Go.RowKit
set_option linter.unusedVariables false

/-- The ways of a length n over g generators, behind a letter or at the beginning. -/
def wy (g : Int) (b : Bool) : Nat → Int
  | 0 => 1
  | n + 1 => wy g b n * (if n = 0 ∧ b = false then 2 * g else 2 * g - 1)
theorem wy_zero (g : Int) (b : Bool) : wy g b 0 = 1 := rfl
theorem wy_first (g : Int) : wy g false 1 = 2 * g := by simp [wy]
theorem wy_next (g : Int) (b : Bool) (n : Nat) (h : n ≠ 0 ∨ b = true) : wy g b (n + 1) = wy g b n * (2 * g - 1) := by
  rcases h with h | h <;> simp [wy, h]
theorem wy_le {g : Int} {b : Bool} (hg : 1 ≤ g) (hg4 : g ≤ 4) : ∀ n : Nat, 1 ≤ wy g b n ∧ wy g b n ≤ 8 ^ n
  | 0 => by simp [wy]
  | n + 1 => by
    obtain ⟨h1, h2⟩ := wy_le (b := b) hg hg4 n
    have e : (8 : Int) ^ (n + 1) = 8 ^ n * 8 := Int.pow_succ 8 n
    rw [e]
    unfold wy
    generalize wy g b n = p at *
    generalize (8 : Int) ^ n = q at *
    have : 1 ≤ (if n = 0 ∧ b = false then 2 * g else 2 * g - 1) ∧ (if n = 0 ∧ b = false then 2 * g else 2 * g - 1) ≤ 8 := by split <;> omega
    generalize (if n = 0 ∧ b = false then 2 * g else 2 * g - 1) = r at *
    have l : p * r ≤ q * 8 := Int.mul_le_mul h2 this.2 (by omega) (by omega)
    have l2 : 1 * 1 ≤ p * r := Int.mul_le_mul h1 this.1 (by omega) (by omega)
    exact ⟨by omega, l⟩
theorem wy_lim {g : Int} {b : Bool} (hg : 1 ≤ g) (hg4 : g ≤ 4) (n : Nat) (hn : n ≤ 12) : 1 ≤ wy g b n ∧ wy g b n ≤ 68719476736 := by
  obtain ⟨h1, h2⟩ := wy_le (b := b) hg hg4 n
  have : (8 : Int) ^ n ≤ 8 ^ 12 := by
    have := Nat.pow_le_pow_right (n := 8) (by omega) hn
    exact_mod_cast this
  exact ⟨h1, by have e : (8 : Int) ^ 12 = 68719476736 := by decide
                omega⟩

set_option maxHeartbeats 800000 in
theorem sWays_1_false (n : Nat) (hn : n ≤ 12) (w : World) :
    Calls Try.prog 50 #[.int .i64 1, .int .i64 n, .bool false] w fun e w' => e = .returned (.int .i64 (wy 1 false n)) ∧ w = w' := by
  go_enter Try.func50, Try.ntmps50
  go_wp2
  go_loopw [7, 8] (fun p i wr => ∃ k : Nat, k ≤ n ∧ i = .int .i64 k ∧ p = .int .i64 (wy 1 false k) ∧ wr = w) (fun _ i _ => n - (intOf i).toNat)
  case atStart => exact ⟨0, by omega, rfl, rfl, rfl⟩
  case round =>
    obtain ⟨k, hk, rfl, rfl, rfl⟩ := hrel
    have i0 : (0 : Int) ≤ k := by omega
    by_cases g1 : k < n
    · have i1 : (k : Int) < n := by omega
      obtain ⟨b1, b2⟩ := wy_lim (g := 1) (b := false) (by omega) (by omega) k (by omega)
      by_cases g2 : k = 0
      · subst g2
        have d : ((0 : Nat) : Int) = 0 := rfl
        have e : wy 1 false 1 = 2 := by simp [wy]
        have E := Lib.hid e
        clear e b1 b2
        rw [wy_zero]
        go_wp2
        go_roundw
        case rel => exact ⟨1, by omega, rfl, by rw [E.out], trivial⟩
        case measure => simp [intOf]; omega
      · have d : ((k : Int) == 0) = false := by rw [beq_eq_false_iff_ne]; omega
        have d2 : decide (k ≠ 0) = true := by simp [g2]
        have e : wy 1 false (k + 1) = wy 1 false k := by rw [wy_next 1 false k (.inl g2)]; omega
        have E := Lib.hid e
        clear e
        generalize wy 1 false k = p at *
        go_wp2
        go_roundw
        case rel => exact ⟨k + 1, by omega, by go_num, by rw [E.out], trivial⟩
        case measure => simp [intOf]; omega
    · obtain rfl : k = n := by omega
      go_wp2
      go_ret
      exact ⟨rfl, rfl⟩

set_option maxHeartbeats 800000 in
theorem iWays_1_false (n : Nat) (hn : n ≤ 12) (w : World) :
    Calls Try.prog 42 #[.int .i64 1, .int .i64 n, .bool false] w fun e w' => e = .returned (.int .i64 (wy 1 false n)) ∧ w = w' := by
  go_enter Try.func42, Try.ntmps42
  go_wp2
  go_loopw [2, 7, 9] (fun c p i wr => ∃ k : Nat, k ≤ n ∧ i = .int .i64 k ∧ p = .int .i64 (wy 1 false k) ∧ c = .bool (decide (k ≠ 0)) ∧ wr = w) (fun _ _ i _ => n - (intOf i).toNat)
  case atStart => exact ⟨0, by omega, rfl, rfl, rfl, rfl⟩
  case round =>
    obtain ⟨k, hk, rfl, rfl, rfl, rfl⟩ := hrel
    have i0 : (0 : Int) ≤ k := by omega
    by_cases g1 : k < n
    · have i1 : (k : Int) < n := by omega
      obtain ⟨b1, b2⟩ := wy_lim (g := 1) (b := false) (by omega) (by omega) k (by omega)
      by_cases g2 : k = 0
      · subst g2
        have d : ((0 : Nat) : Int) = 0 := rfl
        have e : wy 1 false 1 = 2 := by simp [wy]
        have E := Lib.hid e
        clear e b1 b2
        rw [wy_zero]
        go_wp2
        go_roundw
        case rel => exact ⟨1, by omega, rfl, by rw [E.out], by simp, trivial⟩
        case measure => simp [intOf]; omega
      · have d : ((k : Int) == 0) = false := by rw [beq_eq_false_iff_ne]; omega
        have d2 : decide (k ≠ 0) = true := by simp [g2]
        have e : wy 1 false (k + 1) = wy 1 false k := by rw [wy_next 1 false k (.inl g2)]; omega
        have E := Lib.hid e
        clear e
        generalize wy 1 false k = p at *
        go_wp2
        go_roundw
        case rel => exact ⟨k + 1, by omega, by go_num, by rw [E.out], by simp, trivial⟩
        case measure => simp [intOf]; omega
    · obtain rfl : k = n := by omega
      go_wp2
      go_ret
      exact ⟨rfl, rfl⟩

set_option maxHeartbeats 800000 in
theorem sWays_1_true (n : Nat) (hn : n ≤ 12) (w : World) :
    Calls Try.prog 50 #[.int .i64 1, .int .i64 n, .bool true] w fun e w' => e = .returned (.int .i64 (wy 1 true n)) ∧ w = w' := by
  go_enter Try.func50, Try.ntmps50
  go_wp2
  go_loopw [7, 8] (fun p i wr => ∃ k : Nat, k ≤ n ∧ i = .int .i64 k ∧ p = .int .i64 (wy 1 true k) ∧ wr = w) (fun _ i _ => n - (intOf i).toNat)
  case atStart => exact ⟨0, by omega, rfl, rfl, rfl⟩
  case round =>
    obtain ⟨k, hk, rfl, rfl, rfl⟩ := hrel
    have i0 : (0 : Int) ≤ k := by omega
    by_cases g1 : k < n
    · have i1 : (k : Int) < n := by omega
      obtain ⟨b1, b2⟩ := wy_lim (g := 1) (b := true) (by omega) (by omega) k (by omega)
      by_cases g2 : k = 0
      · subst g2
        have d : ((0 : Nat) : Int) = 0 := rfl
        have e : wy 1 true 1 = 1 := by simp [wy]
        have E := Lib.hid e
        clear e b1 b2
        rw [wy_zero]
        go_wp2
        go_roundw
        case rel => exact ⟨1, by omega, rfl, by rw [E.out], trivial⟩
        case measure => simp [intOf]; omega
      · have d : ((k : Int) == 0) = false := by rw [beq_eq_false_iff_ne]; omega
        have d2 : decide (k ≠ 0) = true := by simp [g2]
        have e : wy 1 true (k + 1) = wy 1 true k := by rw [wy_next 1 true k (.inl g2)]; omega
        have E := Lib.hid e
        clear e
        generalize wy 1 true k = p at *
        go_wp2
        go_roundw
        case rel => exact ⟨k + 1, by omega, by go_num, by rw [E.out], trivial⟩
        case measure => simp [intOf]; omega
    · obtain rfl : k = n := by omega
      go_wp2
      go_ret
      exact ⟨rfl, rfl⟩

set_option maxHeartbeats 800000 in
theorem iWays_1_true (n : Nat) (hn : n ≤ 12) (w : World) :
    Calls Try.prog 42 #[.int .i64 1, .int .i64 n, .bool true] w fun e w' => e = .returned (.int .i64 (wy 1 true n)) ∧ w = w' := by
  go_enter Try.func42, Try.ntmps42
  go_wp2
  go_loopw [2, 7, 9] (fun c p i wr => ∃ k : Nat, k ≤ n ∧ i = .int .i64 k ∧ p = .int .i64 (wy 1 true k) ∧ c = .bool (true) ∧ wr = w) (fun _ _ i _ => n - (intOf i).toNat)
  case atStart => exact ⟨0, by omega, rfl, rfl, rfl, rfl⟩
  case round =>
    obtain ⟨k, hk, rfl, rfl, rfl, rfl⟩ := hrel
    have i0 : (0 : Int) ≤ k := by omega
    by_cases g1 : k < n
    · have i1 : (k : Int) < n := by omega
      obtain ⟨b1, b2⟩ := wy_lim (g := 1) (b := true) (by omega) (by omega) k (by omega)
      by_cases g2 : k = 0
      · subst g2
        have d : ((0 : Nat) : Int) = 0 := rfl
        have e : wy 1 true 1 = 1 := by simp [wy]
        have E := Lib.hid e
        clear e b1 b2
        rw [wy_zero]
        go_wp2
        go_roundw
        case rel => exact ⟨1, by omega, rfl, by rw [E.out], by simp, trivial⟩
        case measure => simp [intOf]; omega
      · have d : ((k : Int) == 0) = false := by rw [beq_eq_false_iff_ne]; omega
        have d2 : decide (k ≠ 0) = true := by simp [g2]
        have e : wy 1 true (k + 1) = wy 1 true k := by rw [wy_next 1 true k (.inl g2)]; omega
        have E := Lib.hid e
        clear e
        generalize wy 1 true k = p at *
        go_wp2
        go_roundw
        case rel => exact ⟨k + 1, by omega, by go_num, by rw [E.out], by simp, trivial⟩
        case measure => simp [intOf]; omega
    · obtain rfl : k = n := by omega
      go_wp2
      go_ret
      exact ⟨rfl, rfl⟩

set_option maxHeartbeats 800000 in
theorem sWays_2_false (n : Nat) (hn : n ≤ 12) (w : World) :
    Calls Try.prog 50 #[.int .i64 2, .int .i64 n, .bool false] w fun e w' => e = .returned (.int .i64 (wy 2 false n)) ∧ w = w' := by
  go_enter Try.func50, Try.ntmps50
  go_wp2
  go_loopw [7, 8] (fun p i wr => ∃ k : Nat, k ≤ n ∧ i = .int .i64 k ∧ p = .int .i64 (wy 2 false k) ∧ wr = w) (fun _ i _ => n - (intOf i).toNat)
  case atStart => exact ⟨0, by omega, rfl, rfl, rfl⟩
  case round =>
    obtain ⟨k, hk, rfl, rfl, rfl⟩ := hrel
    have i0 : (0 : Int) ≤ k := by omega
    by_cases g1 : k < n
    · have i1 : (k : Int) < n := by omega
      obtain ⟨b1, b2⟩ := wy_lim (g := 2) (b := false) (by omega) (by omega) k (by omega)
      by_cases g2 : k = 0
      · subst g2
        have d : ((0 : Nat) : Int) = 0 := rfl
        have e : wy 2 false 1 = 4 := by simp [wy]
        have E := Lib.hid e
        clear e b1 b2
        rw [wy_zero]
        go_wp2
        go_roundw
        case rel => exact ⟨1, by omega, rfl, by rw [E.out], trivial⟩
        case measure => simp [intOf]; omega
      · have d : ((k : Int) == 0) = false := by rw [beq_eq_false_iff_ne]; omega
        have d2 : decide (k ≠ 0) = true := by simp [g2]
        have e : wy 2 false (k + 1) = wy 2 false k * 3 := by rw [wy_next 2 false k (.inl g2)]; omega
        have E := Lib.hid e
        clear e
        generalize wy 2 false k = p at *
        go_wp2
        go_roundw
        case rel => exact ⟨k + 1, by omega, by go_num, by rw [E.out], trivial⟩
        case measure => simp [intOf]; omega
    · obtain rfl : k = n := by omega
      go_wp2
      go_ret
      exact ⟨rfl, rfl⟩

set_option maxHeartbeats 800000 in
theorem iWays_2_false (n : Nat) (hn : n ≤ 12) (w : World) :
    Calls Try.prog 42 #[.int .i64 2, .int .i64 n, .bool false] w fun e w' => e = .returned (.int .i64 (wy 2 false n)) ∧ w = w' := by
  go_enter Try.func42, Try.ntmps42
  go_wp2
  go_loopw [2, 7, 9] (fun c p i wr => ∃ k : Nat, k ≤ n ∧ i = .int .i64 k ∧ p = .int .i64 (wy 2 false k) ∧ c = .bool (decide (k ≠ 0)) ∧ wr = w) (fun _ _ i _ => n - (intOf i).toNat)
  case atStart => exact ⟨0, by omega, rfl, rfl, rfl, rfl⟩
  case round =>
    obtain ⟨k, hk, rfl, rfl, rfl, rfl⟩ := hrel
    have i0 : (0 : Int) ≤ k := by omega
    by_cases g1 : k < n
    · have i1 : (k : Int) < n := by omega
      obtain ⟨b1, b2⟩ := wy_lim (g := 2) (b := false) (by omega) (by omega) k (by omega)
      by_cases g2 : k = 0
      · subst g2
        have d : ((0 : Nat) : Int) = 0 := rfl
        have e : wy 2 false 1 = 4 := by simp [wy]
        have E := Lib.hid e
        clear e b1 b2
        rw [wy_zero]
        go_wp2
        go_roundw
        case rel => exact ⟨1, by omega, rfl, by rw [E.out], by simp, trivial⟩
        case measure => simp [intOf]; omega
      · have d : ((k : Int) == 0) = false := by rw [beq_eq_false_iff_ne]; omega
        have d2 : decide (k ≠ 0) = true := by simp [g2]
        have e : wy 2 false (k + 1) = wy 2 false k * 3 := by rw [wy_next 2 false k (.inl g2)]; omega
        have E := Lib.hid e
        clear e
        generalize wy 2 false k = p at *
        go_wp2
        go_roundw
        case rel => exact ⟨k + 1, by omega, by go_num, by rw [E.out], by simp, trivial⟩
        case measure => simp [intOf]; omega
    · obtain rfl : k = n := by omega
      go_wp2
      go_ret
      exact ⟨rfl, rfl⟩

set_option maxHeartbeats 800000 in
theorem sWays_2_true (n : Nat) (hn : n ≤ 12) (w : World) :
    Calls Try.prog 50 #[.int .i64 2, .int .i64 n, .bool true] w fun e w' => e = .returned (.int .i64 (wy 2 true n)) ∧ w = w' := by
  go_enter Try.func50, Try.ntmps50
  go_wp2
  go_loopw [7, 8] (fun p i wr => ∃ k : Nat, k ≤ n ∧ i = .int .i64 k ∧ p = .int .i64 (wy 2 true k) ∧ wr = w) (fun _ i _ => n - (intOf i).toNat)
  case atStart => exact ⟨0, by omega, rfl, rfl, rfl⟩
  case round =>
    obtain ⟨k, hk, rfl, rfl, rfl⟩ := hrel
    have i0 : (0 : Int) ≤ k := by omega
    by_cases g1 : k < n
    · have i1 : (k : Int) < n := by omega
      obtain ⟨b1, b2⟩ := wy_lim (g := 2) (b := true) (by omega) (by omega) k (by omega)
      by_cases g2 : k = 0
      · subst g2
        have d : ((0 : Nat) : Int) = 0 := rfl
        have e : wy 2 true 1 = 3 := by simp [wy]
        have E := Lib.hid e
        clear e b1 b2
        rw [wy_zero]
        go_wp2
        go_roundw
        case rel => exact ⟨1, by omega, rfl, by rw [E.out], trivial⟩
        case measure => simp [intOf]; omega
      · have d : ((k : Int) == 0) = false := by rw [beq_eq_false_iff_ne]; omega
        have d2 : decide (k ≠ 0) = true := by simp [g2]
        have e : wy 2 true (k + 1) = wy 2 true k * 3 := by rw [wy_next 2 true k (.inl g2)]; omega
        have E := Lib.hid e
        clear e
        generalize wy 2 true k = p at *
        go_wp2
        go_roundw
        case rel => exact ⟨k + 1, by omega, by go_num, by rw [E.out], trivial⟩
        case measure => simp [intOf]; omega
    · obtain rfl : k = n := by omega
      go_wp2
      go_ret
      exact ⟨rfl, rfl⟩

set_option maxHeartbeats 800000 in
theorem iWays_2_true (n : Nat) (hn : n ≤ 12) (w : World) :
    Calls Try.prog 42 #[.int .i64 2, .int .i64 n, .bool true] w fun e w' => e = .returned (.int .i64 (wy 2 true n)) ∧ w = w' := by
  go_enter Try.func42, Try.ntmps42
  go_wp2
  go_loopw [2, 7, 9] (fun c p i wr => ∃ k : Nat, k ≤ n ∧ i = .int .i64 k ∧ p = .int .i64 (wy 2 true k) ∧ c = .bool (true) ∧ wr = w) (fun _ _ i _ => n - (intOf i).toNat)
  case atStart => exact ⟨0, by omega, rfl, rfl, rfl, rfl⟩
  case round =>
    obtain ⟨k, hk, rfl, rfl, rfl, rfl⟩ := hrel
    have i0 : (0 : Int) ≤ k := by omega
    by_cases g1 : k < n
    · have i1 : (k : Int) < n := by omega
      obtain ⟨b1, b2⟩ := wy_lim (g := 2) (b := true) (by omega) (by omega) k (by omega)
      by_cases g2 : k = 0
      · subst g2
        have d : ((0 : Nat) : Int) = 0 := rfl
        have e : wy 2 true 1 = 3 := by simp [wy]
        have E := Lib.hid e
        clear e b1 b2
        rw [wy_zero]
        go_wp2
        go_roundw
        case rel => exact ⟨1, by omega, rfl, by rw [E.out], by simp, trivial⟩
        case measure => simp [intOf]; omega
      · have d : ((k : Int) == 0) = false := by rw [beq_eq_false_iff_ne]; omega
        have d2 : decide (k ≠ 0) = true := by simp [g2]
        have e : wy 2 true (k + 1) = wy 2 true k * 3 := by rw [wy_next 2 true k (.inl g2)]; omega
        have E := Lib.hid e
        clear e
        generalize wy 2 true k = p at *
        go_wp2
        go_roundw
        case rel => exact ⟨k + 1, by omega, by go_num, by rw [E.out], by simp, trivial⟩
        case measure => simp [intOf]; omega
    · obtain rfl : k = n := by omega
      go_wp2
      go_ret
      exact ⟨rfl, rfl⟩

set_option maxHeartbeats 800000 in
theorem sWays_3_false (n : Nat) (hn : n ≤ 12) (w : World) :
    Calls Try.prog 50 #[.int .i64 3, .int .i64 n, .bool false] w fun e w' => e = .returned (.int .i64 (wy 3 false n)) ∧ w = w' := by
  go_enter Try.func50, Try.ntmps50
  go_wp2
  go_loopw [7, 8] (fun p i wr => ∃ k : Nat, k ≤ n ∧ i = .int .i64 k ∧ p = .int .i64 (wy 3 false k) ∧ wr = w) (fun _ i _ => n - (intOf i).toNat)
  case atStart => exact ⟨0, by omega, rfl, rfl, rfl⟩
  case round =>
    obtain ⟨k, hk, rfl, rfl, rfl⟩ := hrel
    have i0 : (0 : Int) ≤ k := by omega
    by_cases g1 : k < n
    · have i1 : (k : Int) < n := by omega
      obtain ⟨b1, b2⟩ := wy_lim (g := 3) (b := false) (by omega) (by omega) k (by omega)
      by_cases g2 : k = 0
      · subst g2
        have d : ((0 : Nat) : Int) = 0 := rfl
        have e : wy 3 false 1 = 6 := by simp [wy]
        have E := Lib.hid e
        clear e b1 b2
        rw [wy_zero]
        go_wp2
        go_roundw
        case rel => exact ⟨1, by omega, rfl, by rw [E.out], trivial⟩
        case measure => simp [intOf]; omega
      · have d : ((k : Int) == 0) = false := by rw [beq_eq_false_iff_ne]; omega
        have d2 : decide (k ≠ 0) = true := by simp [g2]
        have e : wy 3 false (k + 1) = wy 3 false k * 5 := by rw [wy_next 3 false k (.inl g2)]; omega
        have E := Lib.hid e
        clear e
        generalize wy 3 false k = p at *
        go_wp2
        go_roundw
        case rel => exact ⟨k + 1, by omega, by go_num, by rw [E.out], trivial⟩
        case measure => simp [intOf]; omega
    · obtain rfl : k = n := by omega
      go_wp2
      go_ret
      exact ⟨rfl, rfl⟩

set_option maxHeartbeats 800000 in
theorem iWays_3_false (n : Nat) (hn : n ≤ 12) (w : World) :
    Calls Try.prog 42 #[.int .i64 3, .int .i64 n, .bool false] w fun e w' => e = .returned (.int .i64 (wy 3 false n)) ∧ w = w' := by
  go_enter Try.func42, Try.ntmps42
  go_wp2
  go_loopw [2, 7, 9] (fun c p i wr => ∃ k : Nat, k ≤ n ∧ i = .int .i64 k ∧ p = .int .i64 (wy 3 false k) ∧ c = .bool (decide (k ≠ 0)) ∧ wr = w) (fun _ _ i _ => n - (intOf i).toNat)
  case atStart => exact ⟨0, by omega, rfl, rfl, rfl, rfl⟩
  case round =>
    obtain ⟨k, hk, rfl, rfl, rfl, rfl⟩ := hrel
    have i0 : (0 : Int) ≤ k := by omega
    by_cases g1 : k < n
    · have i1 : (k : Int) < n := by omega
      obtain ⟨b1, b2⟩ := wy_lim (g := 3) (b := false) (by omega) (by omega) k (by omega)
      by_cases g2 : k = 0
      · subst g2
        have d : ((0 : Nat) : Int) = 0 := rfl
        have e : wy 3 false 1 = 6 := by simp [wy]
        have E := Lib.hid e
        clear e b1 b2
        rw [wy_zero]
        go_wp2
        go_roundw
        case rel => exact ⟨1, by omega, rfl, by rw [E.out], by simp, trivial⟩
        case measure => simp [intOf]; omega
      · have d : ((k : Int) == 0) = false := by rw [beq_eq_false_iff_ne]; omega
        have d2 : decide (k ≠ 0) = true := by simp [g2]
        have e : wy 3 false (k + 1) = wy 3 false k * 5 := by rw [wy_next 3 false k (.inl g2)]; omega
        have E := Lib.hid e
        clear e
        generalize wy 3 false k = p at *
        go_wp2
        go_roundw
        case rel => exact ⟨k + 1, by omega, by go_num, by rw [E.out], by simp, trivial⟩
        case measure => simp [intOf]; omega
    · obtain rfl : k = n := by omega
      go_wp2
      go_ret
      exact ⟨rfl, rfl⟩

set_option maxHeartbeats 800000 in
theorem sWays_3_true (n : Nat) (hn : n ≤ 12) (w : World) :
    Calls Try.prog 50 #[.int .i64 3, .int .i64 n, .bool true] w fun e w' => e = .returned (.int .i64 (wy 3 true n)) ∧ w = w' := by
  go_enter Try.func50, Try.ntmps50
  go_wp2
  go_loopw [7, 8] (fun p i wr => ∃ k : Nat, k ≤ n ∧ i = .int .i64 k ∧ p = .int .i64 (wy 3 true k) ∧ wr = w) (fun _ i _ => n - (intOf i).toNat)
  case atStart => exact ⟨0, by omega, rfl, rfl, rfl⟩
  case round =>
    obtain ⟨k, hk, rfl, rfl, rfl⟩ := hrel
    have i0 : (0 : Int) ≤ k := by omega
    by_cases g1 : k < n
    · have i1 : (k : Int) < n := by omega
      obtain ⟨b1, b2⟩ := wy_lim (g := 3) (b := true) (by omega) (by omega) k (by omega)
      by_cases g2 : k = 0
      · subst g2
        have d : ((0 : Nat) : Int) = 0 := rfl
        have e : wy 3 true 1 = 5 := by simp [wy]
        have E := Lib.hid e
        clear e b1 b2
        rw [wy_zero]
        go_wp2
        go_roundw
        case rel => exact ⟨1, by omega, rfl, by rw [E.out], trivial⟩
        case measure => simp [intOf]; omega
      · have d : ((k : Int) == 0) = false := by rw [beq_eq_false_iff_ne]; omega
        have d2 : decide (k ≠ 0) = true := by simp [g2]
        have e : wy 3 true (k + 1) = wy 3 true k * 5 := by rw [wy_next 3 true k (.inl g2)]; omega
        have E := Lib.hid e
        clear e
        generalize wy 3 true k = p at *
        go_wp2
        go_roundw
        case rel => exact ⟨k + 1, by omega, by go_num, by rw [E.out], trivial⟩
        case measure => simp [intOf]; omega
    · obtain rfl : k = n := by omega
      go_wp2
      go_ret
      exact ⟨rfl, rfl⟩

set_option maxHeartbeats 800000 in
theorem iWays_3_true (n : Nat) (hn : n ≤ 12) (w : World) :
    Calls Try.prog 42 #[.int .i64 3, .int .i64 n, .bool true] w fun e w' => e = .returned (.int .i64 (wy 3 true n)) ∧ w = w' := by
  go_enter Try.func42, Try.ntmps42
  go_wp2
  go_loopw [2, 7, 9] (fun c p i wr => ∃ k : Nat, k ≤ n ∧ i = .int .i64 k ∧ p = .int .i64 (wy 3 true k) ∧ c = .bool (true) ∧ wr = w) (fun _ _ i _ => n - (intOf i).toNat)
  case atStart => exact ⟨0, by omega, rfl, rfl, rfl, rfl⟩
  case round =>
    obtain ⟨k, hk, rfl, rfl, rfl, rfl⟩ := hrel
    have i0 : (0 : Int) ≤ k := by omega
    by_cases g1 : k < n
    · have i1 : (k : Int) < n := by omega
      obtain ⟨b1, b2⟩ := wy_lim (g := 3) (b := true) (by omega) (by omega) k (by omega)
      by_cases g2 : k = 0
      · subst g2
        have d : ((0 : Nat) : Int) = 0 := rfl
        have e : wy 3 true 1 = 5 := by simp [wy]
        have E := Lib.hid e
        clear e b1 b2
        rw [wy_zero]
        go_wp2
        go_roundw
        case rel => exact ⟨1, by omega, rfl, by rw [E.out], by simp, trivial⟩
        case measure => simp [intOf]; omega
      · have d : ((k : Int) == 0) = false := by rw [beq_eq_false_iff_ne]; omega
        have d2 : decide (k ≠ 0) = true := by simp [g2]
        have e : wy 3 true (k + 1) = wy 3 true k * 5 := by rw [wy_next 3 true k (.inl g2)]; omega
        have E := Lib.hid e
        clear e
        generalize wy 3 true k = p at *
        go_wp2
        go_roundw
        case rel => exact ⟨k + 1, by omega, by go_num, by rw [E.out], by simp, trivial⟩
        case measure => simp [intOf]; omega
    · obtain rfl : k = n := by omega
      go_wp2
      go_ret
      exact ⟨rfl, rfl⟩

set_option maxHeartbeats 800000 in
theorem sWays_4_false (n : Nat) (hn : n ≤ 12) (w : World) :
    Calls Try.prog 50 #[.int .i64 4, .int .i64 n, .bool false] w fun e w' => e = .returned (.int .i64 (wy 4 false n)) ∧ w = w' := by
  go_enter Try.func50, Try.ntmps50
  go_wp2
  go_loopw [7, 8] (fun p i wr => ∃ k : Nat, k ≤ n ∧ i = .int .i64 k ∧ p = .int .i64 (wy 4 false k) ∧ wr = w) (fun _ i _ => n - (intOf i).toNat)
  case atStart => exact ⟨0, by omega, rfl, rfl, rfl⟩
  case round =>
    obtain ⟨k, hk, rfl, rfl, rfl⟩ := hrel
    have i0 : (0 : Int) ≤ k := by omega
    by_cases g1 : k < n
    · have i1 : (k : Int) < n := by omega
      obtain ⟨b1, b2⟩ := wy_lim (g := 4) (b := false) (by omega) (by omega) k (by omega)
      by_cases g2 : k = 0
      · subst g2
        have d : ((0 : Nat) : Int) = 0 := rfl
        have e : wy 4 false 1 = 8 := by simp [wy]
        have E := Lib.hid e
        clear e b1 b2
        rw [wy_zero]
        go_wp2
        go_roundw
        case rel => exact ⟨1, by omega, rfl, by rw [E.out], trivial⟩
        case measure => simp [intOf]; omega
      · have d : ((k : Int) == 0) = false := by rw [beq_eq_false_iff_ne]; omega
        have d2 : decide (k ≠ 0) = true := by simp [g2]
        have e : wy 4 false (k + 1) = wy 4 false k * 7 := by rw [wy_next 4 false k (.inl g2)]; omega
        have E := Lib.hid e
        clear e
        generalize wy 4 false k = p at *
        go_wp2
        go_roundw
        case rel => exact ⟨k + 1, by omega, by go_num, by rw [E.out], trivial⟩
        case measure => simp [intOf]; omega
    · obtain rfl : k = n := by omega
      go_wp2
      go_ret
      exact ⟨rfl, rfl⟩

set_option maxHeartbeats 800000 in
theorem iWays_4_false (n : Nat) (hn : n ≤ 12) (w : World) :
    Calls Try.prog 42 #[.int .i64 4, .int .i64 n, .bool false] w fun e w' => e = .returned (.int .i64 (wy 4 false n)) ∧ w = w' := by
  go_enter Try.func42, Try.ntmps42
  go_wp2
  go_loopw [2, 7, 9] (fun c p i wr => ∃ k : Nat, k ≤ n ∧ i = .int .i64 k ∧ p = .int .i64 (wy 4 false k) ∧ c = .bool (decide (k ≠ 0)) ∧ wr = w) (fun _ _ i _ => n - (intOf i).toNat)
  case atStart => exact ⟨0, by omega, rfl, rfl, rfl, rfl⟩
  case round =>
    obtain ⟨k, hk, rfl, rfl, rfl, rfl⟩ := hrel
    have i0 : (0 : Int) ≤ k := by omega
    by_cases g1 : k < n
    · have i1 : (k : Int) < n := by omega
      obtain ⟨b1, b2⟩ := wy_lim (g := 4) (b := false) (by omega) (by omega) k (by omega)
      by_cases g2 : k = 0
      · subst g2
        have d : ((0 : Nat) : Int) = 0 := rfl
        have e : wy 4 false 1 = 8 := by simp [wy]
        have E := Lib.hid e
        clear e b1 b2
        rw [wy_zero]
        go_wp2
        go_roundw
        case rel => exact ⟨1, by omega, rfl, by rw [E.out], by simp, trivial⟩
        case measure => simp [intOf]; omega
      · have d : ((k : Int) == 0) = false := by rw [beq_eq_false_iff_ne]; omega
        have d2 : decide (k ≠ 0) = true := by simp [g2]
        have e : wy 4 false (k + 1) = wy 4 false k * 7 := by rw [wy_next 4 false k (.inl g2)]; omega
        have E := Lib.hid e
        clear e
        generalize wy 4 false k = p at *
        go_wp2
        go_roundw
        case rel => exact ⟨k + 1, by omega, by go_num, by rw [E.out], by simp, trivial⟩
        case measure => simp [intOf]; omega
    · obtain rfl : k = n := by omega
      go_wp2
      go_ret
      exact ⟨rfl, rfl⟩

set_option maxHeartbeats 800000 in
theorem sWays_4_true (n : Nat) (hn : n ≤ 12) (w : World) :
    Calls Try.prog 50 #[.int .i64 4, .int .i64 n, .bool true] w fun e w' => e = .returned (.int .i64 (wy 4 true n)) ∧ w = w' := by
  go_enter Try.func50, Try.ntmps50
  go_wp2
  go_loopw [7, 8] (fun p i wr => ∃ k : Nat, k ≤ n ∧ i = .int .i64 k ∧ p = .int .i64 (wy 4 true k) ∧ wr = w) (fun _ i _ => n - (intOf i).toNat)
  case atStart => exact ⟨0, by omega, rfl, rfl, rfl⟩
  case round =>
    obtain ⟨k, hk, rfl, rfl, rfl⟩ := hrel
    have i0 : (0 : Int) ≤ k := by omega
    by_cases g1 : k < n
    · have i1 : (k : Int) < n := by omega
      obtain ⟨b1, b2⟩ := wy_lim (g := 4) (b := true) (by omega) (by omega) k (by omega)
      by_cases g2 : k = 0
      · subst g2
        have d : ((0 : Nat) : Int) = 0 := rfl
        have e : wy 4 true 1 = 7 := by simp [wy]
        have E := Lib.hid e
        clear e b1 b2
        rw [wy_zero]
        go_wp2
        go_roundw
        case rel => exact ⟨1, by omega, rfl, by rw [E.out], trivial⟩
        case measure => simp [intOf]; omega
      · have d : ((k : Int) == 0) = false := by rw [beq_eq_false_iff_ne]; omega
        have d2 : decide (k ≠ 0) = true := by simp [g2]
        have e : wy 4 true (k + 1) = wy 4 true k * 7 := by rw [wy_next 4 true k (.inl g2)]; omega
        have E := Lib.hid e
        clear e
        generalize wy 4 true k = p at *
        go_wp2
        go_roundw
        case rel => exact ⟨k + 1, by omega, by go_num, by rw [E.out], trivial⟩
        case measure => simp [intOf]; omega
    · obtain rfl : k = n := by omega
      go_wp2
      go_ret
      exact ⟨rfl, rfl⟩

set_option maxHeartbeats 800000 in
theorem iWays_4_true (n : Nat) (hn : n ≤ 12) (w : World) :
    Calls Try.prog 42 #[.int .i64 4, .int .i64 n, .bool true] w fun e w' => e = .returned (.int .i64 (wy 4 true n)) ∧ w = w' := by
  go_enter Try.func42, Try.ntmps42
  go_wp2
  go_loopw [2, 7, 9] (fun c p i wr => ∃ k : Nat, k ≤ n ∧ i = .int .i64 k ∧ p = .int .i64 (wy 4 true k) ∧ c = .bool (true) ∧ wr = w) (fun _ _ i _ => n - (intOf i).toNat)
  case atStart => exact ⟨0, by omega, rfl, rfl, rfl, rfl⟩
  case round =>
    obtain ⟨k, hk, rfl, rfl, rfl, rfl⟩ := hrel
    have i0 : (0 : Int) ≤ k := by omega
    by_cases g1 : k < n
    · have i1 : (k : Int) < n := by omega
      obtain ⟨b1, b2⟩ := wy_lim (g := 4) (b := true) (by omega) (by omega) k (by omega)
      by_cases g2 : k = 0
      · subst g2
        have d : ((0 : Nat) : Int) = 0 := rfl
        have e : wy 4 true 1 = 7 := by simp [wy]
        have E := Lib.hid e
        clear e b1 b2
        rw [wy_zero]
        go_wp2
        go_roundw
        case rel => exact ⟨1, by omega, rfl, by rw [E.out], by simp, trivial⟩
        case measure => simp [intOf]; omega
      · have d : ((k : Int) == 0) = false := by rw [beq_eq_false_iff_ne]; omega
        have d2 : decide (k ≠ 0) = true := by simp [g2]
        have e : wy 4 true (k + 1) = wy 4 true k * 7 := by rw [wy_next 4 true k (.inl g2)]; omega
        have E := Lib.hid e
        clear e
        generalize wy 4 true k = p at *
        go_wp2
        go_roundw
        case rel => exact ⟨k + 1, by omega, by go_num, by rw [E.out], by simp, trivial⟩
        case measure => simp [intOf]; omega
    · obtain rfl : k = n := by omega
      go_wp2
      go_ret
      exact ⟨rfl, rfl⟩

theorem sWays_any (g : Int) (hg : 1 ≤ g) (hg4 : g ≤ 4) (b : Bool) (n : Nat) (hn : n ≤ 12) (w : World) :
    Calls Try.prog 50 #[.int .i64 g, .int .i64 n, .bool b] w fun e w' => e = .returned (.int .i64 (wy g b n)) ∧ w = w' := by
  obtain rfl | rfl | rfl | rfl : g = 1 ∨ g = 2 ∨ g = 3 ∨ g = 4 := by omega
  · cases b
    · exact sWays_1_false n hn w
    · exact sWays_1_true n hn w
  · cases b
    · exact sWays_2_false n hn w
    · exact sWays_2_true n hn w
  · cases b
    · exact sWays_3_false n hn w
    · exact sWays_3_true n hn w
  · cases b
    · exact sWays_4_false n hn w
    · exact sWays_4_true n hn w

theorem iWays_any (g : Int) (hg : 1 ≤ g) (hg4 : g ≤ 4) (b : Bool) (n : Nat) (hn : n ≤ 12) (w : World) :
    Calls Try.prog 42 #[.int .i64 g, .int .i64 n, .bool b] w fun e w' => e = .returned (.int .i64 (wy g b n)) ∧ w = w' := by
  obtain rfl | rfl | rfl | rfl : g = 1 ∨ g = 2 ∨ g = 3 ∨ g = 4 := by omega
  · cases b
    · exact iWays_1_false n hn w
    · exact iWays_1_true n hn w
  · cases b
    · exact iWays_2_false n hn w
    · exact iWays_2_true n hn w
  · cases b
    · exact iWays_3_false n hn w
    · exact iWays_3_true n hn w
  · cases b
    · exact iWays_4_false n hn w
    · exact iWays_4_true n hn w

/-- Is a number in a range? -/
def inr (x a b : Int) : Bool := decide (a ≤ x) && decide (x ≤ b)
set_option maxHeartbeats 400000 in
theorem iIn_lo (x a b : Int) (h : x < a) (w : World) :
    Calls Try.prog 41 #[.int .i64 x, .int .i64 a, .int .i64 b] w fun e w' => e = .returned (.bool false) ∧ w = w' := by
  have e1 : decide (a ≤ x) = false := by simp; omega
  have e2 : ¬ a ≤ x := by omega
  go_enter Try.func41, Try.ntmps41
  go_wp2
  go_ret
  exact ⟨rfl, rfl⟩

set_option maxHeartbeats 400000 in
theorem iIn_hi (x a b : Int) (h0 : a ≤ x) (h : b < x) (w : World) :
    Calls Try.prog 41 #[.int .i64 x, .int .i64 a, .int .i64 b] w fun e w' => e = .returned (.bool false) ∧ w = w' := by
  have e1 : decide (x ≤ b) = false := by simp; omega
  have e2 : ¬ x ≤ b := by omega
  go_enter Try.func41, Try.ntmps41
  go_wp2
  go_ret
  exact ⟨rfl, rfl⟩

set_option maxHeartbeats 400000 in
theorem iIn_in (x a b : Int) (h0 : a ≤ x) (h : x ≤ b) (w : World) :
    Calls Try.prog 41 #[.int .i64 x, .int .i64 a, .int .i64 b] w fun e w' => e = .returned (.bool true) ∧ w = w' := by
  go_enter Try.func41, Try.ntmps41
  go_wp2
  go_ret
  exact ⟨rfl, rfl⟩

theorem iIn_any (x a b : Int) (w : World) :
    Calls Try.prog 41 #[.int .i64 x, .int .i64 a, .int .i64 b] w fun e w' => e = .returned (.bool (inr x a b)) ∧ w = w' := by
  unfold inr
  by_cases h1 : x < a
  · rw [show (decide (a ≤ x) && decide (x ≤ b)) = false by simp; omega]; exact iIn_lo x a b h1 w
  · by_cases h2 : b < x
    · rw [show (decide (a ≤ x) && decide (x ≤ b)) = false by simp; omega]; exact iIn_hi x a b (by omega) h2 w
    · rw [show (decide (a ≤ x) && decide (x ≤ b)) = true by simp; omega]; exact iIn_in x a b (by omega) (by omega) w

set_option maxHeartbeats 400000 in
theorem sIn_lo (x a b : Int) (h : x < a) (w : World) :
    Calls Try.prog 49 #[.int .i64 x, .int .i64 a, .int .i64 b] w fun e w' => e = .returned (.bool false) ∧ w = w' := by
  have e1 : decide (a ≤ x) = false := by simp; omega
  have e2 : ¬ a ≤ x := by omega
  go_enter Try.func49, Try.ntmps49
  go_wp2
  go_ret
  exact ⟨rfl, rfl⟩

set_option maxHeartbeats 400000 in
theorem sIn_hi (x a b : Int) (h0 : a ≤ x) (h : b < x) (w : World) :
    Calls Try.prog 49 #[.int .i64 x, .int .i64 a, .int .i64 b] w fun e w' => e = .returned (.bool false) ∧ w = w' := by
  have e1 : decide (x ≤ b) = false := by simp; omega
  have e2 : ¬ x ≤ b := by omega
  go_enter Try.func49, Try.ntmps49
  go_wp2
  go_ret
  exact ⟨rfl, rfl⟩

set_option maxHeartbeats 400000 in
theorem sIn_in (x a b : Int) (h0 : a ≤ x) (h : x ≤ b) (w : World) :
    Calls Try.prog 49 #[.int .i64 x, .int .i64 a, .int .i64 b] w fun e w' => e = .returned (.bool true) ∧ w = w' := by
  go_enter Try.func49, Try.ntmps49
  go_wp2
  go_ret
  exact ⟨rfl, rfl⟩

theorem sIn_any (x a b : Int) (w : World) :
    Calls Try.prog 49 #[.int .i64 x, .int .i64 a, .int .i64 b] w fun e w' => e = .returned (.bool (inr x a b)) ∧ w = w' := by
  unfold inr
  by_cases h1 : x < a
  · rw [show (decide (a ≤ x) && decide (x ≤ b)) = false by simp; omega]; exact sIn_lo x a b h1 w
  · by_cases h2 : b < x
    · rw [show (decide (a ≤ x) && decide (x ≤ b)) = false by simp; omega]; exact sIn_hi x a b (by omega) h2 w
    · rw [show (decide (a ≤ x) && decide (x ≤ b)) = true by simp; omega]; exact sIn_in x a b (by omega) (by omega) w

/-- The code of a number of generators and of a length. -/
def ctd (g n : Int) : Int := if 1 ≤ g ∧ g ≤ 4 ∧ 0 ≤ n ∧ n ≤ 12 then 0 else 2
set_option maxHeartbeats 400000 in
theorem sCtd_a (g n : Int) (hg : g < 1) (w : World) :
    Calls Try.prog 48 #[.int .i64 g, .int .i64 n] w fun e w' => e = .returned (.int .i64 2) ∧ w = w' := by
  have e1 : decide (1 ≤ g) = false := by simp; omega
  have e2 : ¬ 1 ≤ g := by omega
  go_enter Try.func48, Try.ntmps48
  go_wp2
  go_ret
  exact ⟨rfl, rfl⟩

set_option maxHeartbeats 400000 in
theorem sCtd_b (g n : Int) (h0 : 1 ≤ g) (hg : 4 < g) (w : World) :
    Calls Try.prog 48 #[.int .i64 g, .int .i64 n] w fun e w' => e = .returned (.int .i64 2) ∧ w = w' := by
  have e1 : decide (g ≤ 4) = false := by simp; omega
  have e2 : ¬ g ≤ 4 := by omega
  go_enter Try.func48, Try.ntmps48
  go_wp2
  go_ret
  exact ⟨rfl, rfl⟩

set_option maxHeartbeats 400000 in
theorem sCtd_c (g n : Int) (h0 : 1 ≤ g) (h1 : g ≤ 4) (hn : n < 0) (w : World) :
    Calls Try.prog 48 #[.int .i64 g, .int .i64 n] w fun e w' => e = .returned (.int .i64 2) ∧ w = w' := by
  have e1 : decide (0 ≤ n) = false := by simp; omega
  have e2 : ¬ 0 ≤ n := by omega
  go_enter Try.func48, Try.ntmps48
  go_wp2
  go_ret
  exact ⟨rfl, rfl⟩

set_option maxHeartbeats 400000 in
theorem sCtd_d (g n : Int) (h0 : 1 ≤ g) (h1 : g ≤ 4) (h2 : 0 ≤ n) (hn : 12 < n) (w : World) :
    Calls Try.prog 48 #[.int .i64 g, .int .i64 n] w fun e w' => e = .returned (.int .i64 2) ∧ w = w' := by
  have e1 : decide (n ≤ 12) = false := by simp; omega
  have e2 : ¬ n ≤ 12 := by omega
  go_enter Try.func48, Try.ntmps48
  go_wp2
  go_ret
  exact ⟨rfl, rfl⟩

set_option maxHeartbeats 400000 in
theorem sCtd_yes (g n : Int) (hg : 1 ≤ g) (hg4 : g ≤ 4) (hn : 0 ≤ n) (hn12 : n ≤ 12) (w : World) :
    Calls Try.prog 48 #[.int .i64 g, .int .i64 n] w fun e w' => e = .returned (.int .i64 0) ∧ w = w' := by
  go_enter Try.func48, Try.ntmps48
  go_wp2
  go_ret
  exact ⟨rfl, rfl⟩

theorem sCtd_any (g n : Int) (w : World) :
    Calls Try.prog 48 #[.int .i64 g, .int .i64 n] w fun e w' => e = .returned (.int .i64 (ctd g n)) ∧ w = w' := by
  unfold ctd
  by_cases h1 : g < 1
  · rw [if_neg (by omega)]; exact sCtd_a g n h1 w
  · by_cases h2 : 4 < g
    · rw [if_neg (by omega)]; exact sCtd_b g n (by omega) h2 w
    · by_cases h3 : n < 0
      · rw [if_neg (by omega)]; exact sCtd_c g n (by omega) (by omega) h3 w
      · by_cases h4 : 12 < n
        · rw [if_neg (by omega)]; exact sCtd_d g n (by omega) (by omega) (by omega) h4 w
        · rw [if_pos (by omega)]; exact sCtd_yes g n (by omega) (by omega) (by omega) (by omega) w



set_option maxHeartbeats 400000 in
theorem iCnt_a (g n : Int) (hg : g < 1) (w : World) :
    Calls Try.prog 15 #[.int .i64 g, .int .i64 n] w fun e w' => e = .returned (.tuple #[.int .i64 0, .int .i64 2]) ∧ w = w' := by
  have e1 : decide (1 ≤ g) = false := by simp; omega
  have e2 : ¬ 1 ≤ g := by omega
  go_enter Try.func15, Try.ntmps15
  go_wp2
  go_ret2
  exact ⟨rfl, rfl⟩

set_option maxHeartbeats 400000 in
theorem iCnt_b (g n : Int) (h0 : 1 ≤ g) (hg : 4 < g) (w : World) :
    Calls Try.prog 15 #[.int .i64 g, .int .i64 n] w fun e w' => e = .returned (.tuple #[.int .i64 0, .int .i64 2]) ∧ w = w' := by
  have e1 : decide (g ≤ 4) = false := by simp; omega
  have e2 : ¬ g ≤ 4 := by omega
  go_enter Try.func15, Try.ntmps15
  go_wp2
  go_ret2
  exact ⟨rfl, rfl⟩

set_option maxHeartbeats 400000 in
theorem iCnt_c (g n : Int) (h0 : 1 ≤ g) (h1 : g ≤ 4) (hn : n < 0) (w : World) :
    Calls Try.prog 15 #[.int .i64 g, .int .i64 n] w fun e w' => e = .returned (.tuple #[.int .i64 0, .int .i64 2]) ∧ w = w' := by
  have e1 : decide (0 ≤ n) = false := by simp; omega
  have e2 : ¬ 0 ≤ n := by omega
  go_enter Try.func15, Try.ntmps15
  go_wp2
  go_ret2
  exact ⟨rfl, rfl⟩

set_option maxHeartbeats 400000 in
theorem iCnt_d (g n : Int) (h0 : 1 ≤ g) (h1 : g ≤ 4) (h2 : 0 ≤ n) (hn : 12 < n) (w : World) :
    Calls Try.prog 15 #[.int .i64 g, .int .i64 n] w fun e w' => e = .returned (.tuple #[.int .i64 0, .int .i64 2]) ∧ w = w' := by
  have e1 : decide (n ≤ 12) = false := by simp; omega
  have e2 : ¬ n ≤ 12 := by omega
  go_enter Try.func15, Try.ntmps15
  go_wp2
  go_ret2
  exact ⟨rfl, rfl⟩

set_option maxHeartbeats 400000 in
theorem iCnt_yes (g : Int) (n : Nat) (hg : 1 ≤ g) (hg4 : g ≤ 4) (hn : n ≤ 12) (w : World) :
    Calls Try.prog 15 #[.int .i64 g, .int .i64 n] w fun e w' => e = .returned (.tuple #[.int .i64 (wy g false n), .int .i64 0]) ∧ w = w' := by
  have a1 : (0 : Int) ≤ n := by omega
  have a2 : (n : Int) ≤ 12 := by omega
  go_enter Try.func15, Try.ntmps15
  go_wp2_with (first
    | (go_at_call_of 41 (Value.int IntKind.i64 g); refine (iIn_in g _ _ (by omega) (by omega) _).mono ?_; rintro e w1 ⟨rfl, rfl⟩)
    | (go_at_call_of 41 (Value.int IntKind.i64 n); refine (iIn_in n _ _ (by omega) (by omega) _).mono ?_; rintro e w1 ⟨rfl, rfl⟩)
    | (go_at_call 42; refine (iWays_any g hg hg4 false n hn _).mono ?_; rintro e w1 ⟨rfl, rfl⟩))
  go_ret2
  exact ⟨rfl, rfl⟩


end Go.Proofs.Ytejmbbnhdojcbaa
