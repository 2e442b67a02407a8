/- PowerWord: the walks of both sides and of the law. Conditions: none. -/
import Derived.Test.YtejmbbnhdojcbaaWay
import Derived.Test.YtejmbbnhdojcbaaRep
namespace Go.Proofs.Ytejmbbnhdojcbaa
open Go.RowKit
set_option linter.unusedVariables false

/-- A reduced word that must not be too long, and its code. -/
def tl (r : List UInt8) : List UInt8 := if r.length ≤ 40 then r else []
def tc (r : List UInt8) : Int := if r.length ≤ 40 then 0 else 3
theorem orLong_any (l : List UInt8) (hl : l.length ≤ 1048576) (w : World) :
    Calls Try.prog 37 #[.string (bs l)] w fun e w' => e = .returned (.tuple #[.string (bs (tl (Wd.red l))), .int .i64 (tc (Wd.red l))]) ∧ Below w.heap.size w w' := by
  unfold tl tc
  by_cases h : (Wd.red l).length ≤ 40
  · rw [if_pos h, if_pos h]; exact orLong_yes l hl h w
  · rw [if_neg h, if_neg h]; exact orLong_no l hl (by omega) w

/-- The letters of a power, not reduced. -/
def powLetters (l : List UInt8) (n : Int) : List UInt8 := if n < 0 then Lib.repeatL (Wd.inv l) (-n).toNat else Lib.repeatL l n.toNat
theorem rep_snoc (u : List UInt8) (k : Nat) : Lib.repeatL u (k + 1) = Lib.repeatL u k ++ u := by
  rw [Lib.repeatL_add, Lib.repeatL_one]
theorem red_rep (u : List UInt8) (k : Nat) : Wd.red (Wd.red (Lib.repeatL u k) ++ u) = Wd.red (Lib.repeatL u (k + 1)) := by
  rw [rep_snoc, Wd.red_append_left]
theorem rep_all {u : List UInt8} (h : ∀ x ∈ u, Wd.isL x = true) : ∀ k x, x ∈ Lib.repeatL u k → Wd.isL x = true
  | 0, x, hx => by simp [Lib.repeatL] at hx
  | k + 1, x, hx => by
    unfold Lib.repeatL at hx
    rcases List.mem_append.1 hx with hx | hx
    · exact h x hx
    · exact rep_all h k x hx
theorem rep_len {u : List UInt8} (h : u.length ≤ 40) {k : Nat} (hk : k ≤ 40) : (Lib.repeatL u k).length ≤ 1600 := by
  rw [Lib.repeatL_length]
  exact Nat.le_trans (Nat.mul_le_mul hk h) (by omega)


set_option maxHeartbeats 1600000 in
theorem iPow_pos (l : List UInt8) (hl : l.length ≤ 1048576) (hv : vld l = true) (m : Nat) (hm : m ≤ 40) (w : World) :
    Calls Try.prog 30 #[.string (bs l), .int .i64 (m : Int)] w fun e w' => e = .returned (.tuple #[.string (bs (tl (Wd.red (Lib.repeatL l m)))), .int .i64 (tc (Wd.red (Lib.repeatL l m)))]) ∧ Below w.heap.size w w' := by
  have hB0 := Below.refl w.heap.size w
  have h40 := (vld_iff.1 hv).2
  have i40 : (Wd.inv l).length ≤ 40 := by rw [Wd.inv_length]; exact h40
  have r1 := rep_len (u := l) (by omega) hm
  have a1 : (-40 : Int) ≤ (m : Int) := by omega
  have a2 : (m : Int) ≤ (40 : Int) := by omega
  have a3 : ¬ (m : Int) < 0 := by omega
  go_enter Try.func30, Try.ntmps30
  go_wp2_with (first
    | ((go_at_call 35); refine (iValid_any l hl _).mono ?_; rintro e w1 ⟨rfl, rfl⟩)
    | ((go_at_call 41); refine (iIn_in _ _ _ a1 a2 _).mono ?_; rintro e w1 ⟨rfl, rfl⟩)
    | ((go_at_call 55); refine (rep_any l m (by omega) (by omega) _).mono ?_; rintro e w1 ⟨rfl, hb1⟩; have hB2 := bl_call hb1 (by assumption); clear hb1)
    | ((go_at_call 37); refine (orLong_any _ (by omega) _).mono ?_; rintro e w1 ⟨rfl, hb1⟩; have hB3 := bl_call hb1 (by assumption); clear hb1))
  go_ret2
  exact ⟨rfl, by assumption⟩


set_option maxHeartbeats 1600000 in
theorem iPow_neg (l : List UInt8) (hl : l.length ≤ 1048576) (hv : vld l = true) (m : Nat) (h0 : 0 < m) (hm : m ≤ 40) (w : World) :
    Calls Try.prog 30 #[.string (bs l), .int .i64 (-(m : Int))] w fun e w' => e = .returned (.tuple #[.string (bs (tl (Wd.red (Lib.repeatL (Wd.inv l) m)))), .int .i64 (tc (Wd.red (Lib.repeatL (Wd.inv l) m)))]) ∧ Below w.heap.size w w' := by
  have hB0 := Below.refl w.heap.size w
  have h40 := (vld_iff.1 hv).2
  have i40 : (Wd.inv l).length ≤ 40 := by rw [Wd.inv_length]; exact h40
  have r1 := rep_len (u := (Wd.inv l)) (by omega) hm
  have a1 : (-40 : Int) ≤ (-(m : Int)) := by omega
  have a2 : (-(m : Int)) ≤ (40 : Int) := by omega
  have a3 : -(m : Int) < 0 := by omega
  go_enter Try.func30, Try.ntmps30
  go_wp2_with (first
    | ((go_at_call 35); refine (iValid_any l hl _).mono ?_; rintro e w1 ⟨rfl, rfl⟩)
    | ((go_at_call 41); refine (iIn_in _ _ _ a1 a2 _).mono ?_; rintro e w1 ⟨rfl, rfl⟩)
    | ((go_at_call 52); refine (iInv_any l hl _).mono ?_; rintro e w1 ⟨rfl, hb1⟩; have hB := bl_call hb1 (by assumption); clear hb1)
    | ((go_at_call 55); refine (rep_any (Wd.inv l) m (by omega) (by omega) _).mono ?_; rintro e w1 ⟨rfl, hb1⟩; have hB2 := bl_call hb1 (by assumption); clear hb1)
    | ((go_at_call 37); refine (orLong_any _ (by omega) _).mono ?_; rintro e w1 ⟨rfl, hb1⟩; have hB3 := bl_call hb1 (by assumption); clear hb1))
  go_ret2
  exact ⟨rfl, by assumption⟩




set_option maxHeartbeats 400000 in
theorem iPow_no (l : List UInt8) (hl : l.length ≤ 1048576) (n : Int) (hv : vld l = false) (w : World) :
    Calls Try.prog 30 #[.string (bs l), .int .i64 n] w fun e w' => e = .returned (.tuple #[.string (bs []), .int .i64 1]) ∧ Below w.heap.size w w' := by
  have hB0 := Below.refl w.heap.size w
  go_enter Try.func30, Try.ntmps30
  go_wp2_with (first
    | ((go_at_call 35); refine (iValid_any l hl _).mono ?_; rintro e w1 ⟨rfl, rfl⟩))
  go_ret2
  exact ⟨rfl, by assumption⟩

set_option maxHeartbeats 400000 in
theorem iPow_lo (l : List UInt8) (hl : l.length ≤ 1048576) (n : Int) (hv : vld l = true) (h : n < -40) (w : World) :
    Calls Try.prog 30 #[.string (bs l), .int .i64 n] w fun e w' => e = .returned (.tuple #[.string (bs []), .int .i64 2]) ∧ Below w.heap.size w w' := by
  have hB0 := Below.refl w.heap.size w
  go_enter Try.func30, Try.ntmps30
  go_wp2_with (first
    | ((go_at_call 35); refine (iValid_any l hl _).mono ?_; rintro e w1 ⟨rfl, rfl⟩)
    | ((go_at_call 41); refine (iIn_lo n _ _ h _).mono ?_; rintro e w1 ⟨rfl, rfl⟩))
  go_ret2
  exact ⟨rfl, by assumption⟩

set_option maxHeartbeats 400000 in
theorem iPow_hi (l : List UInt8) (hl : l.length ≤ 1048576) (n : Int) (hv : vld l = true) (h : 40 < n) (w : World) :
    Calls Try.prog 30 #[.string (bs l), .int .i64 n] w fun e w' => e = .returned (.tuple #[.string (bs []), .int .i64 2]) ∧ Below w.heap.size w w' := by
  have hB0 := Below.refl w.heap.size w
  go_enter Try.func30, Try.ntmps30
  go_wp2_with (first
    | ((go_at_call 35); refine (iValid_any l hl _).mono ?_; rintro e w1 ⟨rfl, rfl⟩)
    | ((go_at_call 41); refine (iIn_hi n _ _ (by omega) h _).mono ?_; rintro e w1 ⟨rfl, rfl⟩))
  go_ret2
  exact ⟨rfl, by assumption⟩




end Go.Proofs.Ytejmbbnhdojcbaa
