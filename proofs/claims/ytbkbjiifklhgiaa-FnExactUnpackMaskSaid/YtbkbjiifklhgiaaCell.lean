/- HasCell: the walks of both sides and of the law: whatever the mask and the cell, the two answers are one. Conditions: none. -/
import Derived.Test.YtbkbjiifklhgiaaOpen
namespace Go.Proofs.Ytbkbjiifklhgiaa
open Go.RowKit

/-- Is the cell in column x of row y set? -/
def has (zs : List Int) (x y : Nat) : Bool := bits BinOp.and IntKind.u16 (nth zs y / 2 ^ x) 1 == 1

theorem z22 : (Try.prog.info? 22).map (·.size) = some 1 := by kernel_rfl
/-- A row of a mask, by its number. -/
theorem run_index_mk (zs : List Int) (hz : zs.length = 16) (k : Nat) (hk : k < 16) (w : World) : (Instr.index 26 (.agg (mk zs)) (.int .i64 k)).run Try.prog w = .ok (.int .u16 (nth zs k)) w := by
  obtain ⟨i, hi, hs⟩ := Option.map_eq_some_iff.1 z22
  have hg := mk_get zs k (by omega)
  simp [Instr.index, run_underlying Try.underlying26, sizeOf, typeInfo, hi, hs, part, asIntOf, Result.andThen, hg]
  omega

set_option maxHeartbeats 400000 in
theorem sHas_yes (zs : List Int) (hz : zs.length = 16) (x y : Nat) (h2 : x < 16) (h4 : y < 16) (w : World) :
    Calls Try.prog 19 #[.agg (mk zs), .int .i64 x, .int .i64 y] w fun e w' => e = .returned (.tuple #[.bool (has zs x y), .int .i64 0]) ∧ Below w.heap.size w w' := by
  have g1 := mk_get zs y (by omega)
  have i1 : (x : Int) ≤ 15 := by omega
  have i2 : (y : Int) ≤ 15 := by omega
  go_enter Try.func19, Try.ntmps19
  go_wp2
  go_ret2
  exact ⟨rfl, below_al (Below.refl _ _) (Nat.le_refl _) _⟩

set_option maxHeartbeats 400000 in
theorem iHas_yes (zs : List Int) (hz : zs.length = 16) (x y : Nat) (h2 : x < 16) (h4 : y < 16) (w : World) :
    Calls Try.prog 21 #[.agg (mk zs), .int .i64 x, .int .i64 y] w fun e w' => e = .returned (.tuple #[.bool (has zs x y), .int .i64 0]) ∧ Below w.heap.size w w' := by
  have g1 := mk_get zs y (by omega)
  have i1 : (x : Int) ≤ 15 := by omega
  have i2 : (y : Int) ≤ 15 := by omega
  go_enter Try.func21, Try.ntmps21
  go_wp2
  go_ret2
  exact ⟨rfl, below_al (Below.refl _ _) (Nat.le_refl _) _⟩

/-- Not a place of a mask. -/
def Out (n : Int) : Prop := n < 0 ∨ 15 < n

set_option maxHeartbeats 400000 in
theorem sHas_no (zs : List Int) (x y : Int) (h : Out x ∨ (0 ≤ x ∧ x ≤ 15 ∧ Out y)) (w : World) :
    Calls Try.prog 19 #[.agg (mk zs), .int .i64 x, .int .i64 y] w fun e w' => e = .returned (.tuple #[.bool false, .int .i64 2]) ∧ Below w.heap.size w w' := by
  unfold Out at h
  rcases h with (h | h) | ⟨h1, h2, h | h⟩
  · have d1 : decide (0 ≤ x) = false := by simp; omega
    go_enter Try.func19, Try.ntmps19
    go_wp2
    go_ret2
    exact ⟨rfl, below_al (Below.refl _ _) (Nat.le_refl _) _⟩
  · have d1 : decide (x ≤ 15) = false := by simp; omega
    have d2 : 0 ≤ x := by omega
    go_enter Try.func19, Try.ntmps19
    go_wp2
    go_ret2
    exact ⟨rfl, below_al (Below.refl _ _) (Nat.le_refl _) _⟩
  · have d1 : decide (0 ≤ y) = false := by simp; omega
    go_enter Try.func19, Try.ntmps19
    go_wp2
    go_ret2
    exact ⟨rfl, below_al (Below.refl _ _) (Nat.le_refl _) _⟩
  · have d1 : decide (y ≤ 15) = false := by simp; omega
    have d2 : 0 ≤ y := by omega
    go_enter Try.func19, Try.ntmps19
    go_wp2
    go_ret2
    exact ⟨rfl, below_al (Below.refl _ _) (Nat.le_refl _) _⟩

set_option maxHeartbeats 400000 in
theorem iHas_no (zs : List Int) (x y : Int) (h : Out x ∨ (0 ≤ x ∧ x ≤ 15 ∧ Out y)) (w : World) :
    Calls Try.prog 21 #[.agg (mk zs), .int .i64 x, .int .i64 y] w fun e w' => e = .returned (.tuple #[.bool false, .int .i64 2]) ∧ Below w.heap.size w w' := by
  unfold Out at h
  rcases h with (h | h) | ⟨h1, h2, h | h⟩
  · have d1 : decide (0 ≤ x) = false := by simp; omega
    go_enter Try.func21, Try.ntmps21
    go_wp2
    go_ret2
    exact ⟨rfl, below_al (Below.refl _ _) (Nat.le_refl _) _⟩
  · have d1 : decide (x ≤ 15) = false := by simp; omega
    have d2 : 0 ≤ x := by omega
    go_enter Try.func21, Try.ntmps21
    go_wp2
    go_ret2
    exact ⟨rfl, below_al (Below.refl _ _) (Nat.le_refl _) _⟩
  · have d1 : decide (0 ≤ y) = false := by simp; omega
    go_enter Try.func21, Try.ntmps21
    go_wp2
    go_ret2
    exact ⟨rfl, below_al (Below.refl _ _) (Nat.le_refl _) _⟩
  · have d1 : decide (y ≤ 15) = false := by simp; omega
    have d2 : 0 ≤ y := by omega
    go_enter Try.func21, Try.ntmps21
    go_wp2
    go_ret2
    exact ⟨rfl, below_al (Below.refl _ _) (Nat.le_refl _) _⟩

theorem where_ (x y : Int) : (Out x ∨ (0 ≤ x ∧ x ≤ 15 ∧ Out y)) ∨ ∃ a b : Nat, x = a ∧ y = b ∧ a < 16 ∧ b < 16 := by
  unfold Out
  by_cases h1 : 0 ≤ x ∧ x ≤ 15
  · by_cases h2 : 0 ≤ y ∧ y ≤ 15
    · exact .inr ⟨x.toNat, y.toNat, by omega, by omega, by omega, by omega⟩
    · left; omega
  · left; omega

set_option maxHeartbeats 400000 in
theorem hasLaw (zs : List Int) (hz : zs.length = 16) (x y : Int) (w : World) :
    Calls Try.prog 3 #[.agg (mk zs), .int .i64 x, .int .i64 y] w fun e w' => e = .returned (.bool true) ∧ Below w.heap.size w w' := by
  have s1 : (mk zs).size = 16 := by rw [mk_size, hz]
  have S0 := St.one w (.cells (mk zs) 23)
  have hi := infoSize23 zs hz
  rcases where_ x y with h | ⟨x, y, rfl, rfl, hx, hy⟩
  · go_enter Try.func3, Try.ntmps3
    go_wp2_with (first
      | (refine wpList_load_row rfl 23 (.tmp 3) rfl w.heap.size rfl 23 (mk zs) (0, 0) _ (St.get (by assumption) 0 rfl) Try.underlying23 rfl hi ?_)
      | (go_at_call 20; refine (toMask_any zs hz _).mono ?_; rintro e w1 ⟨rfl, hb⟩; have hS := St.call hb (by assumption); clear hb)
      | (go_at_call 19; refine (sHas_no zs x y h _).mono ?_; rintro e w1 ⟨rfl, hb⟩; have hS := St.call hb (by assumption); clear hb)
      | (go_at_call 21; refine (iHas_no zs x y h _).mono ?_; rintro e w1 ⟨rfl, hb⟩; have hS := St.call hb (by assumption); clear hb))
    go_ret
    exact ⟨rfl, St.below (by assumption)⟩
  · go_enter Try.func3, Try.ntmps3
    go_wp2_with (first
      | (refine wpList_load_row rfl 23 (.tmp 3) rfl w.heap.size rfl 23 (mk zs) (0, 0) _ (St.get (by assumption) 0 rfl) Try.underlying23 rfl hi ?_)
      | (go_at_call 20; refine (toMask_any zs hz _).mono ?_; rintro e w1 ⟨rfl, hb⟩; have hS := St.call hb (by assumption); clear hb)
      | (go_at_call 19; refine (sHas_yes zs hz x y hx hy _).mono ?_; rintro e w1 ⟨rfl, hb⟩; have hS := St.call hb (by assumption); clear hb)
      | (go_at_call 21; refine (iHas_yes zs hz x y hx hy _).mono ?_; rintro e w1 ⟨rfl, hb⟩; have hS := St.call hb (by assumption); clear hb))
    go_ret
    exact ⟨rfl, St.below (by assumption)⟩

theorem hasWalk (zs : List Int) (x y : Int) (w : World) (hz : zs.length = 16) (_ : ∀ z ∈ zs, (Lit.int .u16 z).wf = true) (_ : (Lit.int .i64 x).wf = true) (_ : (Lit.int .i64 y).wf = true) :
    Calls Try.prog 3 #[.agg (zs.map (Value.int .u16)).toArray, .int .i64 x, .int .i64 y] w fun e w' => e = .returned (.bool true) ∧ Below w.heap.size w w' :=
  hasLaw zs hz x y w
end Go.Proofs.Ytbkbjiifklhgiaa
