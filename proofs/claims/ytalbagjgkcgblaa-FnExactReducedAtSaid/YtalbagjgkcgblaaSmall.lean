/- The small functions over words, and the laws over ValidWord, InverseWord, ReduceWord, IsReduced, JoinReduced: the walks. Conditions: none. -/
import Derived.Test.YtalbagjgkcgblaaRed
import Derived.Deep.RegionWith
namespace Go.Proofs.Ytalbagjgkcgblaa
open Go.RowKit
set_option linter.unusedVariables false

theorem red_same : ∀ l : List UInt8, (Wd.red l).length = l.length → Wd.red l = l := by
  refine Wd.snocInd (fun _ => rfl) fun l c ih h => ?_
  rw [Wd.red_snoc] at h ⊢
  have h1 := (Wd.red_length l).1
  have h2 := Wd.step_length (Wd.red l) c
  have h3 : (Wd.step (Wd.red l) c).length = (Wd.red l).length + 1 := by simp at h; omega
  have h4 : (Wd.red l).length = l.length := by simp at h; omega
  have h5 := ih h4
  rw [h5] at h3 ⊢
  unfold Wd.step at h3 ⊢
  split
  · rename_i hc; rw [if_pos hc] at h3; simp at h3
  · rfl
/-- Is a word reduced? -/
def isRed (l : List UInt8) : Bool := decide (Wd.red l = l)
theorem isRed_len (l : List UInt8) : (((Wd.red l).length : Int) == (l.length : Int)) = isRed l := by
  unfold isRed
  by_cases h : Wd.red l = l
  · rw [h]; simp
  · simp only [h, decide_false, beq_eq_false_iff_ne]
    intro e; exact h (red_same l (by omega))
theorem bs_toList (l : List UInt8) : (bs l).toList = l := ByteArray.toList_mk l
theorem isRed_str (l : List UInt8) : ((bs (Wd.red l)).toList == (bs l).toList) = isRed l := by
  unfold isRed
  rw [bs_toList, bs_toList]
  by_cases h : Wd.red l = l
  · rw [h]; simp
  · simp only [h, decide_false, beq_eq_false_iff_ne]
    exact h

set_option maxHeartbeats 400000 in
theorem isReduced_any (l : List UInt8) (hl : l.length ≤ 1048576) (w : World) :
    Calls Try.prog 51 #[.string (bs l)] w fun e w' => e = .returned (.bool (isRed l)) ∧ Below w.heap.size w w' := by
  have hB0 := Below.refl w.heap.size w
  have rl := (Wd.red_length l).1
  have e0 := isRed_len l
  have E0 := Lib.hid e0
  clear e0
  go_enter Try.func51, Try.ntmps51
  go_wp2_with (first
    | ((go_at_call 50); refine (iRed_any l hl _).mono ?_; rintro e w1 ⟨rfl, hb1⟩; have hB := bl_call hb1 (by assumption); clear hb1))
  go_ret
  exact ⟨by rw [← E0.out]; rfl, by assumption⟩

set_option maxHeartbeats 400000 in
theorem sInvW_yes (l : List UInt8) (hl : l.length ≤ 1048576) (hv : vld l = true) (w : World) :
    Calls Try.prog 21 #[.string (bs l)] w fun e w' => e = .returned (.tuple #[.string (bs (Wd.inv l)), .int .i64 0]) ∧ Below w.heap.size w w' := by
  have hB0 := Below.refl w.heap.size w
  have HV := Lib.hid hv
  go_enter Try.func21, Try.ntmps21
  go_wp2_with (first
    | ((go_at_call 41); refine (ok_any l hl _).mono ?_; rintro e w1 ⟨rfl, rfl⟩)
    | ((go_at_call 47); refine (sInv_any l hl (vld_iff.1 HV.out).1 _).mono ?_; rintro e w1 ⟨rfl, hb1⟩; have hB := bl_call hb1 (by assumption); clear hb1))
  go_ret2
  exact ⟨rfl, by assumption⟩

set_option maxHeartbeats 400000 in
theorem sInvW_no (l : List UInt8) (hl : l.length ≤ 1048576) (hv : vld l = false) (w : World) :
    Calls Try.prog 21 #[.string (bs l)] w fun e w' => e = .returned (.tuple #[.string (bs []), .int .i64 1]) ∧ Below w.heap.size w w' := by
  have hB0 := Below.refl w.heap.size w
  go_enter Try.func21, Try.ntmps21
  go_wp2_with (first
    | ((go_at_call 41); refine (ok_any l hl _).mono ?_; rintro e w1 ⟨rfl, rfl⟩))
  go_ret2
  exact ⟨rfl, by assumption⟩

set_option maxHeartbeats 400000 in
theorem iInvW_yes (l : List UInt8) (hl : l.length ≤ 1048576) (hv : vld l = true) (w : World) :
    Calls Try.prog 22 #[.string (bs l)] w fun e w' => e = .returned (.tuple #[.string (bs (Wd.inv l)), .int .i64 0]) ∧ Below w.heap.size w w' := by
  have hB0 := Below.refl w.heap.size w
  have HV := Lib.hid hv
  go_enter Try.func22, Try.ntmps22
  go_wp2_with (first
    | ((go_at_call 16); refine (iValid_any l hl _).mono ?_; rintro e w1 ⟨rfl, rfl⟩)
    | ((go_at_call 48); refine (iInv_any l hl _).mono ?_; rintro e w1 ⟨rfl, hb1⟩; have hB := bl_call hb1 (by assumption); clear hb1))
  go_ret2
  exact ⟨rfl, by assumption⟩

set_option maxHeartbeats 400000 in
theorem iInvW_no (l : List UInt8) (hl : l.length ≤ 1048576) (hv : vld l = false) (w : World) :
    Calls Try.prog 22 #[.string (bs l)] w fun e w' => e = .returned (.tuple #[.string (bs []), .int .i64 1]) ∧ Below w.heap.size w w' := by
  have hB0 := Below.refl w.heap.size w
  go_enter Try.func22, Try.ntmps22
  go_wp2_with (first
    | ((go_at_call 16); refine (iValid_any l hl _).mono ?_; rintro e w1 ⟨rfl, rfl⟩))
  go_ret2
  exact ⟨rfl, by assumption⟩

set_option maxHeartbeats 400000 in
theorem sRedW_yes (l : List UInt8) (hl : l.length ≤ 1048576) (hv : vld l = true) (w : World) :
    Calls Try.prog 23 #[.string (bs l)] w fun e w' => e = .returned (.tuple #[.string (bs (Wd.red l)), .int .i64 0]) ∧ Below w.heap.size w w' := by
  have hB0 := Below.refl w.heap.size w
  have HV := Lib.hid hv
  go_enter Try.func23, Try.ntmps23
  go_wp2_with (first
    | ((go_at_call 41); refine (ok_any l hl _).mono ?_; rintro e w1 ⟨rfl, rfl⟩)
    | ((go_at_call 49); refine (sRed_any l hl (vld_iff.1 HV.out).1 _).mono ?_; rintro e w1 ⟨rfl, hb1⟩; have hB := bl_call hb1 (by assumption); clear hb1))
  go_ret2
  exact ⟨rfl, by assumption⟩

set_option maxHeartbeats 400000 in
theorem sRedW_no (l : List UInt8) (hl : l.length ≤ 1048576) (hv : vld l = false) (w : World) :
    Calls Try.prog 23 #[.string (bs l)] w fun e w' => e = .returned (.tuple #[.string (bs []), .int .i64 1]) ∧ Below w.heap.size w w' := by
  have hB0 := Below.refl w.heap.size w
  go_enter Try.func23, Try.ntmps23
  go_wp2_with (first
    | ((go_at_call 41); refine (ok_any l hl _).mono ?_; rintro e w1 ⟨rfl, rfl⟩))
  go_ret2
  exact ⟨rfl, by assumption⟩

set_option maxHeartbeats 400000 in
theorem iRedW_yes (l : List UInt8) (hl : l.length ≤ 1048576) (hv : vld l = true) (w : World) :
    Calls Try.prog 24 #[.string (bs l)] w fun e w' => e = .returned (.tuple #[.string (bs (Wd.red l)), .int .i64 0]) ∧ Below w.heap.size w w' := by
  have hB0 := Below.refl w.heap.size w
  have HV := Lib.hid hv
  go_enter Try.func24, Try.ntmps24
  go_wp2_with (first
    | ((go_at_call 16); refine (iValid_any l hl _).mono ?_; rintro e w1 ⟨rfl, rfl⟩)
    | ((go_at_call 50); refine (iRed_any l hl _).mono ?_; rintro e w1 ⟨rfl, hb1⟩; have hB := bl_call hb1 (by assumption); clear hb1))
  go_ret2
  exact ⟨rfl, by assumption⟩

set_option maxHeartbeats 400000 in
theorem iRedW_no (l : List UInt8) (hl : l.length ≤ 1048576) (hv : vld l = false) (w : World) :
    Calls Try.prog 24 #[.string (bs l)] w fun e w' => e = .returned (.tuple #[.string (bs []), .int .i64 1]) ∧ Below w.heap.size w w' := by
  have hB0 := Below.refl w.heap.size w
  go_enter Try.func24, Try.ntmps24
  go_wp2_with (first
    | ((go_at_call 16); refine (iValid_any l hl _).mono ?_; rintro e w1 ⟨rfl, rfl⟩))
  go_ret2
  exact ⟨rfl, by assumption⟩

set_option maxHeartbeats 400000 in
theorem sIsR_yes (l : List UInt8) (hl : l.length ≤ 1048576) (hv : vld l = true) (w : World) :
    Calls Try.prog 25 #[.string (bs l)] w fun e w' => e = .returned (.tuple #[.bool (isRed l), .int .i64 0]) ∧ Below w.heap.size w w' := by
  have hB0 := Below.refl w.heap.size w
  have HV := Lib.hid hv
  have e0 := isRed_str l
  go_enter Try.func25, Try.ntmps25
  go_wp2_with (first
    | ((go_at_call 41); refine (ok_any l hl _).mono ?_; rintro e w1 ⟨rfl, rfl⟩)
    | ((go_at_call 49); refine (sRed_any l hl (vld_iff.1 HV.out).1 _).mono ?_; rintro e w1 ⟨rfl, hb1⟩; have hB := bl_call hb1 (by assumption); clear hb1))
  go_ret2
  exact ⟨rfl, by assumption⟩

set_option maxHeartbeats 400000 in
theorem sIsR_no (l : List UInt8) (hl : l.length ≤ 1048576) (hv : vld l = false) (w : World) :
    Calls Try.prog 25 #[.string (bs l)] w fun e w' => e = .returned (.tuple #[.bool false, .int .i64 1]) ∧ Below w.heap.size w w' := by
  have hB0 := Below.refl w.heap.size w
  go_enter Try.func25, Try.ntmps25
  go_wp2_with (first
    | ((go_at_call 41); refine (ok_any l hl _).mono ?_; rintro e w1 ⟨rfl, rfl⟩))
  go_ret2
  exact ⟨rfl, by assumption⟩

set_option maxHeartbeats 400000 in
theorem iIsR_yes (l : List UInt8) (hl : l.length ≤ 1048576) (hv : vld l = true) (w : World) :
    Calls Try.prog 26 #[.string (bs l)] w fun e w' => e = .returned (.tuple #[.bool (isRed l), .int .i64 0]) ∧ Below w.heap.size w w' := by
  have hB0 := Below.refl w.heap.size w
  go_enter Try.func26, Try.ntmps26
  go_wp2_with (first
    | ((go_at_call 16); refine (iValid_any l hl _).mono ?_; rintro e w1 ⟨rfl, rfl⟩)
    | ((go_at_call 51); refine (isReduced_any l hl _).mono ?_; rintro e w1 ⟨rfl, hb1⟩; have hB := bl_call hb1 (by assumption); clear hb1))
  go_ret2
  exact ⟨rfl, by assumption⟩

set_option maxHeartbeats 400000 in
theorem iIsR_no (l : List UInt8) (hl : l.length ≤ 1048576) (hv : vld l = false) (w : World) :
    Calls Try.prog 26 #[.string (bs l)] w fun e w' => e = .returned (.tuple #[.bool false, .int .i64 1]) ∧ Below w.heap.size w w' := by
  have hB0 := Below.refl w.heap.size w
  go_enter Try.func26, Try.ntmps26
  go_wp2_with (first
    | ((go_at_call 16); refine (iValid_any l hl _).mono ?_; rintro e w1 ⟨rfl, rfl⟩))
  go_ret2
  exact ⟨rfl, by assumption⟩

set_option maxHeartbeats 400000 in
theorem told_yes (l : List UInt8) (hl : l.length ≤ 40) (w : World) :
    Calls Try.prog 57 #[.string (bs l)] w fun e w' => e = .returned (.tuple #[.string (bs l), .int .i64 0]) ∧ Below w.heap.size w w' := by
  have hB0 := Below.refl w.heap.size w
  have hn : ¬ (40 : Int) < l.length := by omega
  go_enter Try.func57, Try.ntmps57
  go_wp2
  go_ret2
  exact ⟨rfl, by assumption⟩

set_option maxHeartbeats 400000 in
theorem told_no (l : List UInt8) (hl : 40 < l.length) (w : World) :
    Calls Try.prog 57 #[.string (bs l)] w fun e w' => e = .returned (.tuple #[.string (bs []), .int .i64 3]) ∧ Below w.heap.size w w' := by
  have hB0 := Below.refl w.heap.size w
  have hn : (40 : Int) < l.length := by omega
  go_enter Try.func57, Try.ntmps57
  go_wp2
  go_ret2
  exact ⟨rfl, by assumption⟩

set_option maxHeartbeats 400000 in
theorem orLong_yes (l : List UInt8) (hl : l.length ≤ 1048576) (h : (Wd.red l).length ≤ 40) (w : World) :
    Calls Try.prog 58 #[.string (bs l)] w fun e w' => e = .returned (.tuple #[.string (bs (Wd.red l)), .int .i64 0]) ∧ Below w.heap.size w w' := by
  have hB0 := Below.refl w.heap.size w
  have hn : ¬ (40 : Int) < (Wd.red l).length := by omega
  go_enter Try.func58, Try.ntmps58
  go_wp2_with (first
    | ((go_at_call 50); refine (iRed_any l hl _).mono ?_; rintro e w1 ⟨rfl, hb1⟩; have hB := bl_call hb1 (by assumption); clear hb1))
  go_ret2
  exact ⟨rfl, by assumption⟩

set_option maxHeartbeats 400000 in
theorem orLong_no (l : List UInt8) (hl : l.length ≤ 1048576) (h : 40 < (Wd.red l).length) (w : World) :
    Calls Try.prog 58 #[.string (bs l)] w fun e w' => e = .returned (.tuple #[.string (bs []), .int .i64 3]) ∧ Below w.heap.size w w' := by
  have hB0 := Below.refl w.heap.size w
  have hn : (40 : Int) < (Wd.red l).length := by omega
  go_enter Try.func58, Try.ntmps58
  go_wp2_with (first
    | ((go_at_call 50); refine (iRed_any l hl _).mono ?_; rintro e w1 ⟨rfl, hb1⟩; have hB := bl_call hb1 (by assumption); clear hb1))
  go_ret2
  exact ⟨rfl, by assumption⟩

/-- The code and the text of a join. -/
def joinL (u l : List UInt8) : List UInt8 := if (Wd.red (u ++ l)).length ≤ 40 then Wd.red (u ++ l) else []
def joinC (u l : List UInt8) : Int := if (Wd.red (u ++ l)).length ≤ 40 then 0 else 3
theorem both_len {u l : List UInt8} (h1 : vld u = true) (h2 : vld l = true) : (u ++ l).length ≤ 1048576 := by
  have a := (vld_iff.1 h1).2
  have b := (vld_iff.1 h2).2
  simp; omega
theorem both_all {u l : List UInt8} (h1 : vld u = true) (h2 : vld l = true) : ∀ x ∈ u ++ l, Wd.isL x = true := by
  intro x hx
  rcases List.mem_append.1 hx with h | h
  · exact (vld_iff.1 h1).1 x h
  · exact (vld_iff.1 h2).1 x h

set_option maxHeartbeats 400000 in
theorem sJoin_no1 (u l : List UInt8) (hu : u.length ≤ 1048576) (hl : l.length ≤ 1048576) (h1 : vld u = false) (w : World) :
    Calls Try.prog 35 #[.string (bs u), .string (bs l)] w fun e w' => e = .returned (.tuple #[.string (bs []), .int .i64 1]) ∧ Below w.heap.size w w' := by
  have hB0 := Below.refl w.heap.size w
  go_enter Try.func35, Try.ntmps35
  go_wp2_with (first
    | ((go_at_call_of 41 (Value.string (bs u))); refine (ok_any u hu _).mono ?_; rintro e w1 ⟨rfl, rfl⟩)
    | ((go_at_call_of 41 (Value.string (bs l))); refine (ok_any l hl _).mono ?_; rintro e w1 ⟨rfl, rfl⟩))
  go_ret2
  exact ⟨rfl, by assumption⟩

set_option maxHeartbeats 400000 in
theorem sJoin_no2 (u l : List UInt8) (hu : u.length ≤ 1048576) (hl : l.length ≤ 1048576) (h1 : vld u = true) (h2 : vld l = false) (w : World) :
    Calls Try.prog 35 #[.string (bs u), .string (bs l)] w fun e w' => e = .returned (.tuple #[.string (bs []), .int .i64 1]) ∧ Below w.heap.size w w' := by
  have hB0 := Below.refl w.heap.size w
  go_enter Try.func35, Try.ntmps35
  go_wp2_with (first
    | ((go_at_call_of 41 (Value.string (bs u))); refine (ok_any u hu _).mono ?_; rintro e w1 ⟨rfl, rfl⟩)
    | ((go_at_call_of 41 (Value.string (bs l))); refine (ok_any l hl _).mono ?_; rintro e w1 ⟨rfl, rfl⟩))
  go_ret2
  exact ⟨rfl, by assumption⟩

set_option maxHeartbeats 400000 in
theorem sJoin_yes (u l : List UInt8) (hu : u.length ≤ 1048576) (hl : l.length ≤ 1048576) (h1 : vld u = true) (h2 : vld l = true) (h3 : (Wd.red (u ++ l)).length ≤ 40) (w : World) :
    Calls Try.prog 35 #[.string (bs u), .string (bs l)] w fun e w' => e = .returned (.tuple #[.string (bs (Wd.red (u ++ l))), .int .i64 0]) ∧ Below w.heap.size w w' := by
  have hB0 := Below.refl w.heap.size w
  have H1 := Lib.hid h1
  have H2 := Lib.hid h2
  go_enter Try.func35, Try.ntmps35
  go_wp2_with (first
    | ((go_at_call_of 41 (Value.string (bs u))); refine (ok_any u hu _).mono ?_; rintro e w1 ⟨rfl, rfl⟩)
    | ((go_at_call_of 41 (Value.string (bs l))); refine (ok_any l hl _).mono ?_; rintro e w1 ⟨rfl, rfl⟩)
    | ((go_at_call 49); refine (sRed_any (u ++ l) (both_len H1.out H2.out) (both_all H1.out H2.out) _).mono ?_; rintro e w1 ⟨rfl, hb1⟩; have hB := bl_call hb1 (by assumption); clear hb1)
    | ((go_at_call 57); refine (told_yes _ h3 _).mono ?_; rintro e w1 ⟨rfl, hb1⟩; have hB := bl_call hb1 (by assumption); clear hb1))
  go_ret2
  exact ⟨rfl, by assumption⟩

set_option maxHeartbeats 400000 in
theorem sJoin_long (u l : List UInt8) (hu : u.length ≤ 1048576) (hl : l.length ≤ 1048576) (h1 : vld u = true) (h2 : vld l = true) (h3 : 40 < (Wd.red (u ++ l)).length) (w : World) :
    Calls Try.prog 35 #[.string (bs u), .string (bs l)] w fun e w' => e = .returned (.tuple #[.string (bs []), .int .i64 3]) ∧ Below w.heap.size w w' := by
  have hB0 := Below.refl w.heap.size w
  have H1 := Lib.hid h1
  have H2 := Lib.hid h2
  go_enter Try.func35, Try.ntmps35
  go_wp2_with (first
    | ((go_at_call_of 41 (Value.string (bs u))); refine (ok_any u hu _).mono ?_; rintro e w1 ⟨rfl, rfl⟩)
    | ((go_at_call_of 41 (Value.string (bs l))); refine (ok_any l hl _).mono ?_; rintro e w1 ⟨rfl, rfl⟩)
    | ((go_at_call 49); refine (sRed_any (u ++ l) (both_len H1.out H2.out) (both_all H1.out H2.out) _).mono ?_; rintro e w1 ⟨rfl, hb1⟩; have hB := bl_call hb1 (by assumption); clear hb1)
    | ((go_at_call 57); refine (told_no _ h3 _).mono ?_; rintro e w1 ⟨rfl, hb1⟩; have hB := bl_call hb1 (by assumption); clear hb1))
  go_ret2
  exact ⟨rfl, by assumption⟩

set_option maxHeartbeats 400000 in
theorem iJoin_no1 (u l : List UInt8) (hu : u.length ≤ 1048576) (hl : l.length ≤ 1048576) (h1 : vld u = false) (w : World) :
    Calls Try.prog 36 #[.string (bs u), .string (bs l)] w fun e w' => e = .returned (.tuple #[.string (bs []), .int .i64 1]) ∧ Below w.heap.size w w' := by
  have hB0 := Below.refl w.heap.size w
  go_enter Try.func36, Try.ntmps36
  go_wp2_with (first
    | ((go_at_call_of 16 (Value.string (bs u))); refine (iValid_any u hu _).mono ?_; rintro e w1 ⟨rfl, rfl⟩)
    | ((go_at_call_of 16 (Value.string (bs l))); refine (iValid_any l hl _).mono ?_; rintro e w1 ⟨rfl, rfl⟩))
  go_ret2
  exact ⟨rfl, by assumption⟩

set_option maxHeartbeats 400000 in
theorem iJoin_no2 (u l : List UInt8) (hu : u.length ≤ 1048576) (hl : l.length ≤ 1048576) (h1 : vld u = true) (h2 : vld l = false) (w : World) :
    Calls Try.prog 36 #[.string (bs u), .string (bs l)] w fun e w' => e = .returned (.tuple #[.string (bs []), .int .i64 1]) ∧ Below w.heap.size w w' := by
  have hB0 := Below.refl w.heap.size w
  go_enter Try.func36, Try.ntmps36
  go_wp2_with (first
    | ((go_at_call_of 16 (Value.string (bs u))); refine (iValid_any u hu _).mono ?_; rintro e w1 ⟨rfl, rfl⟩)
    | ((go_at_call_of 16 (Value.string (bs l))); refine (iValid_any l hl _).mono ?_; rintro e w1 ⟨rfl, rfl⟩))
  go_ret2
  exact ⟨rfl, by assumption⟩

set_option maxHeartbeats 400000 in
theorem iJoin_yes (u l : List UInt8) (hu : u.length ≤ 1048576) (hl : l.length ≤ 1048576) (h1 : vld u = true) (h2 : vld l = true) (h3 : (Wd.red (u ++ l)).length ≤ 40) (w : World) :
    Calls Try.prog 36 #[.string (bs u), .string (bs l)] w fun e w' => e = .returned (.tuple #[.string (bs (Wd.red (u ++ l))), .int .i64 0]) ∧ Below w.heap.size w w' := by
  have hB0 := Below.refl w.heap.size w
  have H1 := Lib.hid h1
  have H2 := Lib.hid h2
  go_enter Try.func36, Try.ntmps36
  go_wp2_with (first
    | ((go_at_call_of 16 (Value.string (bs u))); refine (iValid_any u hu _).mono ?_; rintro e w1 ⟨rfl, rfl⟩)
    | ((go_at_call_of 16 (Value.string (bs l))); refine (iValid_any l hl _).mono ?_; rintro e w1 ⟨rfl, rfl⟩)
    | ((go_at_call 58); refine (orLong_yes (u ++ l) (both_len H1.out H2.out) h3 _).mono ?_; rintro e w1 ⟨rfl, hb1⟩; have hB := bl_call hb1 (by assumption); clear hb1))
  go_ret2
  exact ⟨rfl, by assumption⟩

set_option maxHeartbeats 400000 in
theorem iJoin_long (u l : List UInt8) (hu : u.length ≤ 1048576) (hl : l.length ≤ 1048576) (h1 : vld u = true) (h2 : vld l = true) (h3 : 40 < (Wd.red (u ++ l)).length) (w : World) :
    Calls Try.prog 36 #[.string (bs u), .string (bs l)] w fun e w' => e = .returned (.tuple #[.string (bs []), .int .i64 3]) ∧ Below w.heap.size w w' := by
  have hB0 := Below.refl w.heap.size w
  have H1 := Lib.hid h1
  have H2 := Lib.hid h2
  go_enter Try.func36, Try.ntmps36
  go_wp2_with (first
    | ((go_at_call_of 16 (Value.string (bs u))); refine (iValid_any u hu _).mono ?_; rintro e w1 ⟨rfl, rfl⟩)
    | ((go_at_call_of 16 (Value.string (bs l))); refine (iValid_any l hl _).mono ?_; rintro e w1 ⟨rfl, rfl⟩)
    | ((go_at_call 58); refine (orLong_no (u ++ l) (both_len H1.out H2.out) h3 _).mono ?_; rintro e w1 ⟨rfl, hb1⟩; have hB := bl_call hb1 (by assumption); clear hb1))
  go_ret2
  exact ⟨rfl, by assumption⟩

set_option maxHeartbeats 400000 in
theorem validLaw (l : List UInt8) (hl : l.length ≤ 1048576) (b : Bool)
    (hs : ∀ w, Calls Try.prog 15 #[.string (bs l)] w fun e w' => e = .returned (.bool b) ∧ Below w.heap.size w w')
    (hm : ∀ w, Calls Try.prog 16 #[.string (bs l)] w fun e w' => e = .returned (.bool b) ∧ Below w.heap.size w w') (w : World) :
    Calls Try.prog 3 #[.string (bs l)] w fun e w' => e = .returned (.bool true) ∧ Below w.heap.size w w' := by
  have hB0 := Below.refl w.heap.size w
  have KS := Lib.hid hs
  have KI := Lib.hid hm
  clear hs hm
  have hn : ¬ (1048576 : Int) < l.length := by omega
  go_enter Try.func3, Try.ntmps3
  go_wp2_with (first
    | ((go_at_call 15); refine (KS.out _).mono ?_; rintro e w1 ⟨rfl, hb1⟩; have hB := bl_call hb1 (by assumption); clear hb1)
    | ((go_at_call 16); refine (KI.out _).mono ?_; rintro e w1 ⟨rfl, hb1⟩; have hB := bl_call hb1 (by assumption); clear hb1))
  go_ret
  exact ⟨rfl, by assumption⟩

set_option maxHeartbeats 400000 in
theorem validBig (l : List UInt8) (hl : 1048576 < l.length) (w : World) :
    Calls Try.prog 3 #[.string (bs l)] w fun e w' => e = .returned (.bool true) ∧ Below w.heap.size w w' := by
  have hb : (1048576 : Int) < l.length := by omega
  go_enter Try.func3, Try.ntmps3
  go_wp2
  go_ret
  exact ⟨rfl, Below.refl _ _⟩

set_option maxHeartbeats 400000 in
theorem sValid_any (l : List UInt8) (hl : l.length ≤ 1048576) (w : World) :
    Calls Try.prog 15 #[.string (bs l)] w fun e w' => e = .returned (.bool (vld l)) ∧ Below w.heap.size w w' := by
  have hB0 := Below.refl w.heap.size w
  go_enter Try.func15, Try.ntmps15
  go_wp2_with (first
    | ((go_at_call 41); refine (ok_any l hl _).mono ?_; rintro e w1 ⟨rfl, rfl⟩))
  go_ret
  exact ⟨rfl, by assumption⟩

theorem validWalk (s : ByteArray) (w : World) (_ : s.size ≤ maxLen) : Calls Try.prog 3 #[.string s] w fun e w' => e = .returned (.bool true) ∧ Below w.heap.size w w' := by
  obtain ⟨l, rfl⟩ := bs_of s
  by_cases hl : l.length ≤ 1048576
  · exact validLaw l hl (vld l) (fun w => sValid_any l hl w) (fun w => (iValid_any l hl w).mono fun _ _ ⟨h1, h2⟩ => ⟨h1, bl_same h2⟩) w
  · exact validBig l (by omega) w

set_option maxHeartbeats 400000 in
theorem invLaw (l : List UInt8) (hl : l.length ≤ 1048576) (r : ByteArray) (c : Int)
    (hs : ∀ w, Calls Try.prog 21 #[.string (bs l)] w fun e w' => e = .returned (.tuple #[.string r, .int .i64 c]) ∧ Below w.heap.size w w')
    (hm : ∀ w, Calls Try.prog 22 #[.string (bs l)] w fun e w' => e = .returned (.tuple #[.string r, .int .i64 c]) ∧ Below w.heap.size w w') (w : World) :
    Calls Try.prog 6 #[.string (bs l)] w fun e w' => e = .returned (.bool true) ∧ Below w.heap.size w w' := by
  have hB0 := Below.refl w.heap.size w
  have KS := Lib.hid hs
  have KI := Lib.hid hm
  clear hs hm
  have hn : ¬ (1048576 : Int) < l.length := by omega
  go_enter Try.func6, Try.ntmps6
  go_wp2_with (first
    | ((go_at_call 21); refine (KS.out _).mono ?_; rintro e w1 ⟨rfl, hb1⟩; have hB := bl_call hb1 (by assumption); clear hb1)
    | ((go_at_call 22); refine (KI.out _).mono ?_; rintro e w1 ⟨rfl, hb1⟩; have hB := bl_call hb1 (by assumption); clear hb1))
  go_ret
  exact ⟨rfl, by assumption⟩

set_option maxHeartbeats 400000 in
theorem invBig (l : List UInt8) (hl : 1048576 < l.length) (w : World) :
    Calls Try.prog 6 #[.string (bs l)] w fun e w' => e = .returned (.bool true) ∧ Below w.heap.size w w' := by
  have hb : (1048576 : Int) < l.length := by omega
  go_enter Try.func6, Try.ntmps6
  go_wp2
  go_ret
  exact ⟨rfl, Below.refl _ _⟩

theorem invWalk (s : ByteArray) (w : World) (_ : s.size ≤ maxLen) : Calls Try.prog 6 #[.string s] w fun e w' => e = .returned (.bool true) ∧ Below w.heap.size w w' := by
  obtain ⟨l, rfl⟩ := bs_of s
  by_cases hl : l.length ≤ 1048576
  · cases hv : vld l
    · exact invLaw l hl _ _ (fun w => sInvW_no l hl hv w) (fun w => iInvW_no l hl hv w) w
    · exact invLaw l hl _ _ (fun w => sInvW_yes l hl hv w) (fun w => iInvW_yes l hl hv w) w
  · exact invBig l (by omega) w

set_option maxHeartbeats 400000 in
theorem redLaw (l : List UInt8) (hl : l.length ≤ 1048576) (r : ByteArray) (c : Int)
    (hs : ∀ w, Calls Try.prog 23 #[.string (bs l)] w fun e w' => e = .returned (.tuple #[.string r, .int .i64 c]) ∧ Below w.heap.size w w')
    (hm : ∀ w, Calls Try.prog 24 #[.string (bs l)] w fun e w' => e = .returned (.tuple #[.string r, .int .i64 c]) ∧ Below w.heap.size w w') (w : World) :
    Calls Try.prog 7 #[.string (bs l)] w fun e w' => e = .returned (.bool true) ∧ Below w.heap.size w w' := by
  have hB0 := Below.refl w.heap.size w
  have KS := Lib.hid hs
  have KI := Lib.hid hm
  clear hs hm
  have hn : ¬ (1048576 : Int) < l.length := by omega
  go_enter Try.func7, Try.ntmps7
  go_wp2_with (first
    | ((go_at_call 23); refine (KS.out _).mono ?_; rintro e w1 ⟨rfl, hb1⟩; have hB := bl_call hb1 (by assumption); clear hb1)
    | ((go_at_call 24); refine (KI.out _).mono ?_; rintro e w1 ⟨rfl, hb1⟩; have hB := bl_call hb1 (by assumption); clear hb1))
  go_ret
  exact ⟨rfl, by assumption⟩

set_option maxHeartbeats 400000 in
theorem redBig (l : List UInt8) (hl : 1048576 < l.length) (w : World) :
    Calls Try.prog 7 #[.string (bs l)] w fun e w' => e = .returned (.bool true) ∧ Below w.heap.size w w' := by
  have hb : (1048576 : Int) < l.length := by omega
  go_enter Try.func7, Try.ntmps7
  go_wp2
  go_ret
  exact ⟨rfl, Below.refl _ _⟩

theorem redWalk (s : ByteArray) (w : World) (_ : s.size ≤ maxLen) : Calls Try.prog 7 #[.string s] w fun e w' => e = .returned (.bool true) ∧ Below w.heap.size w w' := by
  obtain ⟨l, rfl⟩ := bs_of s
  by_cases hl : l.length ≤ 1048576
  · cases hv : vld l
    · exact redLaw l hl _ _ (fun w => sRedW_no l hl hv w) (fun w => iRedW_no l hl hv w) w
    · exact redLaw l hl _ _ (fun w => sRedW_yes l hl hv w) (fun w => iRedW_yes l hl hv w) w
  · exact redBig l (by omega) w

set_option maxHeartbeats 400000 in
theorem isrLaw (l : List UInt8) (hl : l.length ≤ 1048576) (b : Bool) (c : Int)
    (hs : ∀ w, Calls Try.prog 25 #[.string (bs l)] w fun e w' => e = .returned (.tuple #[.bool b, .int .i64 c]) ∧ Below w.heap.size w w')
    (hm : ∀ w, Calls Try.prog 26 #[.string (bs l)] w fun e w' => e = .returned (.tuple #[.bool b, .int .i64 c]) ∧ Below w.heap.size w w') (w : World) :
    Calls Try.prog 8 #[.string (bs l)] w fun e w' => e = .returned (.bool true) ∧ Below w.heap.size w w' := by
  have hB0 := Below.refl w.heap.size w
  have KS := Lib.hid hs
  have KI := Lib.hid hm
  clear hs hm
  have hn : ¬ (1048576 : Int) < l.length := by omega
  go_enter Try.func8, Try.ntmps8
  go_wp2_with (first
    | ((go_at_call 25); refine (KS.out _).mono ?_; rintro e w1 ⟨rfl, hb1⟩; have hB := bl_call hb1 (by assumption); clear hb1)
    | ((go_at_call 26); refine (KI.out _).mono ?_; rintro e w1 ⟨rfl, hb1⟩; have hB := bl_call hb1 (by assumption); clear hb1))
  go_ret
  exact ⟨rfl, by assumption⟩

set_option maxHeartbeats 400000 in
theorem isrBig (l : List UInt8) (hl : 1048576 < l.length) (w : World) :
    Calls Try.prog 8 #[.string (bs l)] w fun e w' => e = .returned (.bool true) ∧ Below w.heap.size w w' := by
  have hb : (1048576 : Int) < l.length := by omega
  go_enter Try.func8, Try.ntmps8
  go_wp2
  go_ret
  exact ⟨rfl, Below.refl _ _⟩

theorem isrWalk (s : ByteArray) (w : World) (_ : s.size ≤ maxLen) : Calls Try.prog 8 #[.string s] w fun e w' => e = .returned (.bool true) ∧ Below w.heap.size w w' := by
  obtain ⟨l, rfl⟩ := bs_of s
  by_cases hl : l.length ≤ 1048576
  · cases hv : vld l
    · exact isrLaw l hl _ _ (fun w => sIsR_no l hl hv w) (fun w => iIsR_no l hl hv w) w
    · exact isrLaw l hl _ _ (fun w => sIsR_yes l hl hv w) (fun w => iIsR_yes l hl hv w) w
  · exact isrBig l (by omega) w

set_option maxHeartbeats 400000 in
theorem joinLaw (u l : List UInt8) (hu : u.length ≤ 1048576) (hl : l.length ≤ 1048576) (r : ByteArray) (c : Int)
    (hs : ∀ w, Calls Try.prog 35 #[.string (bs u), .string (bs l)] w fun e w' => e = .returned (.tuple #[.string r, .int .i64 c]) ∧ Below w.heap.size w w')
    (hm : ∀ w, Calls Try.prog 36 #[.string (bs u), .string (bs l)] w fun e w' => e = .returned (.tuple #[.string r, .int .i64 c]) ∧ Below w.heap.size w w') (w : World) :
    Calls Try.prog 12 #[.string (bs u), .string (bs l)] w fun e w' => e = .returned (.bool true) ∧ Below w.heap.size w w' := by
  have hB0 := Below.refl w.heap.size w
  have KS := Lib.hid hs
  have KI := Lib.hid hm
  clear hs hm
  have hn1 : ¬ (1048576 : Int) < u.length := by omega
  have hn2 : ¬ (1048576 : Int) < l.length := by omega
  go_enter Try.func12, Try.ntmps12
  go_wp2_with (first
    | ((go_at_call 35); refine (KS.out _).mono ?_; rintro e w1 ⟨rfl, hb1⟩; have hB := bl_call hb1 (by assumption); clear hb1)
    | ((go_at_call 36); refine (KI.out _).mono ?_; rintro e w1 ⟨rfl, hb1⟩; have hB := bl_call hb1 (by assumption); clear hb1))
  go_ret
  exact ⟨rfl, by assumption⟩

set_option maxHeartbeats 400000 in
theorem joinBig1 (u l : List UInt8) (hu : 1048576 < u.length) (w : World) :
    Calls Try.prog 12 #[.string (bs u), .string (bs l)] w fun e w' => e = .returned (.bool true) ∧ Below w.heap.size w w' := by
  have hb : (1048576 : Int) < u.length := by omega
  go_enter Try.func12, Try.ntmps12
  go_wp2
  go_ret
  exact ⟨rfl, Below.refl _ _⟩

set_option maxHeartbeats 400000 in
theorem joinBig2 (u l : List UInt8) (hu : u.length ≤ 1048576) (hl : 1048576 < l.length) (w : World) :
    Calls Try.prog 12 #[.string (bs u), .string (bs l)] w fun e w' => e = .returned (.bool true) ∧ Below w.heap.size w w' := by
  have hb1 : ¬ (1048576 : Int) < u.length := by omega
  have hb : (1048576 : Int) < l.length := by omega
  go_enter Try.func12, Try.ntmps12
  go_wp2
  go_ret
  exact ⟨rfl, Below.refl _ _⟩

theorem joinWalk (s t : ByteArray) (w : World) (_ : s.size ≤ maxLen) (_ : t.size ≤ maxLen) : Calls Try.prog 12 #[.string s, .string t] w fun e w' => e = .returned (.bool true) ∧ Below w.heap.size w w' := by
  obtain ⟨u, rfl⟩ := bs_of s
  obtain ⟨l, rfl⟩ := bs_of t
  by_cases hu : u.length ≤ 1048576
  · by_cases hl : l.length ≤ 1048576
    · cases h1 : vld u
      · exact joinLaw u l hu hl _ _ (fun w => sJoin_no1 u l hu hl h1 w) (fun w => iJoin_no1 u l hu hl h1 w) w
      · cases h2 : vld l
        · exact joinLaw u l hu hl _ _ (fun w => sJoin_no2 u l hu hl h1 h2 w) (fun w => iJoin_no2 u l hu hl h1 h2 w) w
        · by_cases h3 : (Wd.red (u ++ l)).length ≤ 40
          · exact joinLaw u l hu hl _ _ (fun w => sJoin_yes u l hu hl h1 h2 h3 w) (fun w => iJoin_yes u l hu hl h1 h2 h3 w) w
          · exact joinLaw u l hu hl _ _ (fun w => sJoin_long u l hu hl h1 h2 (by omega) w) (fun w => iJoin_long u l hu hl h1 h2 (by omega) w) w
    · exact joinBig2 u l hu (by omega) w
  · exact joinBig1 u l (by omega) w

end Go.Proofs.Ytalbagjgkcgblaa
