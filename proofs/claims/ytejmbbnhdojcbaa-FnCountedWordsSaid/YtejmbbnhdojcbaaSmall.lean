/- The small functions over words, and the laws over ValidWord, InverseWord, ReduceWord, IsReduced, JoinReduced: the walks. Conditions: none. -/
import Derived.Test.YtejmbbnhdojcbaaRed
import Derived.Deep.RegionWith
namespace Go.Proofs.Ytejmbbnhdojcbaa
open Go.RowKit
set_option linter.unusedVariables false

theorem red_same : ∀ l : List UInt8, (Wd.red l).length = l.length → Wd.red l = l := by
  refine Wd.snocInd (fun _ => rfl) fun l c ih h => ?_
  rw [Wd.red_snoc] at h ⊢
  have h1 := (Wd.red_length l).1
  have h2 := Wd.step_length (Wd.red l) c
  have h3 : (Wd.step (Wd.red l) c).length = (Wd.red l).length + 1 := by simp at h; omega
  have h4 : (Wd.red l).length = l.length := by simp at h; omega
  have h5 := ih h4
  rw [h5] at h3 ⊢
  unfold Wd.step at h3 ⊢
  split
  · rename_i hc; rw [if_pos hc] at h3; simp at h3
  · rfl
/-- Is a word reduced? -/
def isRed (l : List UInt8) : Bool := decide (Wd.red l = l)
theorem isRed_len (l : List UInt8) : (((Wd.red l).length : Int) == (l.length : Int)) = isRed l := by
  unfold isRed
  by_cases h : Wd.red l = l
  · rw [h]; simp
  · simp only [h, decide_false, beq_eq_false_iff_ne]
    intro e; exact h (red_same l (by omega))
theorem bs_toList (l : List UInt8) : (bs l).toList = l := ByteArray.toList_mk l
theorem isRed_str (l : List UInt8) : ((bs (Wd.red l)).toList == (bs l).toList) = isRed l := by
  unfold isRed
  rw [bs_toList, bs_toList]
  by_cases h : Wd.red l = l
  · rw [h]; simp
  · simp only [h, decide_false, beq_eq_false_iff_ne]
    exact h

set_option maxHeartbeats 400000 in
theorem isReduced_any (l : List UInt8) (hl : l.length ≤ 1048576) (w : World) :
    Calls Try.prog 40 #[.string (bs l)] w fun e w' => e = .returned (.bool (isRed l)) ∧ Below w.heap.size w w' := by
  have hB0 := Below.refl w.heap.size w
  have rl := (Wd.red_length l).1
  have e0 := isRed_len l
  have E0 := Lib.hid e0
  clear e0
  go_enter Try.func40, Try.ntmps40
  go_wp2_with (first
    | ((go_at_call 53); refine (iRed_any l hl _).mono ?_; rintro e w1 ⟨rfl, hb1⟩; have hB := bl_call hb1 (by assumption); clear hb1))
  go_ret
  exact ⟨by rw [← E0.out]; rfl, by assumption⟩



set_option maxHeartbeats 400000 in
theorem iInvW_yes (l : List UInt8) (hl : l.length ≤ 1048576) (hv : vld l = true) (w : World) :
    Calls Try.prog 25 #[.string (bs l)] w fun e w' => e = .returned (.tuple #[.string (bs (Wd.inv l)), .int .i64 0]) ∧ Below w.heap.size w w' := by
  have hB0 := Below.refl w.heap.size w
  have HV := Lib.hid hv
  go_enter Try.func25, Try.ntmps25
  go_wp2_with (first
    | ((go_at_call 35); refine (iValid_any l hl _).mono ?_; rintro e w1 ⟨rfl, rfl⟩)
    | ((go_at_call 52); refine (iInv_any l hl _).mono ?_; rintro e w1 ⟨rfl, hb1⟩; have hB := bl_call hb1 (by assumption); clear hb1))
  go_ret2
  exact ⟨rfl, by assumption⟩

set_option maxHeartbeats 400000 in
theorem iInvW_no (l : List UInt8) (hl : l.length ≤ 1048576) (hv : vld l = false) (w : World) :
    Calls Try.prog 25 #[.string (bs l)] w fun e w' => e = .returned (.tuple #[.string (bs []), .int .i64 1]) ∧ Below w.heap.size w w' := by
  have hB0 := Below.refl w.heap.size w
  go_enter Try.func25, Try.ntmps25
  go_wp2_with (first
    | ((go_at_call 35); refine (iValid_any l hl _).mono ?_; rintro e w1 ⟨rfl, rfl⟩))
  go_ret2
  exact ⟨rfl, by assumption⟩



set_option maxHeartbeats 400000 in
theorem iRedW_yes (l : List UInt8) (hl : l.length ≤ 1048576) (hv : vld l = true) (w : World) :
    Calls Try.prog 26 #[.string (bs l)] w fun e w' => e = .returned (.tuple #[.string (bs (Wd.red l)), .int .i64 0]) ∧ Below w.heap.size w w' := by
  have hB0 := Below.refl w.heap.size w
  have HV := Lib.hid hv
  go_enter Try.func26, Try.ntmps26
  go_wp2_with (first
    | ((go_at_call 35); refine (iValid_any l hl _).mono ?_; rintro e w1 ⟨rfl, rfl⟩)
    | ((go_at_call 53); refine (iRed_any l hl _).mono ?_; rintro e w1 ⟨rfl, hb1⟩; have hB := bl_call hb1 (by assumption); clear hb1))
  go_ret2
  exact ⟨rfl, by assumption⟩

set_option maxHeartbeats 400000 in
theorem iRedW_no (l : List UInt8) (hl : l.length ≤ 1048576) (hv : vld l = false) (w : World) :
    Calls Try.prog 26 #[.string (bs l)] w fun e w' => e = .returned (.tuple #[.string (bs []), .int .i64 1]) ∧ Below w.heap.size w w' := by
  have hB0 := Below.refl w.heap.size w
  go_enter Try.func26, Try.ntmps26
  go_wp2_with (first
    | ((go_at_call 35); refine (iValid_any l hl _).mono ?_; rintro e w1 ⟨rfl, rfl⟩))
  go_ret2
  exact ⟨rfl, by assumption⟩



set_option maxHeartbeats 400000 in
theorem iIsR_yes (l : List UInt8) (hl : l.length ≤ 1048576) (hv : vld l = true) (w : World) :
    Calls Try.prog 18 #[.string (bs l)] w fun e w' => e = .returned (.tuple #[.bool (isRed l), .int .i64 0]) ∧ Below w.heap.size w w' := by
  have hB0 := Below.refl w.heap.size w
  go_enter Try.func18, Try.ntmps18
  go_wp2_with (first
    | ((go_at_call 35); refine (iValid_any l hl _).mono ?_; rintro e w1 ⟨rfl, rfl⟩)
    | ((go_at_call 40); refine (isReduced_any l hl _).mono ?_; rintro e w1 ⟨rfl, hb1⟩; have hB := bl_call hb1 (by assumption); clear hb1))
  go_ret2
  exact ⟨rfl, by assumption⟩

set_option maxHeartbeats 400000 in
theorem iIsR_no (l : List UInt8) (hl : l.length ≤ 1048576) (hv : vld l = false) (w : World) :
    Calls Try.prog 18 #[.string (bs l)] w fun e w' => e = .returned (.tuple #[.bool false, .int .i64 1]) ∧ Below w.heap.size w w' := by
  have hB0 := Below.refl w.heap.size w
  go_enter Try.func18, Try.ntmps18
  go_wp2_with (first
    | ((go_at_call 35); refine (iValid_any l hl _).mono ?_; rintro e w1 ⟨rfl, rfl⟩))
  go_ret2
  exact ⟨rfl, by assumption⟩



set_option maxHeartbeats 400000 in
theorem orLong_yes (l : List UInt8) (hl : l.length ≤ 1048576) (h : (Wd.red l).length ≤ 40) (w : World) :
    Calls Try.prog 37 #[.string (bs l)] w fun e w' => e = .returned (.tuple #[.string (bs (Wd.red l)), .int .i64 0]) ∧ Below w.heap.size w w' := by
  have hB0 := Below.refl w.heap.size w
  have hn : ¬ (40 : Int) < (Wd.red l).length := by omega
  go_enter Try.func37, Try.ntmps37
  go_wp2_with (first
    | ((go_at_call 53); refine (iRed_any l hl _).mono ?_; rintro e w1 ⟨rfl, hb1⟩; have hB := bl_call hb1 (by assumption); clear hb1))
  go_ret2
  exact ⟨rfl, by assumption⟩

set_option maxHeartbeats 400000 in
theorem orLong_no (l : List UInt8) (hl : l.length ≤ 1048576) (h : 40 < (Wd.red l).length) (w : World) :
    Calls Try.prog 37 #[.string (bs l)] w fun e w' => e = .returned (.tuple #[.string (bs []), .int .i64 3]) ∧ Below w.heap.size w w' := by
  have hB0 := Below.refl w.heap.size w
  have hn : (40 : Int) < (Wd.red l).length := by omega
  go_enter Try.func37, Try.ntmps37
  go_wp2_with (first
    | ((go_at_call 53); refine (iRed_any l hl _).mono ?_; rintro e w1 ⟨rfl, hb1⟩; have hB := bl_call hb1 (by assumption); clear hb1))
  go_ret2
  exact ⟨rfl, by assumption⟩

/-- The code and the text of a join. -/
def joinL (u l : List UInt8) : List UInt8 := if (Wd.red (u ++ l)).length ≤ 40 then Wd.red (u ++ l) else []
def joinC (u l : List UInt8) : Int := if (Wd.red (u ++ l)).length ≤ 40 then 0 else 3
theorem both_len {u l : List UInt8} (h1 : vld u = true) (h2 : vld l = true) : (u ++ l).length ≤ 1048576 := by
  have a := (vld_iff.1 h1).2
  have b := (vld_iff.1 h2).2
  simp; omega
theorem both_all {u l : List UInt8} (h1 : vld u = true) (h2 : vld l = true) : ∀ x ∈ u ++ l, Wd.isL x = true := by
  intro x hx
  rcases List.mem_append.1 hx with h | h
  · exact (vld_iff.1 h1).1 x h
  · exact (vld_iff.1 h2).1 x h





set_option maxHeartbeats 400000 in
theorem iJoin_no1 (u l : List UInt8) (hu : u.length ≤ 1048576) (hl : l.length ≤ 1048576) (h1 : vld u = false) (w : World) :
    Calls Try.prog 11 #[.string (bs u), .string (bs l)] w fun e w' => e = .returned (.tuple #[.string (bs []), .int .i64 1]) ∧ Below w.heap.size w w' := by
  have hB0 := Below.refl w.heap.size w
  go_enter Try.func11, Try.ntmps11
  go_wp2_with (first
    | ((go_at_call_of 35 (Value.string (bs u))); refine (iValid_any u hu _).mono ?_; rintro e w1 ⟨rfl, rfl⟩)
    | ((go_at_call_of 35 (Value.string (bs l))); refine (iValid_any l hl _).mono ?_; rintro e w1 ⟨rfl, rfl⟩))
  go_ret2
  exact ⟨rfl, by assumption⟩

set_option maxHeartbeats 400000 in
theorem iJoin_no2 (u l : List UInt8) (hu : u.length ≤ 1048576) (hl : l.length ≤ 1048576) (h1 : vld u = true) (h2 : vld l = false) (w : World) :
    Calls Try.prog 11 #[.string (bs u), .string (bs l)] w fun e w' => e = .returned (.tuple #[.string (bs []), .int .i64 1]) ∧ Below w.heap.size w w' := by
  have hB0 := Below.refl w.heap.size w
  go_enter Try.func11, Try.ntmps11
  go_wp2_with (first
    | ((go_at_call_of 35 (Value.string (bs u))); refine (iValid_any u hu _).mono ?_; rintro e w1 ⟨rfl, rfl⟩)
    | ((go_at_call_of 35 (Value.string (bs l))); refine (iValid_any l hl _).mono ?_; rintro e w1 ⟨rfl, rfl⟩))
  go_ret2
  exact ⟨rfl, by assumption⟩

set_option maxHeartbeats 400000 in
theorem iJoin_yes (u l : List UInt8) (hu : u.length ≤ 1048576) (hl : l.length ≤ 1048576) (h1 : vld u = true) (h2 : vld l = true) (h3 : (Wd.red (u ++ l)).length ≤ 40) (w : World) :
    Calls Try.prog 11 #[.string (bs u), .string (bs l)] w fun e w' => e = .returned (.tuple #[.string (bs (Wd.red (u ++ l))), .int .i64 0]) ∧ Below w.heap.size w w' := by
  have hB0 := Below.refl w.heap.size w
  have H1 := Lib.hid h1
  have H2 := Lib.hid h2
  go_enter Try.func11, Try.ntmps11
  go_wp2_with (first
    | ((go_at_call_of 35 (Value.string (bs u))); refine (iValid_any u hu _).mono ?_; rintro e w1 ⟨rfl, rfl⟩)
    | ((go_at_call_of 35 (Value.string (bs l))); refine (iValid_any l hl _).mono ?_; rintro e w1 ⟨rfl, rfl⟩)
    | ((go_at_call 37); refine (orLong_yes (u ++ l) (both_len H1.out H2.out) h3 _).mono ?_; rintro e w1 ⟨rfl, hb1⟩; have hB := bl_call hb1 (by assumption); clear hb1))
  go_ret2
  exact ⟨rfl, by assumption⟩

set_option maxHeartbeats 400000 in
theorem iJoin_long (u l : List UInt8) (hu : u.length ≤ 1048576) (hl : l.length ≤ 1048576) (h1 : vld u = true) (h2 : vld l = true) (h3 : 40 < (Wd.red (u ++ l)).length) (w : World) :
    Calls Try.prog 11 #[.string (bs u), .string (bs l)] w fun e w' => e = .returned (.tuple #[.string (bs []), .int .i64 3]) ∧ Below w.heap.size w w' := by
  have hB0 := Below.refl w.heap.size w
  have H1 := Lib.hid h1
  have H2 := Lib.hid h2
  go_enter Try.func11, Try.ntmps11
  go_wp2_with (first
    | ((go_at_call_of 35 (Value.string (bs u))); refine (iValid_any u hu _).mono ?_; rintro e w1 ⟨rfl, rfl⟩)
    | ((go_at_call_of 35 (Value.string (bs l))); refine (iValid_any l hl _).mono ?_; rintro e w1 ⟨rfl, rfl⟩)
    | ((go_at_call 37); refine (orLong_no (u ++ l) (both_len H1.out H2.out) h3 _).mono ?_; rintro e w1 ⟨rfl, hb1⟩; have hB := bl_call hb1 (by assumption); clear hb1))
  go_ret2
  exact ⟨rfl, by assumption⟩


















end Go.Proofs.Ytejmbbnhdojcbaa
