/- CyclicCore: the walks of both sides and of the law. Conditions: none. -/
import Derived.Test.YtalbagjgkcgblaaCom
namespace Go.Proofs.Ytalbagjgkcgblaa
open Go.RowKit
set_option linter.unusedVariables false

set_option maxHeartbeats 400000 in
theorem sCyc_yes (l : List UInt8) (hl : l.length ≤ 1048576) (hv : vld l = true) (w : World) :
    Calls Try.prog 37 #[.string (bs l)] w fun e w' => e = .returned (.tuple #[.string (bs (coreOf l)), .string (bs (frontOf l)), .int .i64 0]) ∧ Below w.heap.size w w' := by
  have hB0 := Below.refl w.heap.size w
  have HV := Lib.hid hv
  have hl2 : l.length ≤ 1000 := by have := (vld_iff.1 hv).2; omega
  go_enter Try.func37, Try.ntmps37
  go_wp2_with (first
    | ((go_at_call 41); refine (ok_any l hl _).mono ?_; rintro e w1 ⟨rfl, rfl⟩)
    | ((go_at_call 59); refine (sCore_any l hl2 (vld_iff.1 HV.out).1 _).mono ?_; rintro e w1 ⟨rfl, hb1⟩; have hB := bl_call hb1 (by assumption); clear hb1))
  go_ret3
  exact ⟨rfl, by assumption⟩

set_option maxHeartbeats 400000 in
theorem sCyc_no (l : List UInt8) (hl : l.length ≤ 1048576) (hv : vld l = false) (w : World) :
    Calls Try.prog 37 #[.string (bs l)] w fun e w' => e = .returned (.tuple #[.string (bs []), .string (bs []), .int .i64 1]) ∧ Below w.heap.size w w' := by
  have hB0 := Below.refl w.heap.size w
  go_enter Try.func37, Try.ntmps37
  go_wp2_with (first
    | ((go_at_call 41); refine (ok_any l hl _).mono ?_; rintro e w1 ⟨rfl, rfl⟩))
  go_ret3
  exact ⟨rfl, by assumption⟩

set_option maxHeartbeats 400000 in
theorem iCyc_yes (l : List UInt8) (hl : l.length ≤ 1048576) (hv : vld l = true) (w : World) :
    Calls Try.prog 38 #[.string (bs l)] w fun e w' => e = .returned (.tuple #[.string (bs (coreOf l)), .string (bs (frontOf l)), .int .i64 0]) ∧ Below w.heap.size w w' := by
  have hB0 := Below.refl w.heap.size w
  have HV := Lib.hid hv
  have hl2 : l.length ≤ 1000 := by have := (vld_iff.1 hv).2; omega
  go_enter Try.func38, Try.ntmps38
  go_wp2_with (first
    | ((go_at_call 16); refine (iValid_any l hl _).mono ?_; rintro e w1 ⟨rfl, rfl⟩)
    | ((go_at_call 60); refine (iCore_any l hl2 (vld_iff.1 HV.out).1 _).mono ?_; rintro e w1 ⟨rfl, hb1⟩; have hB := bl_call hb1 (by assumption); clear hb1))
  go_ret3
  exact ⟨rfl, by assumption⟩

set_option maxHeartbeats 400000 in
theorem iCyc_no (l : List UInt8) (hl : l.length ≤ 1048576) (hv : vld l = false) (w : World) :
    Calls Try.prog 38 #[.string (bs l)] w fun e w' => e = .returned (.tuple #[.string (bs []), .string (bs []), .int .i64 1]) ∧ Below w.heap.size w w' := by
  have hB0 := Below.refl w.heap.size w
  go_enter Try.func38, Try.ntmps38
  go_wp2_with (first
    | ((go_at_call 16); refine (iValid_any l hl _).mono ?_; rintro e w1 ⟨rfl, rfl⟩))
  go_ret3
  exact ⟨rfl, by assumption⟩

set_option maxHeartbeats 400000 in
theorem cycLaw (l : List UInt8) (hl : l.length ≤ 1048576) (r q : ByteArray) (c : Int)
    (hs : ∀ w, Calls Try.prog 37 #[.string (bs l)] w fun e w' => e = .returned (.tuple #[.string r, .string q, .int .i64 c]) ∧ Below w.heap.size w w')
    (hm : ∀ w, Calls Try.prog 38 #[.string (bs l)] w fun e w' => e = .returned (.tuple #[.string r, .string q, .int .i64 c]) ∧ Below w.heap.size w w') (w : World) :
    Calls Try.prog 13 #[.string (bs l)] w fun e w' => e = .returned (.bool true) ∧ Below w.heap.size w w' := by
  have hB0 := Below.refl w.heap.size w
  have KS := Lib.hid hs
  have KI := Lib.hid hm
  clear hs hm
  have hn : ¬ (1048576 : Int) < l.length := by omega
  go_enter Try.func13, Try.ntmps13
  go_wp2_with (first
    | ((go_at_call 37); refine (KS.out _).mono ?_; rintro e w1 ⟨rfl, hb1⟩; have hB := bl_call hb1 (by assumption); clear hb1)
    | ((go_at_call 38); refine (KI.out _).mono ?_; rintro e w1 ⟨rfl, hb1⟩; have hB := bl_call hb1 (by assumption); clear hb1))
  go_ret
  exact ⟨rfl, by assumption⟩

set_option maxHeartbeats 400000 in
theorem cycBig (l : List UInt8) (hl : 1048576 < l.length) (w : World) :
    Calls Try.prog 13 #[.string (bs l)] w fun e w' => e = .returned (.bool true) ∧ Below w.heap.size w w' := by
  have hb : (1048576 : Int) < l.length := by omega
  go_enter Try.func13, Try.ntmps13
  go_wp2
  go_ret
  exact ⟨rfl, Below.refl _ _⟩

theorem cycWalk (s : ByteArray) (w : World) (_ : s.size ≤ maxLen) : Calls Try.prog 13 #[.string s] w fun e w' => e = .returned (.bool true) ∧ Below w.heap.size w w' := by
  obtain ⟨l, rfl⟩ := bs_of s
  by_cases hl : l.length ≤ 1048576
  · cases hv : vld l
    · exact cycLaw l hl _ _ _ (fun w => sCyc_no l hl hv w) (fun w => iCyc_no l hl hv w) w
    · exact cycLaw l hl _ _ _ (fun w => sCyc_yes l hl hv w) (fun w => iCyc_yes l hl hv w) w
  · exact cycBig l (by omega) w

end Go.Proofs.Ytalbagjgkcgblaa
