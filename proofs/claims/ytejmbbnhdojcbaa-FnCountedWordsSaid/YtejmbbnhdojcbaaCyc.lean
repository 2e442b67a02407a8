/- CyclicCore: the walks of both sides and of the law. Conditions: none. -/
import Derived.Test.YtejmbbnhdojcbaaCom
namespace Go.Proofs.Ytejmbbnhdojcbaa
open Go.RowKit
set_option linter.unusedVariables false



set_option maxHeartbeats 400000 in
theorem iCyc_yes (l : List UInt8) (hl : l.length ≤ 1048576) (hv : vld l = true) (w : World) :
    Calls Try.prog 24 #[.string (bs l)] w fun e w' => e = .returned (.tuple #[.string (bs (coreOf l)), .string (bs (frontOf l)), .int .i64 0]) ∧ Below w.heap.size w w' := by
  have hB0 := Below.refl w.heap.size w
  have HV := Lib.hid hv
  have hl2 : l.length ≤ 1000 := by have := (vld_iff.1 hv).2; omega
  go_enter Try.func24, Try.ntmps24
  go_wp2_with (first
    | ((go_at_call 35); refine (iValid_any l hl _).mono ?_; rintro e w1 ⟨rfl, rfl⟩)
    | ((go_at_call 51); refine (iCore_any l hl2 (vld_iff.1 HV.out).1 _).mono ?_; rintro e w1 ⟨rfl, hb1⟩; have hB := bl_call hb1 (by assumption); clear hb1))
  go_ret3
  exact ⟨rfl, by assumption⟩

set_option maxHeartbeats 400000 in
theorem iCyc_no (l : List UInt8) (hl : l.length ≤ 1048576) (hv : vld l = false) (w : World) :
    Calls Try.prog 24 #[.string (bs l)] w fun e w' => e = .returned (.tuple #[.string (bs []), .string (bs []), .int .i64 1]) ∧ Below w.heap.size w w' := by
  have hB0 := Below.refl w.heap.size w
  go_enter Try.func24, Try.ntmps24
  go_wp2_with (first
    | ((go_at_call 35); refine (iValid_any l hl _).mono ?_; rintro e w1 ⟨rfl, rfl⟩))
  go_ret3
  exact ⟨rfl, by assumption⟩




end Go.Proofs.Ytejmbbnhdojcbaa
