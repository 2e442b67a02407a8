/- ReadMask: the walk of the law. Conditions: none. -/
import Derived.Test.YtbkbjiifklhgiaaDoorRd2
namespace Go.Proofs.YtbkbjiifklhgiaaDoor
open Go.RowKit
set_option linter.unusedVariables false

set_option maxRecDepth 100000 in
set_option maxHeartbeats 3200000 in
theorem rdLaw (L : List UInt8) (hl : L.length ≤ 1048576) (rs : List Int) (c m : Int) (hr : rs.length = 16)
    (hs : ∀ w, Calls Tryd.prog 4 #[.string (bs L)] w fun e w' => e = .returned (.tuple #[.agg (mk rs), .int .i64 c]) ∧ Below w.heap.size w w')
    (hi : ∀ w : World, w.cell? ⟨0, 0, none⟩ = some (.int .i64 m) → Calls Tryd.prog 5 #[.string (bs L)] w fun e w' => e = .returned (.tuple #[.agg (mk rs), .int .i64 c]) ∧ Below w.heap.size w w') (w : World) (hm : w.cell? ⟨0, 0, none⟩ = some (.int .i64 m)) :
    Calls Tryd.prog 3 #[.string (bs L)] w fun e w' => e = .returned (.bool true) ∧ Below w.heap.size w w' := by
  have S0 := St.zero w
  have Z := lit0
  have hj := infoSize26 rs hr
  have hk := mk_same rs hr
  have hR := Lib.hid hr
  have KS := Lib.hid hs
  have KI := Lib.hid hi
  have h0 : 0 < w.heap.size := World.block_lt_of_cell? w ⟨0, 0, none⟩ hm
  have HM := Lib.hid (show ∀ w' : World, Below w.heap.size w w' → w'.cell? ⟨0, 0, none⟩ = some (.int .i64 m) from fun w' hb => (hb.cell (p := ⟨0, 0, none⟩) h0).trans hm)
  have d : ¬ (1048576 : Int) < L.length := by omega
  clear hs hi hm hr h0 hl
  go_enter Tryd.func3, Tryd.ntmps3
  go_wp2_with (first
      | (go_at_call 4; refine (KS.out _).mono ?_; rintro e w1 ⟨rfl, hb⟩; have hS := St.call hb (by assumption); clear hb)
      | (go_at_call 5; refine (KI.out _ (HM.out _ (St.below (by assumption)))).mono ?_; rintro e w1 ⟨rfl, hb⟩; have hS := St.call hb (by assumption); clear hb)
      | (refine wpList_store_row rfl 24 (.tmp 3) (.tmp 13) rfl _ (mk rs) rfl rfl 24 (mk zs0) (one_first _ _) hj hk (mk_one _) ?_; have hS := St.fresh (by assumption) (mk zs0) (mk rs) 24)
      | (refine wpList_store_row rfl 24 (.tmp 5) (.tmp 18) rfl _ (mk rs) rfl rfl 24 (mk zs0) (one_first _ _) hj hk (mk_one _) ?_; have hS := St.fresh (by assumption) (mk zs0) (mk rs) 24)
      | (go_at_call 6; refine (eqMask_any rs hR.out _).mono ?_; rintro e w1 ⟨rfl, hb⟩; have hS := St.call hb (by assumption); clear hb)
      | (refine wpList_load_row rfl 24 (.tmp 5) rfl _ rfl 24 (mk rs) (0, 0) _ (St.get (by assumption) 1 rfl) Tryd.underlying24 rfl hj ?_)
      | (refine wpList_load_row rfl 24 (.tmp 3) rfl _ rfl 24 (mk rs) (0, 0) _ (St.get (by assumption) 0 rfl) Tryd.underlying24 rfl hj ?_))
  go_ret
  exact ⟨rfl, St.below (by assumption)⟩
set_option maxHeartbeats 400000 in
theorem rdBig (L : List UInt8) (hl : 1048576 < L.length) (w : World) :
    Calls Tryd.prog 3 #[.string (bs L)] w fun e w' => e = .returned (.bool true) ∧ Below w.heap.size w w' := by
  have d : (1048576 : Int) < L.length := by omega
  clear hl
  go_enter Tryd.func3, Tryd.ntmps3
  go_wp2
  go_ret
  exact ⟨rfl, Below.refl _ _⟩
theorem rdWalk (s : ByteArray) (m : Int) (w : World) (hm : w.cell? ⟨0, 0, none⟩ = some (.int .i64 m)) :
    Calls Tryd.prog 3 #[.string s] w fun e w' => e = .returned (.bool true) ∧ Below w.heap.size w w' := by
  obtain ⟨L, rfl⟩ := bs_of s
  by_cases h1 : L.length ≤ 1048576
  · have key : ∀ rs c, Res L rs c → Calls Tryd.prog 3 #[.string (bs L)] w fun e w' => e = .returned (.bool true) ∧ Below w.heap.size w w' := fun rs c hR =>
      rdLaw L h1 rs c m (res_len hR)
        (fun w => (sRd L h1 w).mono fun e w' ⟨⟨zs, c2, he, hr⟩, hb⟩ => by obtain ⟨rfl, rfl⟩ := res_one hr hR; exact ⟨he, hb⟩)
        (fun w hm => (iRd L h1 m w hm).mono fun e w' ⟨⟨zs, c2, he, hr⟩, hb⟩ => by obtain ⟨rfl, rfl⟩ := res_one hr hR; exact ⟨he, hb⟩) w hm
    by_cases hg : ∃ z0, Good L z0
    · obtain ⟨z0, hz⟩ := hg
      exact key z0 0 (.inl ⟨rfl, hz⟩)
    · exact key zs0 5 (.inr ⟨rfl, rfl, fun z0 hz => hg ⟨z0, hz⟩⟩)
  · exact rdBig L (by omega) w
end Go.Proofs.YtbkbjiifklhgiaaDoor
