/- JoinMasks, MeetMasks, MinusMasks: the walks of the laws. Conditions: none. -/
import Derived.Test.YtbkbjiifklhgiaaTwo
namespace Go.Proofs.Ytbkbjiifklhgiaa
open Go.RowKit
set_option linter.unusedVariables false

set_option maxRecDepth 100000 in
set_option maxHeartbeats 4000000 in
theorem lawJoin (xs ys rs : List Int) (ha : xs.length = 16) (hb : ys.length = 16) (hr : rs.length = 16)
    (hs : ∀ w, Calls Try.prog 22 #[.agg (mk xs), .agg (mk ys)] w fun e w' => e = .returned (.agg (mk rs)) ∧ Below w.heap.size w w')
    (hm : ∀ w, Calls Try.prog 23 #[.agg (mk xs), .agg (mk ys)] w fun e w' => e = .returned (.agg (mk rs)) ∧ Below w.heap.size w w') (w : World) :
    Calls Try.prog 4 #[.agg (mk xs), .agg (mk ys)] w fun e w' => e = .returned (.bool true) ∧ Below w.heap.size w w' := by
  have S0 := St.two w (.cells (mk xs) 23) (.cells (mk ys) 23)
  have hj := infoSize26 rs hr
  have KS := Lib.hid hs
  have KI := Lib.hid hm
  clear hs hm
  go_enter Try.func4, Try.ntmps4
  go_upto_region 1 with (fail)
  go_cut [5] (fun s5 wx => ∃ g : Nat, s5 = .pointer (some ⟨g, 0, none⟩) ∧ St w [(w.heap.size, .cells (mk xs) 23), (w.heap.size + 1, .cells (mk ys) 23), (g, .cells (mk rs) 26)] wx)
  case first =>
    refine (region_two 1 xs ys rs ha hb hr 22 Try.f22 Try.func22 (by kernel_rfl) (by kernel_rfl) KS.out 2 3 7 8 9 10 11 5 _ _ _ _ _ _ _ _ _ rfl ⟨rfl, rfl, rfl, rfl, rfl, rfl, rfl⟩ ⟨rfl, rfl, rfl, rfl, rfl, rfl, rfl⟩ rfl rfl rfl rfl rfl rfl rfl
      ⟨{ on := 0, ground := .data }, by simp, rfl, rfl⟩ ⟨{ on := 2, ground := .data }, by simp, rfl, rfl⟩ ⟨{ on := 1, ground := .data }, by simp, rfl, rfl⟩ ⟨{ on := 3, ground := .data }, by simp, rfl, rfl⟩ ⟨{ on := 4, ground := .data }, by simp, rfl, rfl⟩ ⟨{ on := 5, ground := .data }, by simp, rfl, rfl⟩ (by kernel_rfl) (by kernel_rfl) _ _ (by decide) (by simp) w.heap.size (w.heap.size + 1) w _ 0 1 rfl rfl S0 rfl rfl ?_)
    intro g w' h
    dsimp only
    simp only [List.setIfInBounds_toArray, List.set_cons_zero, List.set_cons_succ]
    have H := Lib.hid h
    clear h
    go_wp2_with (fail)
    go_meet
    case rel => exact ⟨g, rfl, H.out⟩
  case rest =>
    obtain ⟨g, rfl, S1⟩ := hcut
    go_upto_region 2 with (fail)
    go_cut [6] (fun s6 wx => ∃ g' : Nat, s6 = .pointer (some ⟨g', 0, none⟩) ∧ St w [(w.heap.size, .cells (mk xs) 23), (w.heap.size + 1, .cells (mk ys) 23), (g, .cells (mk rs) 26), (g', .cells (mk rs) 26)] wx)
    case first =>
      refine (region_two 2 xs ys rs ha hb hr 23 Try.f23 Try.func23 (by kernel_rfl) (by kernel_rfl) KI.out 2 3 12 13 14 15 16 6 _ _ _ _ _ _ _ _ _ rfl ⟨rfl, rfl, rfl, rfl, rfl, rfl, rfl⟩ ⟨rfl, rfl, rfl, rfl, rfl, rfl, rfl⟩ rfl rfl rfl rfl rfl rfl rfl
      ⟨{ on := 0, ground := .data }, by simp, rfl, rfl⟩ ⟨{ on := 2, ground := .data }, by simp, rfl, rfl⟩ ⟨{ on := 1, ground := .data }, by simp, rfl, rfl⟩ ⟨{ on := 3, ground := .data }, by simp, rfl, rfl⟩ ⟨{ on := 4, ground := .data }, by simp, rfl, rfl⟩ ⟨{ on := 5, ground := .data }, by simp, rfl, rfl⟩ (by kernel_rfl) (by kernel_rfl) _ _ (by decide) (by simp) w.heap.size (w.heap.size + 1) w _ 0 1 rfl rfl S1 rfl rfl ?_)
      intro g' w' h
      dsimp only
      simp only [List.setIfInBounds_toArray, List.set_cons_zero, List.set_cons_succ]
      have H := Lib.hid h
      clear h
      go_wp2_with (fail)
      go_meet
      case rel => exact ⟨g', rfl, H.out⟩
    case rest =>
      obtain ⟨g', rfl, S2⟩ := hcut
      go_wp2_with (first
        | (go_at_call 24; refine (eqMask_any rs hr _).mono ?_; rintro e w1 ⟨rfl, hb⟩; have hS := St.call hb (by assumption); clear hb)
        | (refine wpList_load_row rfl 26 (.tmp 6) rfl _ rfl 26 (mk rs) (0, 0) _ (St.get S2 3 rfl) Try.underlying26 rfl hj ?_)
        | (refine wpList_load_row rfl 26 (.tmp 5) rfl _ rfl 26 (mk rs) (0, 0) _ (St.get S2 2 rfl) Try.underlying26 rfl hj ?_))
      go_ret
      exact ⟨rfl, St.below (by assumption)⟩
theorem walkJoin (xs ys : List Int) (w : World) (ha : xs.length = 16) (_ : ∀ z ∈ xs, (Lit.int .u16 z).wf = true) (hb : ys.length = 16) (_ : ∀ z ∈ ys, (Lit.int .u16 z).wf = true) :
    Calls Try.prog 4 #[.agg (xs.map (Value.int .u16)).toArray, .agg (ys.map (Value.int .u16)).toArray] w fun e w' => e = .returned (.bool true) ∧ Below w.heap.size w w' :=
  lawJoin xs ys _ ha hb (by simp [ha, hb]) (fun w => sJoin xs ys ha hb w) (fun w => iJoin xs ys ha hb w) w

set_option maxRecDepth 100000 in
set_option maxHeartbeats 4000000 in
theorem lawMeet (xs ys rs : List Int) (ha : xs.length = 16) (hb : ys.length = 16) (hr : rs.length = 16)
    (hs : ∀ w, Calls Try.prog 25 #[.agg (mk xs), .agg (mk ys)] w fun e w' => e = .returned (.agg (mk rs)) ∧ Below w.heap.size w w')
    (hm : ∀ w, Calls Try.prog 26 #[.agg (mk xs), .agg (mk ys)] w fun e w' => e = .returned (.agg (mk rs)) ∧ Below w.heap.size w w') (w : World) :
    Calls Try.prog 5 #[.agg (mk xs), .agg (mk ys)] w fun e w' => e = .returned (.bool true) ∧ Below w.heap.size w w' := by
  have S0 := St.two w (.cells (mk xs) 23) (.cells (mk ys) 23)
  have hj := infoSize26 rs hr
  have KS := Lib.hid hs
  have KI := Lib.hid hm
  clear hs hm
  go_enter Try.func5, Try.ntmps5
  go_upto_region 1 with (fail)
  go_cut [5] (fun s5 wx => ∃ g : Nat, s5 = .pointer (some ⟨g, 0, none⟩) ∧ St w [(w.heap.size, .cells (mk xs) 23), (w.heap.size + 1, .cells (mk ys) 23), (g, .cells (mk rs) 26)] wx)
  case first =>
    refine (region_two 1 xs ys rs ha hb hr 25 Try.f25 Try.func25 (by kernel_rfl) (by kernel_rfl) KS.out 2 3 7 8 9 10 11 5 _ _ _ _ _ _ _ _ _ rfl ⟨rfl, rfl, rfl, rfl, rfl, rfl, rfl⟩ ⟨rfl, rfl, rfl, rfl, rfl, rfl, rfl⟩ rfl rfl rfl rfl rfl rfl rfl
      ⟨{ on := 0, ground := .data }, by simp, rfl, rfl⟩ ⟨{ on := 2, ground := .data }, by simp, rfl, rfl⟩ ⟨{ on := 1, ground := .data }, by simp, rfl, rfl⟩ ⟨{ on := 3, ground := .data }, by simp, rfl, rfl⟩ ⟨{ on := 4, ground := .data }, by simp, rfl, rfl⟩ ⟨{ on := 5, ground := .data }, by simp, rfl, rfl⟩ (by kernel_rfl) (by kernel_rfl) _ _ (by decide) (by simp) w.heap.size (w.heap.size + 1) w _ 0 1 rfl rfl S0 rfl rfl ?_)
    intro g w' h
    dsimp only
    simp only [List.setIfInBounds_toArray, List.set_cons_zero, List.set_cons_succ]
    have H := Lib.hid h
    clear h
    go_wp2_with (fail)
    go_meet
    case rel => exact ⟨g, rfl, H.out⟩
  case rest =>
    obtain ⟨g, rfl, S1⟩ := hcut
    go_upto_region 2 with (fail)
    go_cut [6] (fun s6 wx => ∃ g' : Nat, s6 = .pointer (some ⟨g', 0, none⟩) ∧ St w [(w.heap.size, .cells (mk xs) 23), (w.heap.size + 1, .cells (mk ys) 23), (g, .cells (mk rs) 26), (g', .cells (mk rs) 26)] wx)
    case first =>
      refine (region_two 2 xs ys rs ha hb hr 26 Try.f26 Try.func26 (by kernel_rfl) (by kernel_rfl) KI.out 2 3 12 13 14 15 16 6 _ _ _ _ _ _ _ _ _ rfl ⟨rfl, rfl, rfl, rfl, rfl, rfl, rfl⟩ ⟨rfl, rfl, rfl, rfl, rfl, rfl, rfl⟩ rfl rfl rfl rfl rfl rfl rfl
      ⟨{ on := 0, ground := .data }, by simp, rfl, rfl⟩ ⟨{ on := 2, ground := .data }, by simp, rfl, rfl⟩ ⟨{ on := 1, ground := .data }, by simp, rfl, rfl⟩ ⟨{ on := 3, ground := .data }, by simp, rfl, rfl⟩ ⟨{ on := 4, ground := .data }, by simp, rfl, rfl⟩ ⟨{ on := 5, ground := .data }, by simp, rfl, rfl⟩ (by kernel_rfl) (by kernel_rfl) _ _ (by decide) (by simp) w.heap.size (w.heap.size + 1) w _ 0 1 rfl rfl S1 rfl rfl ?_)
      intro g' w' h
      dsimp only
      simp only [List.setIfInBounds_toArray, List.set_cons_zero, List.set_cons_succ]
      have H := Lib.hid h
      clear h
      go_wp2_with (fail)
      go_meet
      case rel => exact ⟨g', rfl, H.out⟩
    case rest =>
      obtain ⟨g', rfl, S2⟩ := hcut
      go_wp2_with (first
        | (go_at_call 24; refine (eqMask_any rs hr _).mono ?_; rintro e w1 ⟨rfl, hb⟩; have hS := St.call hb (by assumption); clear hb)
        | (refine wpList_load_row rfl 26 (.tmp 6) rfl _ rfl 26 (mk rs) (0, 0) _ (St.get S2 3 rfl) Try.underlying26 rfl hj ?_)
        | (refine wpList_load_row rfl 26 (.tmp 5) rfl _ rfl 26 (mk rs) (0, 0) _ (St.get S2 2 rfl) Try.underlying26 rfl hj ?_))
      go_ret
      exact ⟨rfl, St.below (by assumption)⟩
theorem walkMeet (xs ys : List Int) (w : World) (ha : xs.length = 16) (_ : ∀ z ∈ xs, (Lit.int .u16 z).wf = true) (hb : ys.length = 16) (_ : ∀ z ∈ ys, (Lit.int .u16 z).wf = true) :
    Calls Try.prog 5 #[.agg (xs.map (Value.int .u16)).toArray, .agg (ys.map (Value.int .u16)).toArray] w fun e w' => e = .returned (.bool true) ∧ Below w.heap.size w w' :=
  lawMeet xs ys _ ha hb (by simp [ha, hb]) (fun w => sMeet xs ys ha hb w) (fun w => iMeet xs ys ha hb w) w

set_option maxRecDepth 100000 in
set_option maxHeartbeats 4000000 in
theorem lawMinus (xs ys rs : List Int) (ha : xs.length = 16) (hb : ys.length = 16) (hr : rs.length = 16)
    (hs : ∀ w, Calls Try.prog 27 #[.agg (mk xs), .agg (mk ys)] w fun e w' => e = .returned (.agg (mk rs)) ∧ Below w.heap.size w w')
    (hm : ∀ w, Calls Try.prog 28 #[.agg (mk xs), .agg (mk ys)] w fun e w' => e = .returned (.agg (mk rs)) ∧ Below w.heap.size w w') (w : World) :
    Calls Try.prog 6 #[.agg (mk xs), .agg (mk ys)] w fun e w' => e = .returned (.bool true) ∧ Below w.heap.size w w' := by
  have S0 := St.two w (.cells (mk xs) 23) (.cells (mk ys) 23)
  have hj := infoSize26 rs hr
  have KS := Lib.hid hs
  have KI := Lib.hid hm
  clear hs hm
  go_enter Try.func6, Try.ntmps6
  go_upto_region 1 with (fail)
  go_cut [5] (fun s5 wx => ∃ g : Nat, s5 = .pointer (some ⟨g, 0, none⟩) ∧ St w [(w.heap.size, .cells (mk xs) 23), (w.heap.size + 1, .cells (mk ys) 23), (g, .cells (mk rs) 26)] wx)
  case first =>
    refine (region_two 1 xs ys rs ha hb hr 27 Try.f27 Try.func27 (by kernel_rfl) (by kernel_rfl) KS.out 2 3 7 8 9 10 11 5 _ _ _ _ _ _ _ _ _ rfl ⟨rfl, rfl, rfl, rfl, rfl, rfl, rfl⟩ ⟨rfl, rfl, rfl, rfl, rfl, rfl, rfl⟩ rfl rfl rfl rfl rfl rfl rfl
      ⟨{ on := 0, ground := .data }, by simp, rfl, rfl⟩ ⟨{ on := 2, ground := .data }, by simp, rfl, rfl⟩ ⟨{ on := 1, ground := .data }, by simp, rfl, rfl⟩ ⟨{ on := 3, ground := .data }, by simp, rfl, rfl⟩ ⟨{ on := 4, ground := .data }, by simp, rfl, rfl⟩ ⟨{ on := 5, ground := .data }, by simp, rfl, rfl⟩ (by kernel_rfl) (by kernel_rfl) _ _ (by decide) (by simp) w.heap.size (w.heap.size + 1) w _ 0 1 rfl rfl S0 rfl rfl ?_)
    intro g w' h
    dsimp only
    simp only [List.setIfInBounds_toArray, List.set_cons_zero, List.set_cons_succ]
    have H := Lib.hid h
    clear h
    go_wp2_with (fail)
    go_meet
    case rel => exact ⟨g, rfl, H.out⟩
  case rest =>
    obtain ⟨g, rfl, S1⟩ := hcut
    go_upto_region 2 with (fail)
    go_cut [6] (fun s6 wx => ∃ g' : Nat, s6 = .pointer (some ⟨g', 0, none⟩) ∧ St w [(w.heap.size, .cells (mk xs) 23), (w.heap.size + 1, .cells (mk ys) 23), (g, .cells (mk rs) 26), (g', .cells (mk rs) 26)] wx)
    case first =>
      refine (region_two 2 xs ys rs ha hb hr 28 Try.f28 Try.func28 (by kernel_rfl) (by kernel_rfl) KI.out 2 3 12 13 14 15 16 6 _ _ _ _ _ _ _ _ _ rfl ⟨rfl, rfl, rfl, rfl, rfl, rfl, rfl⟩ ⟨rfl, rfl, rfl, rfl, rfl, rfl, rfl⟩ rfl rfl rfl rfl rfl rfl rfl
      ⟨{ on := 0, ground := .data }, by simp, rfl, rfl⟩ ⟨{ on := 2, ground := .data }, by simp, rfl, rfl⟩ ⟨{ on := 1, ground := .data }, by simp, rfl, rfl⟩ ⟨{ on := 3, ground := .data }, by simp, rfl, rfl⟩ ⟨{ on := 4, ground := .data }, by simp, rfl, rfl⟩ ⟨{ on := 5, ground := .data }, by simp, rfl, rfl⟩ (by kernel_rfl) (by kernel_rfl) _ _ (by decide) (by simp) w.heap.size (w.heap.size + 1) w _ 0 1 rfl rfl S1 rfl rfl ?_)
      intro g' w' h
      dsimp only
      simp only [List.setIfInBounds_toArray, List.set_cons_zero, List.set_cons_succ]
      have H := Lib.hid h
      clear h
      go_wp2_with (fail)
      go_meet
      case rel => exact ⟨g', rfl, H.out⟩
    case rest =>
      obtain ⟨g', rfl, S2⟩ := hcut
      go_wp2_with (first
        | (go_at_call 24; refine (eqMask_any rs hr _).mono ?_; rintro e w1 ⟨rfl, hb⟩; have hS := St.call hb (by assumption); clear hb)
        | (refine wpList_load_row rfl 26 (.tmp 6) rfl _ rfl 26 (mk rs) (0, 0) _ (St.get S2 3 rfl) Try.underlying26 rfl hj ?_)
        | (refine wpList_load_row rfl 26 (.tmp 5) rfl _ rfl 26 (mk rs) (0, 0) _ (St.get S2 2 rfl) Try.underlying26 rfl hj ?_))
      go_ret
      exact ⟨rfl, St.below (by assumption)⟩
theorem walkMinus (xs ys : List Int) (w : World) (ha : xs.length = 16) (_ : ∀ z ∈ xs, (Lit.int .u16 z).wf = true) (hb : ys.length = 16) (_ : ∀ z ∈ ys, (Lit.int .u16 z).wf = true) :
    Calls Try.prog 6 #[.agg (xs.map (Value.int .u16)).toArray, .agg (ys.map (Value.int .u16)).toArray] w fun e w' => e = .returned (.bool true) ∧ Below w.heap.size w w' :=
  lawMinus xs ys _ ha hb (by simp [ha, hb]) (fun w => sMinus xs ys ha hb w) (fun w => iMinus xs ys ha hb w) w
end Go.Proofs.Ytbkbjiifklhgiaa
