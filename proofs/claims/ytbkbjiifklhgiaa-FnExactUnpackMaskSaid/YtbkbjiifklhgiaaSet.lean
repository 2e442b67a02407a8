/- SetCell: the walks of both sides and of the law. Conditions: none. -/
import Derived.Test.YtbkbjiifklhgiaaCell
import Derived.RegionTactic
import Derived.ChangeAlike
import Derived.BigRegion
import Derived.Deep.Cut
import Derived.Deep.DeepCutAuto
namespace Go.Proofs.Ytbkbjiifklhgiaa
open Go.RowKit

/-- The mask in which a cell is set, or not. -/
def setc (zs : List Int) (x y : Nat) (on : Bool) : List Int :=
  let z := bits BinOp.andNot IntKind.u16 (nth zs y) (IntKind.u16.wrap (2 ^ x))
  if on then (zs.set y z).set y (bits BinOp.or IntKind.u16 z (IntKind.u16.wrap (2 ^ x))) else zs.set y z
theorem setc_len (zs : List Int) (x y : Nat) (on : Bool) : (setc zs x y on).length = zs.length := by
  unfold setc; cases on <;> simp

set_option maxHeartbeats 400000 in
theorem sSet_yes (zs : List Int) (hz : zs.length = 16) (x y : Nat) (on : Bool) (h2 : x < 16) (h4 : y < 16) (w : World) :
    Calls Try.prog 36 #[.agg (mk zs), .int .i64 x, .int .i64 y, .bool on] w fun e w' => e = .returned (.tuple #[.agg (mk (setc zs x y on)), .int .i64 0]) ∧ Below w.heap.size w w' := by
  have g1 := mk_get zs y (by omega)
  have i0 : (0 : Int) ≤ (y : Int) := by omega
  have i1 : (x : Int) ≤ 15 := by omega
  have i2 : (y : Int) ≤ 15 := by omega
  have i3 : (y : Int) < 16 := by omega
  have Z := lit0
  have g2 := mk_set
  have g3 := fun z => mk_got zs y z (by omega)
  cases on
  · go_enter Try.func36, Try.ntmps36
    go_upto_region 7 with (go_in)
    go_wp2_with (first | (refine wpList_load_row rfl 26 (.tmp 4) rfl w.heap.size rfl 26 _ (0, 0) _ (two_first _ _ _) Try.underlying26 rfl (infoSize26 _ (by simp [hz])) ?_) | (refine wpList_store_row rfl 26 (.tmp 8) (.tmp 32) rfl (w.heap.size + 1) _ rfl rfl 26 (mk zs0) (two_second _ _ _) (infoSize26 _ (by simp [hz])) (mk_same _ (by simp [hz])) (mk_one _) ?_))
    refine bodyPost_ret (results_row_tmp rfl _ _ (w.heap.size + 1) 26 (mk (zs.set y (bits BinOp.andNot IntKind.u16 (nth zs y) (IntKind.u16.wrap (2 ^ x))))) (0, 0) _ rfl (setRow_heap _ _ (mk zs0) _ _ _ (two_second _ _ _)) Try.underlying26 rfl (infoSize26 _ (by simp [hz]))) rfl ?_
    refine ⟨?_, ?_⟩
    · simp [setc]
    · refine below_setRow (B := w.heap.size) ?_ (by omega) _
      repeat (first | exact Below.refl _ _ | apply Below.drew | refine below_drewN ?_ _ | refine below_al ?_ (Nat.le_refl _) _)
  · go_enter Try.func36, Try.ntmps36
    go_upto_region 7 with (go_in)
    go_wp2_with (first | (refine wpList_load_row rfl 26 (.tmp 4) rfl w.heap.size rfl 26 _ (0, 0) _ (two_first _ _ _) Try.underlying26 rfl (infoSize26 _ (by simp [hz])) ?_) | (refine wpList_store_row rfl 26 (.tmp 8) (.tmp 32) rfl (w.heap.size + 1) _ rfl rfl 26 (mk zs0) (two_second _ _ _) (infoSize26 _ (by simp [hz])) (mk_same _ (by simp [hz])) (mk_one _) ?_))
    refine bodyPost_ret (results_row_tmp rfl _ _ (w.heap.size + 1) 26 (mk (zs.set y (bits BinOp.or IntKind.u16 (bits BinOp.andNot IntKind.u16 (nth zs y) (IntKind.u16.wrap (2 ^ x))) (IntKind.u16.wrap (2 ^ x))))) (0, 0) _ rfl (setRow_heap _ _ (mk zs0) _ _ _ (two_second _ _ _)) Try.underlying26 rfl (infoSize26 _ (by simp [hz]))) rfl ?_
    refine ⟨?_, ?_⟩
    · simp [setc]
    · refine below_setRow (B := w.heap.size) ?_ (by omega) _
      repeat (first | exact Below.refl _ _ | apply Below.drew | refine below_drewN ?_ _ | refine below_al ?_ (Nat.le_refl _) _)

set_option maxHeartbeats 400000 in
theorem iSet_yes (zs : List Int) (hz : zs.length = 16) (x y : Nat) (on : Bool) (h2 : x < 16) (h4 : y < 16) (w : World) :
    Calls Try.prog 37 #[.agg (mk zs), .int .i64 x, .int .i64 y, .bool on] w fun e w' => e = .returned (.tuple #[.agg (mk (setc zs x y on)), .int .i64 0]) ∧ Below w.heap.size w w' := by
  have g1 := mk_get zs y (by omega)
  have i0 : (0 : Int) ≤ (y : Int) := by omega
  have i1 : (x : Int) ≤ 15 := by omega
  have i2 : (y : Int) ≤ 15 := by omega
  have i3 : (y : Int) < 16 := by omega
  have Z := lit0
  have g2 := mk_set
  have g3 := fun z => mk_got zs y z (by omega)
  cases on
  · go_enter Try.func37, Try.ntmps37
    go_wp2
    go_region
    go_upto_region 6 with (fail)
    go_wp2_with (first | (refine wpList_load_row rfl 26 (.tmp 4) rfl w.heap.size rfl 26 _ (0, 0) _ (two_first _ _ _) Try.underlying26 rfl (infoSize26 _ (by simp [hz])) ?_) | (refine wpList_store_row rfl 26 (.tmp 8) (.tmp 34) rfl (w.heap.size + 1) _ rfl rfl 26 (mk zs0) (two_second _ _ _) (infoSize26 _ (by simp [hz])) (mk_same _ (by simp [hz])) (mk_one _) ?_))
    refine bodyPost_ret (results_row_tmp rfl _ _ (w.heap.size + 1) 26 (mk (zs.set y (bits BinOp.andNot IntKind.u16 (nth zs y) (IntKind.u16.wrap (2 ^ x))))) (0, 0) _ rfl (setRow_heap _ _ (mk zs0) _ _ _ (two_second _ _ _)) Try.underlying26 rfl (infoSize26 _ (by simp [hz]))) rfl ?_
    refine ⟨?_, ?_⟩
    · simp [setc]
    · refine below_setRow (B := w.heap.size) ?_ (by omega) _
      repeat (first | exact Below.refl _ _ | apply Below.drew | refine below_drewN ?_ _ | refine below_al ?_ (Nat.le_refl _) _)
  · go_enter Try.func37, Try.ntmps37
    go_wp2
    go_region
    go_wp2
    go_region
    go_upto_region 6 with (fail)
    go_wp2_with (first | (refine wpList_load_row rfl 26 (.tmp 4) rfl w.heap.size rfl 26 _ (0, 0) _ (two_first _ _ _) Try.underlying26 rfl (infoSize26 _ (by simp [hz])) ?_) | (refine wpList_store_row rfl 26 (.tmp 8) (.tmp 34) rfl (w.heap.size + 1) _ rfl rfl 26 (mk zs0) (two_second _ _ _) (infoSize26 _ (by simp [hz])) (mk_same _ (by simp [hz])) (mk_one _) ?_))
    refine bodyPost_ret (results_row_tmp rfl _ _ (w.heap.size + 1) 26 (mk (zs.set y (bits BinOp.or IntKind.u16 (bits BinOp.andNot IntKind.u16 (nth zs y) (IntKind.u16.wrap (2 ^ x))) (IntKind.u16.wrap (2 ^ x))))) (0, 0) _ rfl (setRow_heap _ _ (mk zs0) _ _ _ (two_second _ _ _)) Try.underlying26 rfl (infoSize26 _ (by simp [hz]))) rfl ?_
    refine ⟨?_, ?_⟩
    · simp [setc]
    · refine below_setRow (B := w.heap.size) ?_ (by omega) _
      repeat (first | exact Below.refl _ _ | apply Below.drew | refine below_drewN ?_ _ | refine below_al ?_ (Nat.le_refl _) _)


/-- An empty mask, stored whole. -/
theorem bz : (Try.prog.built 26 []).getD #[] = mk zs0 := by kernel_rfl
theorem bzs : (Try.prog.built 26 []).isSome = true := by kernel_rfl

set_option maxHeartbeats 400000 in
theorem sSet_no (zs : List Int) (x y : Int) (on : Bool) (h : Out x ∨ (0 ≤ x ∧ x ≤ 15 ∧ Out y)) (w : World) :
    Calls Try.prog 36 #[.agg (mk zs), .int .i64 x, .int .i64 y, .bool on] w fun e w' => e = .returned (.tuple #[.agg (mk zs0), .int .i64 2]) ∧ Below w.heap.size w w' := by
  have Z := lit0
  unfold Out at h
  rcases h with (h | h) | ⟨h1, h2, h | h⟩
  · have d1 : decide (0 ≤ x) = false := by simp; omega
    go_enter Try.func36, Try.ntmps36
    go_wp2_with (first | (refine wpList_build rfl 26 #[] rfl bzs ?_) | (refine wpList_store_row rfl 26 (.tmp 8) (.tmp 15) rfl (w.heap.size + 1) (mk zs0) rfl (congrArg Value.agg bz) 26 (mk zs0) (two_second _ _ _) (infoSize26 _ rfl) rfl (mk_one _) ?_) | go_in)
    refine bodyPost_ret (results_row_tmp rfl _ _ (w.heap.size + 1) 26 (mk zs0) (0, 0) _ rfl (setRow_heap _ _ (mk zs0) _ _ _ (two_second _ _ _)) Try.underlying26 rfl (infoSize26 _ rfl)) rfl ?_
    refine ⟨rfl, ?_⟩
    refine below_setRow (B := w.heap.size) ?_ (by omega) _
    exact below_al (below_al (Below.refl _ _) (Nat.le_refl _) _) (Nat.le_refl _) _
  · have d1 : decide (x ≤ 15) = false := by simp; omega
    have d2 : 0 ≤ x := by omega
    go_enter Try.func36, Try.ntmps36
    go_wp2_with (first | (refine wpList_build rfl 26 #[] rfl bzs ?_) | (refine wpList_store_row rfl 26 (.tmp 8) (.tmp 15) rfl (w.heap.size + 1) (mk zs0) rfl (congrArg Value.agg bz) 26 (mk zs0) (two_second _ _ _) (infoSize26 _ rfl) rfl (mk_one _) ?_) | go_in)
    refine bodyPost_ret (results_row_tmp rfl _ _ (w.heap.size + 1) 26 (mk zs0) (0, 0) _ rfl (setRow_heap _ _ (mk zs0) _ _ _ (two_second _ _ _)) Try.underlying26 rfl (infoSize26 _ rfl)) rfl ?_
    refine ⟨rfl, ?_⟩
    refine below_setRow (B := w.heap.size) ?_ (by omega) _
    exact below_al (below_al (Below.refl _ _) (Nat.le_refl _) _) (Nat.le_refl _) _
  · have d1 : decide (0 ≤ y) = false := by simp; omega
    go_enter Try.func36, Try.ntmps36
    go_wp2_with (first | (refine wpList_build rfl 26 #[] rfl bzs ?_) | (refine wpList_store_row rfl 26 (.tmp 8) (.tmp 15) rfl (w.heap.size + 1) (mk zs0) rfl (congrArg Value.agg bz) 26 (mk zs0) (two_second _ _ _) (infoSize26 _ rfl) rfl (mk_one _) ?_) | go_in)
    refine bodyPost_ret (results_row_tmp rfl _ _ (w.heap.size + 1) 26 (mk zs0) (0, 0) _ rfl (setRow_heap _ _ (mk zs0) _ _ _ (two_second _ _ _)) Try.underlying26 rfl (infoSize26 _ rfl)) rfl ?_
    refine ⟨rfl, ?_⟩
    refine below_setRow (B := w.heap.size) ?_ (by omega) _
    exact below_al (below_al (Below.refl _ _) (Nat.le_refl _) _) (Nat.le_refl _) _
  · have d1 : decide (y ≤ 15) = false := by simp; omega
    have d2 : 0 ≤ y := by omega
    go_enter Try.func36, Try.ntmps36
    go_wp2_with (first | (refine wpList_build rfl 26 #[] rfl bzs ?_) | (refine wpList_store_row rfl 26 (.tmp 8) (.tmp 15) rfl (w.heap.size + 1) (mk zs0) rfl (congrArg Value.agg bz) 26 (mk zs0) (two_second _ _ _) (infoSize26 _ rfl) rfl (mk_one _) ?_) | go_in)
    refine bodyPost_ret (results_row_tmp rfl _ _ (w.heap.size + 1) 26 (mk zs0) (0, 0) _ rfl (setRow_heap _ _ (mk zs0) _ _ _ (two_second _ _ _)) Try.underlying26 rfl (infoSize26 _ rfl)) rfl ?_
    refine ⟨rfl, ?_⟩
    refine below_setRow (B := w.heap.size) ?_ (by omega) _
    exact below_al (below_al (Below.refl _ _) (Nat.le_refl _) _) (Nat.le_refl _) _

set_option maxHeartbeats 400000 in
theorem iSet_no (zs : List Int) (x y : Int) (on : Bool) (h : Out x ∨ (0 ≤ x ∧ x ≤ 15 ∧ Out y)) (w : World) :
    Calls Try.prog 37 #[.agg (mk zs), .int .i64 x, .int .i64 y, .bool on] w fun e w' => e = .returned (.tuple #[.agg (mk zs0), .int .i64 2]) ∧ Below w.heap.size w w' := by
  have Z := lit0
  unfold Out at h
  rcases h with (h | h) | ⟨h1, h2, h | h⟩
  · have d1 : decide (0 ≤ x) = false := by simp; omega
    go_enter Try.func37, Try.ntmps37
    go_wp2_with (first | (refine wpList_build rfl 26 #[] rfl bzs ?_) | (refine wpList_store_row rfl 26 (.tmp 8) (.tmp 18) rfl (w.heap.size + 1) (mk zs0) rfl (congrArg Value.agg bz) 26 (mk zs0) (two_second _ _ _) (infoSize26 _ rfl) rfl (mk_one _) ?_) | go_in)
    refine bodyPost_ret (results_row_tmp rfl _ _ (w.heap.size + 1) 26 (mk zs0) (0, 0) _ rfl (setRow_heap _ _ (mk zs0) _ _ _ (two_second _ _ _)) Try.underlying26 rfl (infoSize26 _ rfl)) rfl ?_
    refine ⟨rfl, ?_⟩
    refine below_setRow (B := w.heap.size) ?_ (by omega) _
    exact below_al (below_al (Below.refl _ _) (Nat.le_refl _) _) (Nat.le_refl _) _
  · have d1 : decide (x ≤ 15) = false := by simp; omega
    have d2 : 0 ≤ x := by omega
    go_enter Try.func37, Try.ntmps37
    go_wp2_with (first | (refine wpList_build rfl 26 #[] rfl bzs ?_) | (refine wpList_store_row rfl 26 (.tmp 8) (.tmp 18) rfl (w.heap.size + 1) (mk zs0) rfl (congrArg Value.agg bz) 26 (mk zs0) (two_second _ _ _) (infoSize26 _ rfl) rfl (mk_one _) ?_) | go_in)
    refine bodyPost_ret (results_row_tmp rfl _ _ (w.heap.size + 1) 26 (mk zs0) (0, 0) _ rfl (setRow_heap _ _ (mk zs0) _ _ _ (two_second _ _ _)) Try.underlying26 rfl (infoSize26 _ rfl)) rfl ?_
    refine ⟨rfl, ?_⟩
    refine below_setRow (B := w.heap.size) ?_ (by omega) _
    exact below_al (below_al (Below.refl _ _) (Nat.le_refl _) _) (Nat.le_refl _) _
  · have d1 : decide (0 ≤ y) = false := by simp; omega
    go_enter Try.func37, Try.ntmps37
    go_wp2_with (first | (refine wpList_build rfl 26 #[] rfl bzs ?_) | (refine wpList_store_row rfl 26 (.tmp 8) (.tmp 18) rfl (w.heap.size + 1) (mk zs0) rfl (congrArg Value.agg bz) 26 (mk zs0) (two_second _ _ _) (infoSize26 _ rfl) rfl (mk_one _) ?_) | go_in)
    refine bodyPost_ret (results_row_tmp rfl _ _ (w.heap.size + 1) 26 (mk zs0) (0, 0) _ rfl (setRow_heap _ _ (mk zs0) _ _ _ (two_second _ _ _)) Try.underlying26 rfl (infoSize26 _ rfl)) rfl ?_
    refine ⟨rfl, ?_⟩
    refine below_setRow (B := w.heap.size) ?_ (by omega) _
    exact below_al (below_al (Below.refl _ _) (Nat.le_refl _) _) (Nat.le_refl _) _
  · have d1 : decide (y ≤ 15) = false := by simp; omega
    have d2 : 0 ≤ y := by omega
    go_enter Try.func37, Try.ntmps37
    go_wp2_with (first | (refine wpList_build rfl 26 #[] rfl bzs ?_) | (refine wpList_store_row rfl 26 (.tmp 8) (.tmp 18) rfl (w.heap.size + 1) (mk zs0) rfl (congrArg Value.agg bz) 26 (mk zs0) (two_second _ _ _) (infoSize26 _ rfl) rfl (mk_one _) ?_) | go_in)
    refine bodyPost_ret (results_row_tmp rfl _ _ (w.heap.size + 1) 26 (mk zs0) (0, 0) _ rfl (setRow_heap _ _ (mk zs0) _ _ _ (two_second _ _ _)) Try.underlying26 rfl (infoSize26 _ rfl)) rfl ?_
    refine ⟨rfl, ?_⟩
    refine below_setRow (B := w.heap.size) ?_ (by omega) _
    exact below_al (below_al (Below.refl _ _) (Nat.le_refl _) _) (Nat.le_refl _) _
set_option maxHeartbeats 400000 in
theorem setLaw (zs rs : List Int) (x y : Int) (c : Int) (on : Bool) (hz : zs.length = 16) (hr : rs.length = 16)
    (hs : ∀ w, Calls Try.prog 36 #[.agg (mk zs), .int .i64 x, .int .i64 y, .bool on] w fun e w' => e = .returned (.tuple #[.agg (mk rs), .int .i64 c]) ∧ Below w.heap.size w w')
    (hm : ∀ w, Calls Try.prog 37 #[.agg (mk zs), .int .i64 x, .int .i64 y, .bool on] w fun e w' => e = .returned (.tuple #[.agg (mk rs), .int .i64 c]) ∧ Below w.heap.size w w') (w : World) :
    Calls Try.prog 10 #[.agg (mk zs), .int .i64 x, .int .i64 y, .bool on] w fun e w' => e = .returned (.bool true) ∧ Below w.heap.size w w' := by
  have S0 := St.one w (.cells (mk zs) 23)
  have Z := lit0
  have hi := infoSize23 zs hz
  have hj := infoSize26 rs hr
  have hk := mk_same rs hr
  have KS := Lib.hid hs
  have KI := Lib.hid hm
  clear hs hm
  go_enter Try.func10, Try.ntmps10
  go_upto_region 3 with (first
      | (go_at_call 20; refine (toMask_any zs hz _).mono ?_; rintro e w1 ⟨rfl, hb⟩; have hS := St.call hb (by assumption); clear hb)
      | (go_at_call 36; refine (KS.out _).mono ?_; rintro e w1 ⟨rfl, hb⟩; have hS := St.call hb (by assumption); clear hb)
      | (go_at_call 37; refine (KI.out _).mono ?_; rintro e w1 ⟨rfl, hb⟩; have hS := St.call hb (by assumption); clear hb)
      | (refine wpList_load_row rfl 23 (.tmp 4) rfl w.heap.size rfl 23 (mk zs) (0, 0) _ (St.get (by assumption) 0 rfl) Try.underlying23 rfl hi ?_)
      | (refine wpList_store_row rfl 26 (.tmp 9) (.tmp 20) rfl _ (mk rs) rfl rfl 26 (mk zs0) (one_first _ _) hj hk (mk_one _) ?_; have hS := St.fresh (by assumption) (mk zs0) (mk rs) 26)
      | (refine wpList_store_row rfl 26 (.tmp 11) (.tmp 29) rfl _ (mk rs) rfl rfl 26 (mk zs0) (one_first _ _) hj hk (mk_one _) ?_; have hS := St.fresh (by assumption) (mk zs0) (mk rs) 26))
  go_wp2_with (first
      | (go_at_call 24; refine (eqMask_any rs hr _).mono ?_; rintro e w1 ⟨rfl, hb⟩; have hS := St.call hb (by assumption); clear hb)
      | (refine wpList_load_row rfl 26 (.tmp 11) rfl _ rfl 26 (mk rs) (0, 0) _ (St.get hS 2 rfl) Try.underlying26 rfl hj ?_)
      | (refine wpList_load_row rfl 26 (.tmp 9) rfl _ rfl 26 (mk rs) (0, 0) _ (St.get hS 1 rfl) Try.underlying26 rfl hj ?_))
  go_ret
  exact ⟨rfl, St.below (by assumption)⟩

theorem setWalk (zs : List Int) (x y : Int) (on : Bool) (w : World) (hz : zs.length = 16) (_ : ∀ z ∈ zs, (Lit.int .u16 z).wf = true) (_ : (Lit.int .i64 x).wf = true) (_ : (Lit.int .i64 y).wf = true) :
    Calls Try.prog 10 #[.agg (zs.map (Value.int .u16)).toArray, .int .i64 x, .int .i64 y, .bool on] w fun e w' => e = .returned (.bool true) ∧ Below w.heap.size w w' := by
  rcases where_ x y with h | ⟨x, y, rfl, rfl, hx, hy⟩
  · exact setLaw zs zs0 x y 2 on hz rfl (fun w => sSet_no zs x y on h w) (fun w => iSet_no zs x y on h w) w
  · exact setLaw zs (setc zs x y on) x y 0 on hz (by rw [setc_len, hz]) (fun w => sSet_yes zs hz x y on hx hy w) (fun w => iSet_yes zs hz x y on hx hy w) w

end Go.Proofs.Ytbkbjiifklhgiaa
