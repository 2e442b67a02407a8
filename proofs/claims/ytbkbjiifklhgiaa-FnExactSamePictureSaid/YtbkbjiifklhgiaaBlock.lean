/- BlockAt: the walks of both sides and of the law. Conditions: none. -/
import Derived.Test.YtbkbjiifklhgiaaOpen
import Derived.Deep.Cut
import Derived.Deep.QuietTactic
import Derived.BigQuiet
import Derived.Deep.DeepCutAuto
import Derived.Deep.RegionWith
namespace Go.Proofs.Ytbkbjiifklhgiaa
open Go.RowKit

theorem and15 (x : Int) : bits BinOp.and IntKind.i64 x 15 = x % 16 := by
  have h1 : (BitVec.ofInt 64 x).toNat = (x % 18446744073709551616).toNat := by
    simp [BitVec.ofInt]
  have h2 : (BitVec.ofInt 64 (15 : Int)).toNat = 15 := rfl
  show IntKind.i64.wrap ((BitVec.ofInt 64 x &&& BitVec.ofInt 64 15).toNat : Int) = _
  rw [BitVec.toNat_and, h1, h2, show (15 : Nat) = 2 ^ 4 - 1 from rfl, Nat.and_two_pow_sub_one_eq_mod]
  have h3 : (((x % 18446744073709551616).toNat % 2 ^ 4 : Nat) : Int) = x % 16 := by omega
  rw [h3]
  exact Go.IntWalk.i64_in _ (by omega)

theorem results_row_2 {P : Program} {fn : Func} {p u1 u2 : Tmp} {ty : TypeId} (h : fn.results = #[.cell p ty, .tmp u1, .tmp u2]) (tmps : Array Value) (w : World) (g : Nat) (t : TypeId) (cs : Array Value) (fr : Nat × Nat) (d : TypeDesc)
    (hp : tmps.getD p undef = .pointer (some ⟨g, 0, none⟩)) (hg : w.heap[g]? = some (.cells cs t fr))
    (hu : P.underlying ty = some d) (hd : (match d with | .struct _ | .array _ _ => true | _ => false) = true) (hi : (P.info? ty).map (·.size) = some cs.size) :
    (results fn tmps).run P w = .ok (.tuple #[.agg cs, tmps.getD u1 undef, tmps.getD u2 undef]) w := by
  have hp' : tmps[p]?.getD undef = .pointer (some ⟨g, 0, none⟩) := by simpa using hp
  simp [results, h, hp', asAddr, Result.andThen, run_loadVar_row w g t ty cs fr d hg hu hd hi]
theorem results_row_3 {P : Program} {fn : Func} {p u1 u2 u3 : Tmp} {ty : TypeId} (h : fn.results = #[.cell p ty, .tmp u1, .tmp u2, .tmp u3]) (tmps : Array Value) (w : World) (g : Nat) (t : TypeId) (cs : Array Value) (fr : Nat × Nat) (d : TypeDesc)
    (hp : tmps.getD p undef = .pointer (some ⟨g, 0, none⟩)) (hg : w.heap[g]? = some (.cells cs t fr))
    (hu : P.underlying ty = some d) (hd : (match d with | .struct _ | .array _ _ => true | _ => false) = true) (hi : (P.info? ty).map (·.size) = some cs.size) :
    (results fn tmps).run P w = .ok (.tuple #[.agg cs, tmps.getD u1 undef, tmps.getD u2 undef, tmps.getD u3 undef]) w := by
  have hp' : tmps[p]?.getD undef = .pointer (some ⟨g, 0, none⟩) := by simpa using hp
  simp [results, h, hp', asAddr, Result.andThen, run_loadVar_row w g t ty cs fr d hg hu hd hi]

/-- A corner's two numbers as a value's cells. -/
def co (a b : Int) : Array Value := #[.int .i32 a, .int .i32 b]
theorem co_lit (a b : Int) : (#[.int .i32 a, .int .i32 b] : Array Value) = co a b := rfl
theorem co_one (a b : Int) : (co a b).all (·.oneCell') = true := by simp [co, Value.oneCell']
theorem info36 (a b : Int) : (Try.prog.info? 36).map (·.size) = some (co a b).size := by show _ = some 2; kernel_rfl

set_option maxHeartbeats 400000 in
theorem low_any (x : Int) (h1 : -1000000 ≤ x) (h2 : x ≤ 1000000) (w : World) :
    Calls Try.prog 76 #[.int .i64 x] w fun e w' => e = .returned (.int .i64 (x / 16)) ∧ w = w' := by
  have e : (x + 16000000) / 16 - 1000000 = x / 16 := by omega
  have E := Lib.hid e
  clear e
  have b1 : 0 ≤ (x + 16000000) / 16 := by omega
  have b2 : (x + 16000000) / 16 ≤ 1062500 := by omega
  go_enter Try.func76, Try.ntmps76
  go_wp2
  go_ret
  exact ⟨by rw [← E.out]; rfl, rfl⟩

set_option maxHeartbeats 400000 in
theorem corner_any (x y : Int) (h1 : -1000000 ≤ x) (h2 : x ≤ 1000000) (h3 : -1000000 ≤ y) (h4 : y ≤ 1000000) (w : World) :
    Calls Try.prog 75 #[.int .i64 x, .int .i64 y] w fun e w' => e = .returned (.agg (co (x / 16) (y / 16))) ∧ Below w.heap.size w w' := by
  have b1 : -62500 ≤ x / 16 := by omega
  have b2 : x / 16 ≤ 62500 := by omega
  have b3 : -62500 ≤ y / 16 := by omega
  have b4 : y / 16 ≤ 62500 := by omega
  go_enter Try.func75, Try.ntmps75
  go_wp2_with (first
    | (go_at_call_of 76 (Value.int IntKind.i64 x); refine (low_any x h1 h2 _).mono ?_; rintro e w' ⟨rfl, rfl⟩)
    | (go_at_call_of 76 (Value.int IntKind.i64 y); refine (low_any y h3 h4 _).mono ?_; rintro e w' ⟨rfl, rfl⟩))
  refine bodyPost_ret (results_cell_row rfl _ _ w.heap.size 36 (co (x / 16) (y / 16)) (0, 0) _ rfl (one_first _ _) Try.underlying36 rfl (info36 _ _)) rfl ⟨rfl, ?_⟩
  exact below_al (Below.refl _ _) (Nat.le_refl _) _

set_option maxHeartbeats 400000 in
theorem blockAt_any (x y : Int) (h1 : -1000000 ≤ x) (h2 : x ≤ 1000000) (h3 : -1000000 ≤ y) (h4 : y ≤ 1000000) (w : World) :
    Calls Try.prog 78 #[.int .i64 x, .int .i64 y] w fun e w' => e = .returned (.tuple #[.agg (co (x / 16) (y / 16)), .int .i64 (x % 16), .int .i64 (y % 16)]) ∧ Below w.heap.size w w' := by
  have b1 : -62500 ≤ x / 16 := by omega
  have b2 : x / 16 ≤ 62500 := by omega
  have b3 : -62500 ≤ y / 16 := by omega
  have b4 : y / 16 ≤ 62500 := by omega
  have e1 := and15 x
  have e2 := and15 y
  go_enter Try.func78, Try.ntmps78
  go_wp2
  refine bodyPost_ret (results_row_2 rfl _ _ w.heap.size 36 (co (x / 16) (y / 16)) (0, 0) _ rfl (one_first _ _) Try.underlying36 rfl (info36 _ _)) rfl ⟨rfl, ?_⟩
  exact below_al (Below.refl _ _) (Nat.le_refl _) _

set_option maxHeartbeats 400000 in
theorem sBlock_yes (x y : Int) (h1 : -1000000 ≤ x) (h2 : x ≤ 1000000) (h3 : -1000000 ≤ y) (h4 : y ≤ 1000000) (w : World) :
    Calls Try.prog 33 #[.int .i64 x, .int .i64 y] w fun e w' => e = .returned (.tuple #[.agg (co (x / 16) (y / 16)), .int .i64 (x % 16), .int .i64 (y % 16), .int .i64 0]) ∧ Below w.heap.size w w' := by
  have b1 : -62500 ≤ x / 16 := by omega
  have b2 : x / 16 ≤ 62500 := by omega
  have b3 : -62500 ≤ y / 16 := by omega
  have b4 : y / 16 ≤ 62500 := by omega
  have e1 : x - 16 * (x / 16) = x % 16 := by omega
  have e2 : y - 16 * (y / 16) = y % 16 := by omega
  have E1 := Lib.hid e1
  have E2 := Lib.hid e2
  have b5 : 0 ≤ x - 16 * (x / 16) := by omega
  have b6 : x - 16 * (x / 16) ≤ 15 := by omega
  have b7 : 0 ≤ y - 16 * (y / 16) := by omega
  have b8 : y - 16 * (y / 16) ≤ 15 := by omega
  have Z : (#[.int .i32 0, .int .i32 0] : Array Value) = co 0 0 := rfl
  clear e1 e2
  have S0 := St.one w (.cells (co 0 0) 36)
  go_enter Try.func33, Try.ntmps33
  go_wp2_with (first
    | (go_at_call_of 76 (Value.int IntKind.i64 x); refine (low_any x h1 h2 _).mono ?_; rintro e w' ⟨rfl, rfl⟩)
    | (go_at_call_of 76 (Value.int IntKind.i64 y); refine (low_any y h3 h4 _).mono ?_; rintro e w' ⟨rfl, rfl⟩)
    | (go_at_call 75; refine (corner_any x y h1 h2 h3 h4 _).mono ?_; rintro e w1 ⟨rfl, hb⟩; have hS := St.call hb (by assumption); clear hb)
    | (refine wpList_store_row rfl 36 (.tmp 4) (.tmp 15) rfl w.heap.size (co (x / 16) (y / 16)) rfl rfl 36 (co 0 0) (St.get (by assumption) 0 rfl) (info36 _ _) rfl (co_one _ _) ?_)
    | go_in)
  refine bodyPost_ret (results_row_3 rfl _ _ w.heap.size 36 (co (x / 16) (y / 16)) (0, 0) _ rfl (setRow_heap _ _ (co 0 0) _ _ _ (St.get (by assumption) 0 rfl)) Try.underlying36 rfl (info36 _ _)) rfl ⟨?_, ?_⟩
  · rw [← E1.out, ← E2.out]; rfl
  · exact below_setRow (St.below (by assumption)) (Nat.le_refl _) _

set_option maxHeartbeats 400000 in
theorem iBlock_yes (x y : Int) (h1 : -1000000 ≤ x) (h2 : x ≤ 1000000) (h3 : -1000000 ≤ y) (h4 : y ≤ 1000000) (w : World) :
    Calls Try.prog 34 #[.int .i64 x, .int .i64 y] w fun e w' => e = .returned (.tuple #[.agg (co (x / 16) (y / 16)), .int .i64 (x % 16), .int .i64 (y % 16), .int .i64 0]) ∧ Below w.heap.size w w' := by
  have Z : (#[.int .i32 0, .int .i32 0] : Array Value) = co 0 0 := rfl
  have S0 := St.one w (.cells (co 0 0) 36)
  go_enter Try.func34, Try.ntmps34
  go_upto_region 4 with (first
    | (go_at_call 78; refine (blockAt_any x y h1 h2 h3 h4 _).mono ?_; rintro e w1 ⟨rfl, hb⟩; have hS := St.call hb (by assumption); clear hb)
    | (refine wpList_store_row rfl 36 (.tmp 8) (.tmp 20) rfl _ (co (x / 16) (y / 16)) rfl rfl 36 (co 0 0) (one_first _ _) (info36 _ _) rfl (co_one _ _) ?_; have hS := St.fresh (by assumption) (co 0 0) (co (x / 16) (y / 16)) 36)
    | go_in)
  go_wp2_with (first
    | (refine wpList_load_row rfl 36 (.tmp 8) rfl _ rfl 36 (co (x / 16) (y / 16)) (0, 0) _ (St.get hS 1 rfl) Try.underlying36 rfl (info36 _ _) ?_)
    | (refine wpList_store_row rfl 36 (.tmp 4) (.tmp 23) rfl w.heap.size (co (x / 16) (y / 16)) rfl rfl 36 (co 0 0) (St.get hS 0 rfl) (info36 _ _) rfl (co_one _ _) ?_))
  refine bodyPost_ret (results_row_3 rfl _ _ w.heap.size 36 (co (x / 16) (y / 16)) (0, 0) _ rfl (setRow_heap _ _ (co 0 0) _ _ _ (St.get hS 0 rfl)) Try.underlying36 rfl (info36 _ _)) rfl ⟨rfl, ?_⟩
  exact below_setRow (St.below (by assumption)) (Nat.le_refl _) _

/-- No column or row of a picture. -/
def Far (n : Int) : Prop := n < -1000000 ∨ 1000000 < n
theorem bc : (Try.prog.built 36 []).getD #[] = co 0 0 := by kernel_rfl
theorem bcs : (Try.prog.built 36 []).isSome = true := by kernel_rfl

set_option maxHeartbeats 400000 in
theorem sBlock_no (x y : Int) (h : Far x ∨ (-1000000 ≤ x ∧ x ≤ 1000000 ∧ Far y)) (w : World) :
    Calls Try.prog 33 #[.int .i64 x, .int .i64 y] w fun e w' => e = .returned (.tuple #[.agg (co 0 0), .int .i64 0, .int .i64 0, .int .i64 2]) ∧ Below w.heap.size w w' := by
  have Z : (#[.int .i32 0, .int .i32 0] : Array Value) = co 0 0 := rfl
  unfold Far at h
  rcases h with (h | h) | ⟨h1, h2, h | h⟩
  · have d1 : decide (-1000000 ≤ x) = false := by simp; omega
    go_enter Try.func33, Try.ntmps33
    go_wp2_with (first | (refine wpList_build rfl 36 #[] rfl bcs ?_) | (refine wpList_store_row rfl 36 (.tmp 4) (.tmp 12) rfl w.heap.size (co 0 0) rfl (congrArg Value.agg bc) 36 (co 0 0) (one_first _ _) (info36 _ _) rfl (co_one _ _) ?_) | go_in)
    refine bodyPost_ret (results_row_3 rfl _ _ w.heap.size 36 (co 0 0) (0, 0) _ rfl (setRow_heap _ _ (co 0 0) _ _ _ (one_first _ _)) Try.underlying36 rfl (info36 _ _)) rfl ⟨rfl, ?_⟩
    exact below_setRow (below_al (Below.refl _ _) (Nat.le_refl _) _) (Nat.le_refl _) _
  · have d1 : decide (x ≤ 1000000) = false := by simp; omega
    have d2 : -1000000 ≤ x := by omega
    go_enter Try.func33, Try.ntmps33
    go_wp2_with (first | (refine wpList_build rfl 36 #[] rfl bcs ?_) | (refine wpList_store_row rfl 36 (.tmp 4) (.tmp 12) rfl w.heap.size (co 0 0) rfl (congrArg Value.agg bc) 36 (co 0 0) (one_first _ _) (info36 _ _) rfl (co_one _ _) ?_) | go_in)
    refine bodyPost_ret (results_row_3 rfl _ _ w.heap.size 36 (co 0 0) (0, 0) _ rfl (setRow_heap _ _ (co 0 0) _ _ _ (one_first _ _)) Try.underlying36 rfl (info36 _ _)) rfl ⟨rfl, ?_⟩
    exact below_setRow (below_al (Below.refl _ _) (Nat.le_refl _) _) (Nat.le_refl _) _
  · have d1 : decide (-1000000 ≤ y) = false := by simp; omega
    go_enter Try.func33, Try.ntmps33
    go_wp2_with (first | (refine wpList_build rfl 36 #[] rfl bcs ?_) | (refine wpList_store_row rfl 36 (.tmp 4) (.tmp 12) rfl w.heap.size (co 0 0) rfl (congrArg Value.agg bc) 36 (co 0 0) (one_first _ _) (info36 _ _) rfl (co_one _ _) ?_) | go_in)
    refine bodyPost_ret (results_row_3 rfl _ _ w.heap.size 36 (co 0 0) (0, 0) _ rfl (setRow_heap _ _ (co 0 0) _ _ _ (one_first _ _)) Try.underlying36 rfl (info36 _ _)) rfl ⟨rfl, ?_⟩
    exact below_setRow (below_al (Below.refl _ _) (Nat.le_refl _) _) (Nat.le_refl _) _
  · have d1 : decide (y ≤ 1000000) = false := by simp; omega
    have d2 : -1000000 ≤ y := by omega
    go_enter Try.func33, Try.ntmps33
    go_wp2_with (first | (refine wpList_build rfl 36 #[] rfl bcs ?_) | (refine wpList_store_row rfl 36 (.tmp 4) (.tmp 12) rfl w.heap.size (co 0 0) rfl (congrArg Value.agg bc) 36 (co 0 0) (one_first _ _) (info36 _ _) rfl (co_one _ _) ?_) | go_in)
    refine bodyPost_ret (results_row_3 rfl _ _ w.heap.size 36 (co 0 0) (0, 0) _ rfl (setRow_heap _ _ (co 0 0) _ _ _ (one_first _ _)) Try.underlying36 rfl (info36 _ _)) rfl ⟨rfl, ?_⟩
    exact below_setRow (below_al (Below.refl _ _) (Nat.le_refl _) _) (Nat.le_refl _) _

set_option maxHeartbeats 400000 in
theorem iBlock_no (x y : Int) (h : Far x ∨ (-1000000 ≤ x ∧ x ≤ 1000000 ∧ Far y)) (w : World) :
    Calls Try.prog 34 #[.int .i64 x, .int .i64 y] w fun e w' => e = .returned (.tuple #[.agg (co 0 0), .int .i64 0, .int .i64 0, .int .i64 2]) ∧ Below w.heap.size w w' := by
  have Z : (#[.int .i32 0, .int .i32 0] : Array Value) = co 0 0 := rfl
  unfold Far at h
  rcases h with (h | h) | ⟨h1, h2, h | h⟩
  · have d1 : decide (-1000000 ≤ x) = false := by simp; omega
    go_enter Try.func34, Try.ntmps34
    go_wp2_with (first | (refine wpList_build rfl 36 #[] rfl bcs ?_) | (refine wpList_store_row rfl 36 (.tmp 4) (.tmp 15) rfl w.heap.size (co 0 0) rfl (congrArg Value.agg bc) 36 (co 0 0) (one_first _ _) (info36 _ _) rfl (co_one _ _) ?_) | go_in)
    refine bodyPost_ret (results_row_3 rfl _ _ w.heap.size 36 (co 0 0) (0, 0) _ rfl (setRow_heap _ _ (co 0 0) _ _ _ (one_first _ _)) Try.underlying36 rfl (info36 _ _)) rfl ⟨rfl, ?_⟩
    exact below_setRow (below_al (Below.refl _ _) (Nat.le_refl _) _) (Nat.le_refl _) _
  · have d1 : decide (x ≤ 1000000) = false := by simp; omega
    have d2 : -1000000 ≤ x := by omega
    go_enter Try.func34, Try.ntmps34
    go_wp2_with (first | (refine wpList_build rfl 36 #[] rfl bcs ?_) | (refine wpList_store_row rfl 36 (.tmp 4) (.tmp 15) rfl w.heap.size (co 0 0) rfl (congrArg Value.agg bc) 36 (co 0 0) (one_first _ _) (info36 _ _) rfl (co_one _ _) ?_) | go_in)
    refine bodyPost_ret (results_row_3 rfl _ _ w.heap.size 36 (co 0 0) (0, 0) _ rfl (setRow_heap _ _ (co 0 0) _ _ _ (one_first _ _)) Try.underlying36 rfl (info36 _ _)) rfl ⟨rfl, ?_⟩
    exact below_setRow (below_al (Below.refl _ _) (Nat.le_refl _) _) (Nat.le_refl _) _
  · have d1 : decide (-1000000 ≤ y) = false := by simp; omega
    go_enter Try.func34, Try.ntmps34
    go_wp2_with (first | (refine wpList_build rfl 36 #[] rfl bcs ?_) | (refine wpList_store_row rfl 36 (.tmp 4) (.tmp 15) rfl w.heap.size (co 0 0) rfl (congrArg Value.agg bc) 36 (co 0 0) (one_first _ _) (info36 _ _) rfl (co_one _ _) ?_) | go_in)
    refine bodyPost_ret (results_row_3 rfl _ _ w.heap.size 36 (co 0 0) (0, 0) _ rfl (setRow_heap _ _ (co 0 0) _ _ _ (one_first _ _)) Try.underlying36 rfl (info36 _ _)) rfl ⟨rfl, ?_⟩
    exact below_setRow (below_al (Below.refl _ _) (Nat.le_refl _) _) (Nat.le_refl _) _
  · have d1 : decide (y ≤ 1000000) = false := by simp; omega
    have d2 : -1000000 ≤ y := by omega
    go_enter Try.func34, Try.ntmps34
    go_wp2_with (first | (refine wpList_build rfl 36 #[] rfl bcs ?_) | (refine wpList_store_row rfl 36 (.tmp 4) (.tmp 15) rfl w.heap.size (co 0 0) rfl (congrArg Value.agg bc) 36 (co 0 0) (one_first _ _) (info36 _ _) rfl (co_one _ _) ?_) | go_in)
    refine bodyPost_ret (results_row_3 rfl _ _ w.heap.size 36 (co 0 0) (0, 0) _ rfl (setRow_heap _ _ (co 0 0) _ _ _ (one_first _ _)) Try.underlying36 rfl (info36 _ _)) rfl ⟨rfl, ?_⟩
    exact below_setRow (below_al (Below.refl _ _) (Nat.le_refl _) _) (Nat.le_refl _) _

def nth2 (a b : Int) (k : Nat) : Int := if k = 0 then a else b
theorem co_get (a b : Int) (k : Nat) (h : k < 2) : (co a b)[k]? = some (.int .i32 (nth2 a b k)) := by
  match k, h with
  | 0, _ => rfl
  | 1, _ => rfl

set_option maxHeartbeats 400000 in
theorem eqCorner_any (a b : Int) (w : World) :
    Calls Try.prog 35 #[.agg (co a b), .agg (co a b)] w fun e w' => e = .returned (.bool true) ∧ Below w.heap.size w w' := by
  go_enter Try.func35, Try.ntmps35
  go_wp2
  go_loopw [5] (fun i wr => ∃ k : Nat, k ≤ 2 ∧ i = .int .i64 k ∧ ∃ n, wr = ((w.alloc (.cells (co a b) 36)).alloc (.cells (co a b) 36)).drewN n) (fun i _ => 2 - (intOf i).toNat)
  case atStart => exact ⟨0, by omega, rfl, 0, rfl⟩
  case round =>
    obtain ⟨k, hk, rfl, n, rfl⟩ := hrel
    by_cases hlt : k < 2
    · have g1 := co_get a b k hlt
      have i1 : (0 : Int) ≤ (k : Int) := by omega
      have i2 : (k : Int) < 2 := by omega
      go_wp2
      go_quiet (fail)
      go_wp2
      go_roundw
      case rel => exact ⟨k + 1, by omega, by go_num, n + nq, rfl⟩
      case measure => simp [intOf]; omega
    · obtain rfl : k = 2 := by omega
      go_wp2
      go_ret
      refine ⟨rfl, ?_⟩
      exact below_drewN (below_al (below_al (Below.refl _ _) (Nat.le_refl _) _) (Nat.le_refl _) _) _

set_option maxHeartbeats 400000 in
theorem blockLaw (x y a b c d e : Int)
    (hs : ∀ w, Calls Try.prog 33 #[.int .i64 x, .int .i64 y] w fun e' w' => e' = .returned (.tuple #[.agg (co a b), .int .i64 c, .int .i64 d, .int .i64 e]) ∧ Below w.heap.size w w')
    (hm : ∀ w, Calls Try.prog 34 #[.int .i64 x, .int .i64 y] w fun e' w' => e' = .returned (.tuple #[.agg (co a b), .int .i64 c, .int .i64 d, .int .i64 e]) ∧ Below w.heap.size w w') (w : World) :
    Calls Try.prog 9 #[.int .i64 x, .int .i64 y] w fun e w' => e = .returned (.bool true) ∧ Below w.heap.size w w' := by
  have S0 := St.zero w
  have Z : (#[.int .i32 0, .int .i32 0] : Array Value) = co 0 0 := rfl
  have KS := Lib.hid hs
  have KI := Lib.hid hm
  clear hs hm
  go_enter Try.func9, Try.ntmps9
  go_upto_region 3 with (first
    | (go_at_call 33; refine (KS.out _).mono ?_; rintro e' w1 ⟨rfl, hb⟩; have hS := St.call hb (by assumption); clear hb)
    | (go_at_call 34; refine (KI.out _).mono ?_; rintro e' w1 ⟨rfl, hb⟩; have hS := St.call hb (by assumption); clear hb)
    | ((with_reducible show wpList _ _ _ (Oper.mk _ (Op.store 36 (Operand.tmp 5) (Operand.tmp 17)) _ _ _ _ :: _) _ _); refine wpList_store_row rfl 36 (.tmp 5) (.tmp 17) rfl _ (co a b) rfl rfl 36 (co 0 0) (one_first _ _) (info36 _ _) rfl (co_one _ _) ?_; have hS := St.fresh (by assumption) (co 0 0) (co a b) 36)
    | ((with_reducible show wpList _ _ _ (Oper.mk _ (Op.store 36 (Operand.tmp 9) (Operand.tmp 25)) _ _ _ _ :: _) _ _); refine wpList_store_row rfl 36 (.tmp 9) (.tmp 25) rfl _ (co a b) rfl rfl 36 (co 0 0) (one_first _ _) (info36 _ _) rfl (co_one _ _) ?_; have hS := St.fresh (by assumption) (co 0 0) (co a b) 36))
  go_wp2_with (first
    | (go_at_call 35; refine (eqCorner_any a b _).mono ?_; rintro e' w1 ⟨rfl, hb⟩; have hS := St.call hb (by assumption); clear hb)
    | ((with_reducible show wpList _ _ _ (Oper.mk _ (Op.load 36 (Operand.tmp 9)) _ _ _ _ :: _) _ _); refine wpList_load_row rfl 36 (.tmp 9) rfl _ rfl 36 (co a b) (0, 0) _ (St.get hS 1 rfl) Try.underlying36 rfl (info36 _ _) ?_)
    | ((with_reducible show wpList _ _ _ (Oper.mk _ (Op.load 36 (Operand.tmp 5)) _ _ _ _ :: _) _ _); refine wpList_load_row rfl 36 (.tmp 5) rfl _ rfl 36 (co a b) (0, 0) _ (St.get hS 0 rfl) Try.underlying36 rfl (info36 _ _) ?_))
  go_ret
  exact ⟨rfl, St.below (by assumption)⟩

theorem blockWalk (x y : Int) (w : World) (_ : (Lit.int .i64 x).wf = true) (_ : (Lit.int .i64 y).wf = true) :
    Calls Try.prog 9 #[.int .i64 x, .int .i64 y] w fun e w' => e = .returned (.bool true) ∧ Below w.heap.size w w' := by
  by_cases h : Far x ∨ (-1000000 ≤ x ∧ x ≤ 1000000 ∧ Far y)
  · exact blockLaw x y 0 0 0 0 2 (fun w => sBlock_no x y h w) (fun w => iBlock_no x y h w) w
  · unfold Far at h
    exact blockLaw x y _ _ _ _ _ (fun w => sBlock_yes x y (by omega) (by omega) (by omega) (by omega) w) (fun w => iBlock_yes x y (by omega) (by omega) (by omega) (by omega) w) w
end Go.Proofs.Ytbkbjiifklhgiaa
