/- SamePicture: '==' on blocks; the walks of both sides. Conditions: none. -/
import Derived.Test.YtbkbjiifklhgiaaBlk
import Derived.Laws.StructEq
import Derived.Deep.Quiet
import Derived.BigQuiet
namespace Go.Proofs.Ytbkbjiifklhgiaa
open Go.RowKit
set_option linter.unusedVariables false

theorem all_range_ints : ∀ (xs ys : List Int), xs.length = ys.length → ((List.range xs.length).all fun i => xs.getD i 0 == ys.getD i 0) = (xs == ys)
  | [], [], _ => rfl
  | x :: xs, y :: ys, h => by
    have ih := all_range_ints xs ys (by simpa using h)
    rw [List.length_cons, List.range_succ_eq_map, List.all_cons, List.all_map]
    have e : ((fun i => (x :: xs).getD i 0 == (y :: ys).getD i 0) ∘ Nat.succ) = fun i => xs.getD i 0 == ys.getD i 0 := rfl
    rw [e, ih]
    show (x == y && xs == ys) = _
    simp [List.cons_beq_cons]
  | [], _ :: _, h => by simp at h
  | _ :: _, [], h => by simp at h
theorem map_get (κ : IntKind) (xs : List Int) (i : Nat) (h : i < xs.length) : (xs.map (Value.int κ)).toArray[i]? = some (.int κ (xs.getD i 0)) := by
  simp [h]
/-- '==' on arrays of numbers. -/
theorem run_eq_ints {P : Program} (w : World) (d : Nat) (t e : TypeId) (n : Nat) (κ : IntKind) (ht : P.underlying t = some (.array n e)) (he : P.underlying e = some (.int κ)) (hsz : ∀ w, (sizeOf e).run P w = .ok 1 w)
    (xs ys : List Int) (hx : xs.length = n) (hy : ys.length = n) : (Op.equalIn (d + 2) t (.agg (xs.map (Value.int κ)).toArray) (.agg (ys.map (Value.int κ)).toArray)).run P w = .ok (xs == ys) w := by
  rw [← all_range_ints xs ys (hx.trans hy.symm), hx, List.range_eq_range', Op.equalIn]
  simp only [Sem.run_bind, run_underlying ht, Result.andThen_ok, hsz, Std.Legacy.Range.forIn_eq_forIn_range', Std.Legacy.Range.size, Nat.sub_zero, Nat.add_sub_cancel, Nat.div_one]
  have hl : ∀ i ∈ List.range' 0 n 1, i < n := fun i hi => by simpa using (List.mem_range'_1.1 hi).2
  generalize List.range' 0 n 1 = l at hl ⊢
  induction l with
  | nil => simp
  | cons i l ih =>
    have hi : i < n := hl i (by simp)
    have px : (part e (xs.map (Value.int κ)).toArray (i * 1)).run P w = .ok (.int κ (xs.getD i 0)) w := by
      simp only [part, isAgg, Sem.run_bind, run_underlying he, Result.andThen_ok, Nat.mul_one, map_get κ xs i (by omega)]
      rfl
    have py : (part e (ys.map (Value.int κ)).toArray (i * 1)).run P w = .ok (.int κ (ys.getD i 0)) w := by
      simp only [part, isAgg, Sem.run_bind, run_underlying he, Result.andThen_ok, Nat.mul_one, map_get κ ys i (by omega)]
      rfl
    have pe : (Op.equalIn (d + 1) e (.int κ (xs.getD i 0)) (.int κ (ys.getD i 0))).run P w = .ok (xs.getD i 0 == ys.getD i 0) w := run_equalIn_int w d e κ κ _ _ he
    simp only [List.forIn_cons, Sem.run_bind, px, py, pe, Result.andThen_ok, List.all_cons]
    cases hb : (xs.getD i 0 == ys.getD i 0)
    · simp
    · simp only [Bool.not_true, Bool.false_eq_true, if_false, Sem.run_pure, Result.andThen_ok, Bool.true_and]
      exact ih fun j hj => hl j (by simp [hj])

theorem sz36 (w : World) : (sizeOf 36).run Try.prog w = .ok 2 w := by kernel_rfl
theorem sz26 (w : World) : (sizeOf 26).run Try.prog w = .ok 16 w := by kernel_rfl
theorem sz21 (w : World) : (sizeOf 21).run Try.prog w = .ok 1 w := by kernel_rfl
theorem sz22 (w : World) : (sizeOf 22).run Try.prog w = .ok 1 w := by kernel_rfl
theorem ag36 (w : World) : (isAgg 36).run Try.prog w = .ok true w := by kernel_rfl
theorem ag26 (w : World) : (isAgg 26).run Try.prog w = .ok true w := by kernel_rfl
theorem part_at (xs ys : List Int) (hx : xs.length = 2) (w : World) : (part 36 (blk xs ys).toArray 0).run Try.prog w = .ok (.agg (xs.map (Value.int .i32)).toArray) w := by
  simp only [part, Sem.run_bind, ag36, sz36, Result.andThen_ok, if_true, Sem.run_pure]
  congr 2
  simp [blk, hx]
theorem part_mask (xs ys : List Int) (hx : xs.length = 2) (hy : ys.length = 16) (w : World) : (part 26 (blk xs ys).toArray 2).run Try.prog w = .ok (.agg (ys.map (Value.int .u16)).toArray) w := by
  simp only [part, Sem.run_bind, ag26, sz26, Result.andThen_ok, if_true, Sem.run_pure]
  congr 2
  simp [blk, hx]
  exact List.take_of_length_le (by simp [hy])
theorem fields87 : (Try.prog.fieldsOf 87).toList.map (fun f => (f.name, f.type, f.offset)) = [("At", 36, 0), ("Mask", 26, 2)] := by kernel_rfl
theorem und87 : Try.prog.underlying 87 = some (.struct (Try.prog.fieldsOf 87)) := by kernel_rfl
theorem run_neq_blk (w : World) (x1 y1 x2 y2 : List Int) (h1 : x1.length = 2) (h2 : y1.length = 16) (h3 : x2.length = 2) (h4 : y2.length = 16) :
    (binOp .neq 87 (.agg (blk x1 y1).toArray) (.agg (blk x2 y2).toArray)).run Try.prog w = .ok (.bool (!(x1 == x2 && y1 == y2))) w := by
  rw [run_neq_struct, show (10000 : Nat) = 9997 + 2 + 1 from rfl, run_equalIn_struct w (9997 + 2) 87 _ _ und87 (by kernel_rfl)]
  have hf := fields87
  generalize (Try.prog.fieldsOf 87).toList = fs at hf
  obtain ⟨f1, f2, rfl⟩ : ∃ f1 f2, fs = [f1, f2] := by
    have hl := congrArg List.length hf
    simp at hl
    match fs, hl with
    | [a, b], _ => exact ⟨a, b, rfl⟩
  simp only [List.map_cons, List.map_nil, List.cons.injEq, Prod.mk.injEq, and_true] at hf
  obtain ⟨⟨n1, t1, o1⟩, n2, t2, o2⟩ := hf
  have e1 := run_eq_ints w 9997 36 21 2 .i32 Try.underlying36 Try.underlying21 sz21 x1 x2 h1 h3
  have e2 := run_eq_ints w 9997 26 22 16 .u16 Try.underlying26 Try.underlying22 sz22 y1 y2 h2 h4
  have q1 : ("At" : String) ≠ "_" := by decide
  have q2 : ("Mask" : String) ≠ "_" := by decide
  simp only [Nat.reduceAdd] at e1 e2 ⊢
  unfold Op.eqFields
  rw [if_pos (by rw [n1]; exact q1)]
  simp only [t1, o1, Sem.run_bind, part_at x1 y1 h1, part_at x2 y2 h3, Result.andThen_ok, e1]
  cases (x1 == x2)
  · simp
  · rw [if_neg (by simp)]
    unfold Op.eqFields
    rw [if_pos (by rw [n2]; exact q2)]
    simp only [t2, o2, Sem.run_bind, part_mask x1 y1 h1 h2, part_mask x2 y2 h3 h4, Result.andThen_ok, e2]
    cases (y1 == y2) <;> simp [Op.eqFields]

section
variable {P : Program} {ops : Array Oper} {C : World → Prop} {Q : Act → Prop} {a : Act} {o : Oper} {rest : List Oper}
theorem q_wanted (hg : o.guard = none) (y : Nat → Option Bool) : Region.wanted o y = true := by simp [Region.wanted, hg]
/-- A load of a row in a region that only reads. -/
theorem q_load (hw : Region.wanted o (yielded ops a.tmps) = true) (ty : TypeId) (x : Operand) (ho : o.op = .load ty x)
    (b off : Nat) (hx : a.eval x = .pointer (some ⟨b, off, none⟩)) (cs : List Value) (d : TypeDesc) (hc : ∀ w, C w → w.rangeAt b off cs)
    (hu : P.underlying ty = some d) (hd : d.isRow = true) (hi : (P.info? ty).map (·.size) = some cs.length)
    (h : wpQuiet P ops C Q rest (a.put o.dst (.agg cs.toArray))) : wpQuiet P ops C Q (o :: rest) a :=
  wpQuiet_step fun K hK => by
    rw [if_pos hw]
    refine ⟨.agg cs.toArray, fun w hCw => ?_, hK _ h⟩
    unfold Oper.quietAt execOp
    simp only [ho, hx, Instr.loadAt, Instr.sureAddr, Sem.run_bind, Sem.run_pure, Result.andThen_ok, run_loadVar_mid w b off ty cs d (hc w hCw) hu hd hi]
    exact ⟨rfl, rfl⟩
/-- '!=' on values whose comparison is known. -/
theorem q_neq (hw : Region.wanted o (yielded ops a.tmps) = true) (ty u : TypeId) (x y : Operand) (ho : o.op = .binOp .neq ty x y u) (xs ys : Array Value) (hx : a.eval x = .agg xs) (hy : a.eval y = .agg ys)
    (hm : P.eqGuardType P.depth ty = false) (v : Bool) (hr : ∀ w, (binOp .neq ty (.agg xs) (.agg ys)).run P w = .ok (.bool v) w)
    (h : wpQuiet P ops C Q rest (a.put o.dst (.bool v))) : wpQuiet P ops C Q (o :: rest) a :=
  wpQuiet_step fun K hK => by
    rw [if_pos hw]
    refine ⟨.bool v, fun w hCw => ?_, hK _ h⟩
    unfold Oper.quietAt execOp
    simp only [ho, hx, hy, Sem.run_bind, Sem.run_pure, Result.andThen_ok, run_eqGuard_agg w .neq ty x y xs ys hm, hr]
    exact ⟨rfl, rfl⟩
end
theorem range_drewN {w : World} {b o : Nat} {cs : List Value} (h : w.rangeAt b o cs) : ∀ w', (∃ n, w' = w.drewN n) → w'.rangeAt b o cs := fun w' ⟨n, e⟩ => by subst e; exact h

set_option maxHeartbeats 1600000 in
theorem sSame_ok (A1 A2 : Option Addr) (n c1 c2 : Nat) (X1 Y1 X2 Y2 : Nat → List Int) (hn : n ≤ 1048576) (h1X : ∀ k, k < n → (X1 k).length = 2 ∧ (Y1 k).length = 16) (h2X : ∀ k, k < n → (X2 k).length = 2 ∧ (Y2 k).length = 16)
    (he : ∀ k, k < n → (X1 k == X2 k && Y1 k == Y2 k) = true) (w : World) (h1 : Bls w A1 n X1 Y1) (h2 : Bls w A2 n X2 Y2) :
    Calls Try.prog 59 #[.slice A1 n c1, .slice A2 n c2] w fun e w' => e = .returned (.bool true) ∧ Below w.heap.size w w' := by
  have H1 := Lib.hid h1
  have H2 := Lib.hid h2
  have HX1 := Lib.hid h1X
  have HX2 := Lib.hid h2X
  have HE := Lib.hid he
  clear h1 h2 h1X h2X he
  go_enter Try.func59, Try.ntmps59
  go_wp2
  go_loopw [5] (fun i wr => ∃ k : Nat, k ≤ n ∧ i = .int .i64 k ∧ ∃ q, wr = w.drewN q) (fun i _ => n - (intOf i).toNat)
  case atStart => exact ⟨0, by omega, rfl, 0, rfl⟩
  case round =>
    obtain ⟨k, hk, rfl, q, rfl⟩ := hrel
    by_cases hlt : k < n
    · have i0 : (0 : Int) ≤ k := by omega
      have i1 : (k : Int) < n := by omega
      obtain ⟨b1, o1, rfl, hl1, hc1⟩ := H1.out (by omega)
      obtain ⟨b2, o2, rfl, hl2, hc2⟩ := H2.out (by omega)
      have hkn : k < n := by omega
      have R1 := Lib.hid (show (w.drewN q).rangeAt b1 (o1 + k * 18) (blk (X1 k) (Y1 k)) from hc1 k hkn)
      have R2 := Lib.hid (show (w.drewN q).rangeAt b2 (o2 + k * 18) (blk (X2 k) (Y2 k)) from hc2 k hkn)
      have L1 := Lib.hid (blk_len (HX1.out k hkn).1 (HX1.out k hkn).2)
      have L2 := Lib.hid (blk_len (HX2.out k hkn).1 (HX2.out k hkn).2)
      have hq := fun w => run_neq_blk w (X1 k) (Y1 k) (X2 k) (Y2 k) (HX1.out k hkn).1 (HX1.out k hkn).2 (HX2.out k hkn).1 (HX2.out k hkn).2
      rw [HE.out k hlt] at hq
      have HQ := Lib.hid hq
      clear hc1 hc2 hq hkn
      go_wp2
      refine wp_region_quiet_lit (by kernel_rfl) (by kernel_rfl) ?_
      repeat (first
        | (refine q_load (q_wanted rfl _) 87 (.tmp 19) rfl b1 (o1 + k * 18) rfl (blk (X1 k) (Y1 k)) _ (range_drewN R1.out) Try.underlying87 rfl (by rw [L1.out]; exact info87) ?_)
        | (refine q_load (q_wanted rfl _) 87 (.tmp 23) rfl b2 (o2 + k * 18) rfl (blk (X2 k) (Y2 k)) _ (range_drewN R2.out) Try.underlying87 rfl (by rw [L2.out]; exact info87) ?_)
        | (refine q_neq (q_wanted rfl _) 87 87 (.tmp 20) (.tmp 24) rfl _ _ rfl rfl (by kernel_rfl) _ HQ.out ?_)
        | quiet_step (fail))
      refine wpQuiet_nil ?_
      rintro _ ⟨nq, rfl⟩
      go_wp2
      go_roundw
      case rel => exact ⟨k + 1, by omega, by go_num, _, rfl⟩
      case measure => simp [intOf]; omega
    · obtain rfl : k = n := by omega
      go_wp2
      go_ret
      exact ⟨rfl, below_drewN (Below.refl _ _) _⟩
set_option maxHeartbeats 1600000 in
theorem sSame_bad (A1 A2 : Option Addr) (n c1 c2 : Nat) (X1 Y1 X2 Y2 : Nat → List Int) (hn : n ≤ 1048576) (h1X : ∀ k, k < n → (X1 k).length = 2 ∧ (Y1 k).length = 16) (h2X : ∀ k, k < n → (X2 k).length = 2 ∧ (Y2 k).length = 16)
    (K : Nat) (hK : K < n) (he : ∀ k, k < K → (X1 k == X2 k && Y1 k == Y2 k) = true) (hne : (X1 K == X2 K && Y1 K == Y2 K) = false) (w : World) (h1 : Bls w A1 n X1 Y1) (h2 : Bls w A2 n X2 Y2) :
    Calls Try.prog 59 #[.slice A1 n c1, .slice A2 n c2] w fun e w' => e = .returned (.bool false) ∧ Below w.heap.size w w' := by
  have H1 := Lib.hid h1
  have H2 := Lib.hid h2
  have HX1 := Lib.hid h1X
  have HX2 := Lib.hid h2X
  have HE := Lib.hid he
  have HN := Lib.hid hne
  clear h1 h2 h1X h2X he hne
  go_enter Try.func59, Try.ntmps59
  go_wp2
  go_loopw [5] (fun i wr => ∃ k : Nat, k ≤ K ∧ i = .int .i64 k ∧ ∃ q, wr = w.drewN q) (fun i _ => K - (intOf i).toNat)
  case atStart => exact ⟨0, by omega, rfl, 0, rfl⟩
  case round =>
    obtain ⟨k, hk, rfl, q, rfl⟩ := hrel
    by_cases hlt : k < K
    · have i0 : (0 : Int) ≤ k := by omega
      have i1 : (k : Int) < n := by omega
      obtain ⟨b1, o1, rfl, hl1, hc1⟩ := H1.out (by omega)
      obtain ⟨b2, o2, rfl, hl2, hc2⟩ := H2.out (by omega)
      have hkn : k < n := by omega
      have R1 := Lib.hid (show (w.drewN q).rangeAt b1 (o1 + k * 18) (blk (X1 k) (Y1 k)) from hc1 k hkn)
      have R2 := Lib.hid (show (w.drewN q).rangeAt b2 (o2 + k * 18) (blk (X2 k) (Y2 k)) from hc2 k hkn)
      have L1 := Lib.hid (blk_len (HX1.out k hkn).1 (HX1.out k hkn).2)
      have L2 := Lib.hid (blk_len (HX2.out k hkn).1 (HX2.out k hkn).2)
      have hq := fun w => run_neq_blk w (X1 k) (Y1 k) (X2 k) (Y2 k) (HX1.out k hkn).1 (HX1.out k hkn).2 (HX2.out k hkn).1 (HX2.out k hkn).2
      rw [HE.out k hlt] at hq
      have HQ := Lib.hid hq
      clear hc1 hc2 hq hkn
      go_wp2
      refine wp_region_quiet_lit (by kernel_rfl) (by kernel_rfl) ?_
      repeat (first
        | (refine q_load (q_wanted rfl _) 87 (.tmp 19) rfl b1 (o1 + k * 18) rfl (blk (X1 k) (Y1 k)) _ (range_drewN R1.out) Try.underlying87 rfl (by rw [L1.out]; exact info87) ?_)
        | (refine q_load (q_wanted rfl _) 87 (.tmp 23) rfl b2 (o2 + k * 18) rfl (blk (X2 k) (Y2 k)) _ (range_drewN R2.out) Try.underlying87 rfl (by rw [L2.out]; exact info87) ?_)
        | (refine q_neq (q_wanted rfl _) 87 87 (.tmp 20) (.tmp 24) rfl _ _ rfl rfl (by kernel_rfl) _ HQ.out ?_)
        | quiet_step (fail))
      refine wpQuiet_nil ?_
      rintro _ ⟨nq, rfl⟩
      go_wp2
      go_roundw
      case rel => exact ⟨k + 1, by omega, by go_num, _, rfl⟩
      case measure => simp [intOf]; omega
    · obtain rfl : k = K := by omega
      have i0 : (0 : Int) ≤ k := by omega
      have i1 : (k : Int) < n := by omega
      obtain ⟨b1, o1, rfl, hl1, hc1⟩ := H1.out (by omega)
      obtain ⟨b2, o2, rfl, hl2, hc2⟩ := H2.out (by omega)
      have hkn : k < n := by omega
      have R1 := Lib.hid (show (w.drewN q).rangeAt b1 (o1 + k * 18) (blk (X1 k) (Y1 k)) from hc1 k hkn)
      have R2 := Lib.hid (show (w.drewN q).rangeAt b2 (o2 + k * 18) (blk (X2 k) (Y2 k)) from hc2 k hkn)
      have L1 := Lib.hid (blk_len (HX1.out k hkn).1 (HX1.out k hkn).2)
      have L2 := Lib.hid (blk_len (HX2.out k hkn).1 (HX2.out k hkn).2)
      have hq := fun w => run_neq_blk w (X1 k) (Y1 k) (X2 k) (Y2 k) (HX1.out k hkn).1 (HX1.out k hkn).2 (HX2.out k hkn).1 (HX2.out k hkn).2
      rw [HN.out] at hq
      have HQ := Lib.hid hq
      clear hc1 hc2 hq hkn
      go_wp2
      refine wp_region_quiet_lit (by kernel_rfl) (by kernel_rfl) ?_
      repeat (first
        | (refine q_load (q_wanted rfl _) 87 (.tmp 19) rfl b1 (o1 + k * 18) rfl (blk (X1 k) (Y1 k)) _ (range_drewN R1.out) Try.underlying87 rfl (by rw [L1.out]; exact info87) ?_)
        | (refine q_load (q_wanted rfl _) 87 (.tmp 23) rfl b2 (o2 + k * 18) rfl (blk (X2 k) (Y2 k)) _ (range_drewN R2.out) Try.underlying87 rfl (by rw [L2.out]; exact info87) ?_)
        | (refine q_neq (q_wanted rfl _) 87 87 (.tmp 20) (.tmp 24) rfl _ _ rfl rfl (by kernel_rfl) _ HQ.out ?_)
        | quiet_step (fail))
      refine wpQuiet_nil ?_
      rintro _ ⟨nq, rfl⟩
      go_wp2
      go_ret
      exact ⟨rfl, below_drewN (Below.refl _ _) _⟩
set_option maxHeartbeats 400000 in
theorem sSame_len (A1 A2 : Option Addr) (n m c1 c2 : Nat) (hne : n ≠ m) (w : World) :
    Calls Try.prog 59 #[.slice A1 n c1, .slice A2 m c2] w fun e w' => e = .returned (.bool false) ∧ Below w.heap.size w w' := by
  have d : ((n : Int) == (m : Int)) = false := by rw [beq_eq_false_iff_ne]; omega
  go_enter Try.func59, Try.ntmps59
  go_wp2
  go_ret
  exact ⟨rfl, Below.refl _ _⟩
set_option maxHeartbeats 1600000 in
theorem eqSl_ok (A1 A2 : Option Addr) (n c1 c2 : Nat) (X1 Y1 X2 Y2 : Nat → List Int) (hn : n ≤ 1048576) (h1X : ∀ k, k < n → (X1 k).length = 2 ∧ (Y1 k).length = 16) (h2X : ∀ k, k < n → (X2 k).length = 2 ∧ (Y2 k).length = 16)
    (he : ∀ k, k < n → (X1 k == X2 k && Y1 k == Y2 k) = true) (w : World) (h1 : Bls w A1 n X1 Y1) (h2 : Bls w A2 n X2 Y2) :
    Calls Try.prog 90 #[.slice A1 n c1, .slice A2 n c2] w fun e w' => e = .returned (.bool true) ∧ Below w.heap.size w w' := by
  have H1 := Lib.hid h1
  have H2 := Lib.hid h2
  have HX1 := Lib.hid h1X
  have HX2 := Lib.hid h2X
  have HE := Lib.hid he
  clear h1 h2 h1X h2X he
  go_enter Try.func90, Try.ntmps90
  go_wp2
  go_loopw [13] (fun i wr => ∃ k : Nat, k ≤ n ∧ i = .int .i64 k ∧ ∃ q, wr = w.drewN q) (fun i _ => n - (intOf i).toNat)
  case atStart => exact ⟨0, by omega, rfl, 0, rfl⟩
  case round =>
    obtain ⟨k, hk, rfl, q, rfl⟩ := hrel
    by_cases hlt : k < n
    · have i0 : (0 : Int) ≤ k := by omega
      have i1 : (k : Int) < n := by omega
      obtain ⟨b1, o1, rfl, hl1, hc1⟩ := H1.out (by omega)
      obtain ⟨b2, o2, rfl, hl2, hc2⟩ := H2.out (by omega)
      have hkn : k < n := by omega
      have R1 := Lib.hid (show (w.drewN q).rangeAt b1 (o1 + k * 18) (blk (X1 k) (Y1 k)) from hc1 k hkn)
      have R2 := Lib.hid (show (w.drewN q).rangeAt b2 (o2 + k * 18) (blk (X2 k) (Y2 k)) from hc2 k hkn)
      have L1 := Lib.hid (blk_len (HX1.out k hkn).1 (HX1.out k hkn).2)
      have L2 := Lib.hid (blk_len (HX2.out k hkn).1 (HX2.out k hkn).2)
      have hq := fun w => run_neq_blk w (X1 k) (Y1 k) (X2 k) (Y2 k) (HX1.out k hkn).1 (HX1.out k hkn).2 (HX2.out k hkn).1 (HX2.out k hkn).2
      rw [HE.out k hlt] at hq
      have HQ := Lib.hid hq
      clear hc1 hc2 hq hkn
      go_wp2
      refine wp_region_quiet_lit (by kernel_rfl) (by kernel_rfl) ?_
      repeat (first
        | (refine q_load (q_wanted rfl _) 87 (.tmp 18) rfl b1 (o1 + k * 18) rfl (blk (X1 k) (Y1 k)) _ (range_drewN R1.out) Try.underlying87 rfl (by rw [L1.out]; exact info87) ?_)
        | (refine q_load (q_wanted rfl _) 87 (.tmp 22) rfl b2 (o2 + k * 18) rfl (blk (X2 k) (Y2 k)) _ (range_drewN R2.out) Try.underlying87 rfl (by rw [L2.out]; exact info87) ?_)
        | (refine q_neq (q_wanted rfl _) 87 87 (.tmp 19) (.tmp 23) rfl _ _ rfl rfl (by kernel_rfl) _ HQ.out ?_)
        | quiet_step (fail))
      refine wpQuiet_nil ?_
      rintro _ ⟨nq, rfl⟩
      go_wp2
      go_roundw
      case rel => exact ⟨k + 1, by omega, by go_num, _, rfl⟩
      case measure => simp [intOf]; omega
    · obtain rfl : k = n := by omega
      go_wp2
      go_ret
      exact ⟨rfl, below_drewN (Below.refl _ _) _⟩
set_option maxHeartbeats 1600000 in
theorem eqSl_bad (A1 A2 : Option Addr) (n c1 c2 : Nat) (X1 Y1 X2 Y2 : Nat → List Int) (hn : n ≤ 1048576) (h1X : ∀ k, k < n → (X1 k).length = 2 ∧ (Y1 k).length = 16) (h2X : ∀ k, k < n → (X2 k).length = 2 ∧ (Y2 k).length = 16)
    (K : Nat) (hK : K < n) (he : ∀ k, k < K → (X1 k == X2 k && Y1 k == Y2 k) = true) (hne : (X1 K == X2 K && Y1 K == Y2 K) = false) (w : World) (h1 : Bls w A1 n X1 Y1) (h2 : Bls w A2 n X2 Y2) :
    Calls Try.prog 90 #[.slice A1 n c1, .slice A2 n c2] w fun e w' => e = .returned (.bool false) ∧ Below w.heap.size w w' := by
  have H1 := Lib.hid h1
  have H2 := Lib.hid h2
  have HX1 := Lib.hid h1X
  have HX2 := Lib.hid h2X
  have HE := Lib.hid he
  have HN := Lib.hid hne
  clear h1 h2 h1X h2X he hne
  go_enter Try.func90, Try.ntmps90
  go_wp2
  go_loopw [13] (fun i wr => ∃ k : Nat, k ≤ K ∧ i = .int .i64 k ∧ ∃ q, wr = w.drewN q) (fun i _ => K - (intOf i).toNat)
  case atStart => exact ⟨0, by omega, rfl, 0, rfl⟩
  case round =>
    obtain ⟨k, hk, rfl, q, rfl⟩ := hrel
    by_cases hlt : k < K
    · have i0 : (0 : Int) ≤ k := by omega
      have i1 : (k : Int) < n := by omega
      obtain ⟨b1, o1, rfl, hl1, hc1⟩ := H1.out (by omega)
      obtain ⟨b2, o2, rfl, hl2, hc2⟩ := H2.out (by omega)
      have hkn : k < n := by omega
      have R1 := Lib.hid (show (w.drewN q).rangeAt b1 (o1 + k * 18) (blk (X1 k) (Y1 k)) from hc1 k hkn)
      have R2 := Lib.hid (show (w.drewN q).rangeAt b2 (o2 + k * 18) (blk (X2 k) (Y2 k)) from hc2 k hkn)
      have L1 := Lib.hid (blk_len (HX1.out k hkn).1 (HX1.out k hkn).2)
      have L2 := Lib.hid (blk_len (HX2.out k hkn).1 (HX2.out k hkn).2)
      have hq := fun w => run_neq_blk w (X1 k) (Y1 k) (X2 k) (Y2 k) (HX1.out k hkn).1 (HX1.out k hkn).2 (HX2.out k hkn).1 (HX2.out k hkn).2
      rw [HE.out k hlt] at hq
      have HQ := Lib.hid hq
      clear hc1 hc2 hq hkn
      go_wp2
      refine wp_region_quiet_lit (by kernel_rfl) (by kernel_rfl) ?_
      repeat (first
        | (refine q_load (q_wanted rfl _) 87 (.tmp 18) rfl b1 (o1 + k * 18) rfl (blk (X1 k) (Y1 k)) _ (range_drewN R1.out) Try.underlying87 rfl (by rw [L1.out]; exact info87) ?_)
        | (refine q_load (q_wanted rfl _) 87 (.tmp 22) rfl b2 (o2 + k * 18) rfl (blk (X2 k) (Y2 k)) _ (range_drewN R2.out) Try.underlying87 rfl (by rw [L2.out]; exact info87) ?_)
        | (refine q_neq (q_wanted rfl _) 87 87 (.tmp 19) (.tmp 23) rfl _ _ rfl rfl (by kernel_rfl) _ HQ.out ?_)
        | quiet_step (fail))
      refine wpQuiet_nil ?_
      rintro _ ⟨nq, rfl⟩
      go_wp2
      go_roundw
      case rel => exact ⟨k + 1, by omega, by go_num, _, rfl⟩
      case measure => simp [intOf]; omega
    · obtain rfl : k = K := by omega
      have i0 : (0 : Int) ≤ k := by omega
      have i1 : (k : Int) < n := by omega
      obtain ⟨b1, o1, rfl, hl1, hc1⟩ := H1.out (by omega)
      obtain ⟨b2, o2, rfl, hl2, hc2⟩ := H2.out (by omega)
      have hkn : k < n := by omega
      have R1 := Lib.hid (show (w.drewN q).rangeAt b1 (o1 + k * 18) (blk (X1 k) (Y1 k)) from hc1 k hkn)
      have R2 := Lib.hid (show (w.drewN q).rangeAt b2 (o2 + k * 18) (blk (X2 k) (Y2 k)) from hc2 k hkn)
      have L1 := Lib.hid (blk_len (HX1.out k hkn).1 (HX1.out k hkn).2)
      have L2 := Lib.hid (blk_len (HX2.out k hkn).1 (HX2.out k hkn).2)
      have hq := fun w => run_neq_blk w (X1 k) (Y1 k) (X2 k) (Y2 k) (HX1.out k hkn).1 (HX1.out k hkn).2 (HX2.out k hkn).1 (HX2.out k hkn).2
      rw [HN.out] at hq
      have HQ := Lib.hid hq
      clear hc1 hc2 hq hkn
      go_wp2
      refine wp_region_quiet_lit (by kernel_rfl) (by kernel_rfl) ?_
      repeat (first
        | (refine q_load (q_wanted rfl _) 87 (.tmp 18) rfl b1 (o1 + k * 18) rfl (blk (X1 k) (Y1 k)) _ (range_drewN R1.out) Try.underlying87 rfl (by rw [L1.out]; exact info87) ?_)
        | (refine q_load (q_wanted rfl _) 87 (.tmp 22) rfl b2 (o2 + k * 18) rfl (blk (X2 k) (Y2 k)) _ (range_drewN R2.out) Try.underlying87 rfl (by rw [L2.out]; exact info87) ?_)
        | (refine q_neq (q_wanted rfl _) 87 87 (.tmp 19) (.tmp 23) rfl _ _ rfl rfl (by kernel_rfl) _ HQ.out ?_)
        | quiet_step (fail))
      refine wpQuiet_nil ?_
      rintro _ ⟨nq, rfl⟩
      go_wp2
      go_ret
      exact ⟨rfl, below_drewN (Below.refl _ _) _⟩
set_option maxHeartbeats 400000 in
theorem eqSl_len (A1 A2 : Option Addr) (n m c1 c2 : Nat) (hne : n ≠ m) (w : World) :
    Calls Try.prog 90 #[.slice A1 n c1, .slice A2 m c2] w fun e w' => e = .returned (.bool false) ∧ Below w.heap.size w w' := by
  have d : ((n : Int) == (m : Int)) = false := by rw [beq_eq_false_iff_ne]; omega
  go_enter Try.func90, Try.ntmps90
  go_wp2
  go_ret
  exact ⟨rfl, Below.refl _ _⟩

/-- Is one list of blocks the other? -/
def sameB (n m : Nat) (X1 Y1 X2 Y2 : Nat → List Int) : Bool := decide (n = m) && (List.range n).all fun k => X1 k == X2 k && Y1 k == Y2 k
theorem same_cases (n m : Nat) (X1 Y1 X2 Y2 : Nat → List Int) : (n ≠ m ∧ sameB n m X1 Y1 X2 Y2 = false) ∨ (n = m ∧ (∀ k, k < n → (X1 k == X2 k && Y1 k == Y2 k) = true) ∧ sameB n m X1 Y1 X2 Y2 = true) ∨
    (n = m ∧ ∃ K, K < n ∧ (∀ k, k < K → (X1 k == X2 k && Y1 k == Y2 k) = true) ∧ (X1 K == X2 K && Y1 K == Y2 K) = false ∧ sameB n m X1 Y1 X2 Y2 = false) := by
  by_cases h : n = m
  · rcases first_no (p := fun k => X1 k == X2 k && Y1 k == Y2 k) n with h1 | ⟨K, hK, h1, h2⟩
    · refine .inr (.inl ⟨h, h1, ?_⟩)
      have : ((List.range n).all fun k => X1 k == X2 k && Y1 k == Y2 k) = true := List.all_eq_true.2 fun k hk => h1 k (by simpa using hk)
      unfold sameB; rw [this]; simp [h]
    · refine .inr (.inr ⟨h, K, hK, h1, h2, ?_⟩)
      have : ((List.range n).all fun k => X1 k == X2 k && Y1 k == Y2 k) = false := by
        rw [List.all_eq_false]
        exact ⟨K, by simpa using hK, by rw [h2]; simp⟩
      unfold sameB; rw [this]; simp
  · exact .inl ⟨h, by simp [sameB, h]⟩
theorem sSame (A1 A2 : Option Addr) (n m c1 c2 : Nat) (X1 Y1 X2 Y2 : Nat → List Int) (hn : n ≤ 1048576) (h1X : ∀ k, k < n → (X1 k).length = 2 ∧ (Y1 k).length = 16) (h2X : ∀ k, k < m → (X2 k).length = 2 ∧ (Y2 k).length = 16)
    (w : World) (h1 : Bls w A1 n X1 Y1) (h2 : Bls w A2 m X2 Y2) :
    Calls Try.prog 59 #[.slice A1 n c1, .slice A2 m c2] w fun e w' => e = .returned (.bool (sameB n m X1 Y1 X2 Y2)) ∧ Below w.heap.size w w' := by
  rcases same_cases n m X1 Y1 X2 Y2 with ⟨h, e⟩ | ⟨rfl, h, e⟩ | ⟨rfl, K, hK, h, h', e⟩
  · rw [e]; exact sSame_len A1 A2 n m c1 c2 h w
  · rw [e]; exact sSame_ok A1 A2 n c1 c2 X1 Y1 X2 Y2 hn h1X h2X h w h1 h2
  · rw [e]; exact sSame_bad A1 A2 n c1 c2 X1 Y1 X2 Y2 hn h1X h2X K hK h h' w h1 h2
theorem eqSl (A1 A2 : Option Addr) (n m c1 c2 : Nat) (X1 Y1 X2 Y2 : Nat → List Int) (hn : n ≤ 1048576) (h1X : ∀ k, k < n → (X1 k).length = 2 ∧ (Y1 k).length = 16) (h2X : ∀ k, k < m → (X2 k).length = 2 ∧ (Y2 k).length = 16)
    (w : World) (h1 : Bls w A1 n X1 Y1) (h2 : Bls w A2 m X2 Y2) :
    Calls Try.prog 90 #[.slice A1 n c1, .slice A2 m c2] w fun e w' => e = .returned (.bool (sameB n m X1 Y1 X2 Y2)) ∧ Below w.heap.size w w' := by
  rcases same_cases n m X1 Y1 X2 Y2 with ⟨h, e⟩ | ⟨rfl, h, e⟩ | ⟨rfl, K, hK, h, h', e⟩
  · rw [e]; exact eqSl_len A1 A2 n m c1 c2 h w
  · rw [e]; exact eqSl_ok A1 A2 n c1 c2 X1 Y1 X2 Y2 hn h1X h2X h w h1 h2
  · rw [e]; exact eqSl_bad A1 A2 n c1 c2 X1 Y1 X2 Y2 hn h1X h2X K hK h h' w h1 h2
set_option maxHeartbeats 400000 in
theorem iSame (A1 A2 : Option Addr) (n m c1 c2 : Nat) (X1 Y1 X2 Y2 : Nat → List Int) (hn : n ≤ 1048576) (h1X : ∀ k, k < n → (X1 k).length = 2 ∧ (Y1 k).length = 16) (h2X : ∀ k, k < m → (X2 k).length = 2 ∧ (Y2 k).length = 16)
    (w : World) (h1 : Bls w A1 n X1 Y1) (h2 : Bls w A2 m X2 Y2) :
    Calls Try.prog 61 #[.slice A1 n c1, .slice A2 m c2] w fun e w' => e = .returned (.bool (sameB n m X1 Y1 X2 Y2)) ∧ Below w.heap.size w w' := by
  have HC := Lib.hid (eqSl A1 A2 n m c1 c2 X1 Y1 X2 Y2 hn h1X h2X w h1 h2)
  clear h1 h2 h1X h2X hn
  generalize sameB n m X1 Y1 X2 Y2 = b at *
  go_enter Try.func61, Try.ntmps61
  go_wp2_with (go_at_call 90; refine HC.out.mono ?_; rintro e w1 ⟨rfl, hb1⟩)
  go_ret
  exact ⟨rfl, hb1⟩
end Go.Proofs.Ytbkbjiifklhgiaa
