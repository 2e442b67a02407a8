/- LetterSums: the walks of both sides and of the law. Conditions: none. -/
import Derived.Test.YtalbagjgkcgblaaRow
import Derived.Test.YtalbagjgkcgblaaCmp
import Derived.Deep.Cut
import Derived.Deep.DeepCutAuto
namespace Go.Proofs.Ytalbagjgkcgblaa
open Go.RowKit
set_option linter.unusedVariables false

/-- One letter counted. -/
def addAt (zs : List Int) (c : UInt8) : List Int := zs.set (lnoN c / 2) (nth zs (lnoN c / 2) + (1 - 2 * ((lnoN c % 2 : Nat) : Int)))
/-- The sums of the first k letters. -/
def sumTo (l : List UInt8) (k : Nat) : List Int := (l.take k).foldl addAt [0, 0, 0, 0]
theorem addAt_len (zs : List Int) (c : UInt8) : (addAt zs c).length = zs.length := by simp [addAt]
theorem sumTo_succ (l : List UInt8) (k : Nat) (h : k < l.length) : sumTo l (k + 1) = addAt (sumTo l k) (atb l k) := by
  unfold sumTo; rw [take_atb h]; simp
theorem sumTo_len (l : List UInt8) (k : Nat) : (sumTo l k).length = 4 := by
  unfold sumTo
  generalize l.take k = m
  have key : ∀ (m : List UInt8) (zs : List Int), (m.foldl addAt zs).length = zs.length := by
    intro m
    induction m with
    | nil => intro zs; rfl
    | cons c m ih => intro zs; rw [List.foldl_cons, ih, addAt_len]
  rw [key]; rfl
theorem sumTo_lim (l : List UInt8) : ∀ (k : Nat), k ≤ l.length → ∀ j, -(k : Int) ≤ nth (sumTo l k) j ∧ nth (sumTo l k) j ≤ k
  | 0, _, j => by
    have : sumTo l 0 = [0, 0, 0, 0] := rfl
    rw [this]
    have : nth [0, 0, 0, 0] j = 0 := by
      unfold nth
      match j with
      | 0 => rfl
      | 1 => rfl
      | 2 => rfl
      | 3 => rfl
      | j + 4 => rfl
    omega
  | k + 1, hk, j => by
    have ih := sumTo_lim l k (by omega)
    rw [sumTo_succ l k (by omega)]
    unfold addAt
    by_cases hb : lnoN (atb l k) / 2 < (sumTo l k).length
    · rw [nth_set _ _ _ _ hb]
      have h1 := ih j
      have h2 := ih (lnoN (atb l k) / 2)
      have h3 : lnoN (atb l k) % 2 < 2 := Nat.mod_lt _ (by omega)
      split <;> omega
    · rw [List.set_eq_of_length_le (by omega)]
      have h1 := ih j
      omega
theorem lno_cases {c : UInt8} (h : Wd.isL c = true) : (lno c = 0 ∧ lnoN c = 0) ∨ (lno c = 1 ∧ lnoN c = 1) ∨ (lno c = 2 ∧ lnoN c = 2) ∨ (lno c = 3 ∧ lnoN c = 3) ∨ (lno c = 4 ∧ lnoN c = 4) ∨ (lno c = 5 ∧ lnoN c = 5) ∨ (lno c = 6 ∧ lnoN c = 6) ∨ (lno c = 7 ∧ lnoN c = 7) := by
  obtain ⟨a1, _, _, _⟩ := letter_at c h
  unfold lno; rw [if_pos a1]; omega
theorem info_A4 (zs : List Int) (hz : zs.length = 4) : (Try.prog.info? 32).map (·.size) = some (mk .i64 zs).size := by
  rw [mk_size, hz]; kernel_rfl

theorem bzA4 : (Try.prog.built 32 []).getD #[] = mk .i64 [0, 0, 0, 0] := by kernel_rfl
theorem bzsA4 : (Try.prog.built 32 []).isSome = true := by kernel_rfl
theorem sumTo_zero (l : List UInt8) : sumTo l 0 = [0, 0, 0, 0] := rfl

set_option maxHeartbeats 1600000 in
theorem sSums_any (l : List UInt8) (hl : l.length ≤ 40) (hL : ∀ x ∈ l, Wd.isL x = true) (w : World) :
    Calls Try.prog 52 #[.string (bs l)] w fun e w' => e = .returned (.agg (mk .i64 (sumTo l l.length))) ∧ Below w.heap.size w w' := by
  have hi0 := sumTo_zero l
  go_enter Try.func52, Try.ntmps52
  go_wp2
  go_loopw [4] (fun i wr => ∃ k : Nat, k ≤ l.length ∧ i = .int .i64 k ∧ wr = ((w.alloc (.cells (mk .i64 (sumTo l 0)) 32)).alloc (.cells (mk .i64 (sumTo l k)) 32))) (fun i _ => l.length - (intOf i).toNat)
  case atStart => exact ⟨0, by omega, rfl, rfl⟩
  case round =>
    obtain ⟨k, hk, rfl, rfl⟩ := hrel
    have i0 : (0 : Int) ≤ k := by omega
    by_cases g1 : k < l.length
    · skip
      have i1 : (k : Int) < l.length := by omega
      have hlim := sumTo_lim l k hk
      have hlen := sumTo_len l k
      have hsucc := sumTo_succ l k g1
      unfold addAt at hsucc
      obtain ⟨zs, hzs⟩ : ∃ zs, zs = sumTo l k := ⟨_, rfl⟩
      rw [← hzs] at hlim hlen hsucc ⊢
      clear hzs
      have hc := lno_cases (vld_at hL g1)
      clear hL
      rcases hc with ⟨h, h'⟩ | ⟨h, h'⟩ | ⟨h, h'⟩ | ⟨h, h'⟩ | ⟨h, h'⟩ | ⟨h, h'⟩ | ⟨h, h'⟩ | ⟨h, h'⟩
      all_goals
        rw [h'] at hsucc
        have E := Lib.hid hsucc
        have H := Lib.hid h
        have e0 := mk_get .i64 zs 0 (by omega)
        have e1 := mk_get .i64 zs 1 (by omega)
        have e2 := mk_get .i64 zs 2 (by omega)
        have e3 := mk_get .i64 zs 3 (by omega)
        have l0 := hlim 0
        have l1 := hlim 1
        have l2 := hlim 2
        have l3 := hlim 3
        clear hsucc h h' hlim
        go_wp2_with (go_at_call 54; refine (letter_any (atb l k) _).mono ?_; rintro e w1 ⟨rfl, rfl⟩; rw [H.out])
        go_roundw
        case rel => exact ⟨k + 1, by omega, by go_num, by rw [E.out, ← mk_set]; rfl⟩
        case measure => simp [intOf]; omega
    · obtain rfl : k = l.length := by omega
      have hlen := sumTo_len l l.length
      have hz := hi0
      obtain ⟨rs, hrs⟩ : ∃ rs, rs = sumTo l l.length := ⟨_, rfl⟩
      rw [← hrs] at hlen ⊢
      have H := Lib.hid hrs
      clear hrs hL
      have hi := info_A4 rs hlen
      have hsz : (mk .i64 (sumTo l 0)).size = (mk .i64 rs).size := by rw [mk_size, mk_size, hlen]; rfl
      go_wp2_with (first
        | (refine wpList_load_row rfl 32 (.tmp 3) rfl (w.heap.size + 1) rfl 32 (mk .i64 rs) (0, 0) _ (two_second _ _ _) Try.underlying32 rfl hi ?_)
        | (refine wpList_store_row rfl 32 (.tmp 2) (.tmp 32) rfl w.heap.size (mk .i64 rs) rfl rfl 32 (mk .i64 (sumTo l 0)) (two_first _ _ _) hi hsz (mk_one _ _) ?_))
      refine bodyPost_ret (results_cell_row rfl _ _ w.heap.size 32 (mk .i64 rs) (0, 0) _ rfl (setRow_heap _ _ (mk .i64 (sumTo l 0)) _ _ _ (two_first _ _ _)) Try.underlying32 rfl hi) rfl ⟨by rw [H.out], ?_⟩
      exact below_setRow (((Below.refl _ w).alloc (Nat.le_refl _) _).alloc (by simp) _) (by omega) _

set_option maxHeartbeats 1600000 in
theorem iLet_yes (l : List UInt8) (hl : l.length ≤ 1048576) (hv : vld l = true) (w : World) :
    Calls Try.prog 28 #[.string (bs l)] w fun e w' => e = .returned (.tuple #[.agg (mk .i64 (sumTo l l.length)), .int .i64 0]) ∧ Below w.heap.size w w' := by
  have hi0 := sumTo_zero l
  have hL := (vld_iff.1 hv).1
  have h40 := (vld_iff.1 hv).2
  go_enter Try.func28, Try.ntmps28
  go_wp2_with (first
    | ((go_at_call 16); refine (iValid_any l hl _).mono ?_; rintro e w1 ⟨rfl, rfl⟩))
  go_loopw [14] (fun i wr => ∃ k : Nat, k ≤ l.length ∧ i = .int .i64 k ∧ wr = ((w.alloc (.cells (mk .i64 (sumTo l 0)) 32)).alloc (.cells (mk .i64 (sumTo l k)) 32))) (fun i _ => l.length - (intOf i).toNat)
  case atStart => exact ⟨0, by omega, rfl, rfl⟩
  case round =>
    obtain ⟨k, hk, rfl, rfl⟩ := hrel
    have i0 : (0 : Int) ≤ k := by omega
    clear hv
    by_cases g1 : k < l.length
    · skip
      have i1 : (k : Int) < l.length := by omega
      have hlim := sumTo_lim l k hk
      have hlen := sumTo_len l k
      have hsucc := sumTo_succ l k g1
      unfold addAt at hsucc
      obtain ⟨zs, hzs⟩ : ∃ zs, zs = sumTo l k := ⟨_, rfl⟩
      rw [← hzs] at hlim hlen hsucc ⊢
      clear hzs
      have hc := lno_cases (vld_at hL g1)
      clear hL
      rcases hc with ⟨h, h'⟩ | ⟨h, h'⟩ | ⟨h, h'⟩ | ⟨h, h'⟩ | ⟨h, h'⟩ | ⟨h, h'⟩ | ⟨h, h'⟩ | ⟨h, h'⟩
      all_goals
        rw [h'] at hsucc
        have E := Lib.hid hsucc
        have H := Lib.hid h
        have e0 := mk_get .i64 zs 0 (by omega)
        have e1 := mk_get .i64 zs 1 (by omega)
        have e2 := mk_get .i64 zs 2 (by omega)
        have e3 := mk_get .i64 zs 3 (by omega)
        have l0 := hlim 0
        have l1 := hlim 1
        have l2 := hlim 2
        have l3 := hlim 3
        clear hsucc h h' hlim
        go_wp2_with (go_at_call 53; refine (place_any (atb l k) _).mono ?_; rintro e w1 ⟨rfl, rfl⟩; rw [H.out])
        go_roundw
        case rel => exact ⟨k + 1, by omega, by go_num, by rw [E.out, ← mk_set]; rfl⟩
        case measure => simp [intOf]; omega
    · obtain rfl : k = l.length := by omega
      have hlen := sumTo_len l l.length
      have hz := hi0
      obtain ⟨rs, hrs⟩ : ∃ rs, rs = sumTo l l.length := ⟨_, rfl⟩
      rw [← hrs] at hlen ⊢
      have H := Lib.hid hrs
      clear hrs hL
      have hi := info_A4 rs hlen
      have hsz : (mk .i64 (sumTo l 0)).size = (mk .i64 rs).size := by rw [mk_size, mk_size, hlen]; rfl
      go_wp2_with (first
        | (refine wpList_load_row rfl 32 (.tmp 4) rfl (w.heap.size + 1) rfl 32 (mk .i64 rs) (0, 0) _ (two_second _ _ _) Try.underlying32 rfl hi ?_)
        | (refine wpList_store_row rfl 32 (.tmp 2) (.tmp 32) rfl w.heap.size (mk .i64 rs) rfl rfl 32 (mk .i64 (sumTo l 0)) (two_first _ _ _) hi hsz (mk_one _ _) ?_))
      refine bodyPost_ret (results_row_tmp rfl _ _ w.heap.size 32 (mk .i64 rs) (0, 0) _ rfl (setRow_heap _ _ (mk .i64 (sumTo l 0)) _ _ _ (two_first _ _ _)) Try.underlying32 rfl hi) rfl ⟨by rw [H.out]; rfl, ?_⟩
      exact below_setRow (((Below.refl _ w).alloc (Nat.le_refl _) _).alloc (by simp) _) (by omega) _

set_option maxHeartbeats 400000 in
theorem sLet_no (l : List UInt8) (hl : l.length ≤ 1048576) (hv : vld l = false) (w : World) :
    Calls Try.prog 27 #[.string (bs l)] w fun e w' => e = .returned (.tuple #[.agg (mk .i64 [0, 0, 0, 0]), .int .i64 1]) ∧ Below w.heap.size w w' := by
  have hi := info_A4 [0, 0, 0, 0] rfl
  go_enter Try.func27, Try.ntmps27
  go_wp2_with (first
    | ((go_at_call 41); refine (ok_any l hl _).mono ?_; rintro e w1 ⟨rfl, rfl⟩)
    | (refine wpList_build rfl 32 #[] rfl bzsA4 ?_)
    | (refine wpList_store_row rfl 32 (.tmp 2) (.tmp 7) rfl w.heap.size (mk .i64 [0, 0, 0, 0]) rfl (congrArg Value.agg bzA4) 32 (mk .i64 [0, 0, 0, 0]) (one_first _ _) hi rfl (mk_one _ _) ?_))
  refine bodyPost_ret (results_row_tmp rfl _ _ w.heap.size 32 (mk .i64 [0, 0, 0, 0]) (0, 0) _ rfl (setRow_heap _ _ (mk .i64 [0, 0, 0, 0]) _ _ _ (one_first _ _)) Try.underlying32 rfl hi) rfl ⟨rfl, ?_⟩
  exact below_setRow ((Below.refl _ w).alloc (Nat.le_refl _) _) (by omega) _

set_option maxHeartbeats 400000 in
theorem iLet_no (l : List UInt8) (hl : l.length ≤ 1048576) (hv : vld l = false) (w : World) :
    Calls Try.prog 28 #[.string (bs l)] w fun e w' => e = .returned (.tuple #[.agg (mk .i64 [0, 0, 0, 0]), .int .i64 1]) ∧ Below w.heap.size w w' := by
  have hi := info_A4 [0, 0, 0, 0] rfl
  go_enter Try.func28, Try.ntmps28
  go_wp2_with (first
    | ((go_at_call 16); refine (iValid_any l hl _).mono ?_; rintro e w1 ⟨rfl, rfl⟩)
    | (refine wpList_build rfl 32 #[] rfl bzsA4 ?_)
    | (refine wpList_store_row rfl 32 (.tmp 2) (.tmp 10) rfl w.heap.size (mk .i64 [0, 0, 0, 0]) rfl (congrArg Value.agg bzA4) 32 (mk .i64 [0, 0, 0, 0]) (one_first _ _) hi rfl (mk_one _ _) ?_))
  refine bodyPost_ret (results_row_tmp rfl _ _ w.heap.size 32 (mk .i64 [0, 0, 0, 0]) (0, 0) _ rfl (setRow_heap _ _ (mk .i64 [0, 0, 0, 0]) _ _ _ (one_first _ _)) Try.underlying32 rfl hi) rfl ⟨rfl, ?_⟩
  exact below_setRow ((Below.refl _ w).alloc (Nat.le_refl _) _) (by omega) _

set_option maxHeartbeats 400000 in
theorem sLet_yes (l : List UInt8) (hl : l.length ≤ 1048576) (hv : vld l = true) (w : World) :
    Calls Try.prog 27 #[.string (bs l)] w fun e w' => e = .returned (.tuple #[.agg (mk .i64 (sumTo l l.length)), .int .i64 0]) ∧ Below w.heap.size w w' := by
  have S0 := St.one w (.cells (mk .i64 [0, 0, 0, 0]) 32)
  have hlen := sumTo_len l l.length
  have HR := fun w => sSums_any l (vld_iff.1 hv).2 (vld_iff.1 hv).1 w
  obtain ⟨rs, hrs⟩ : ∃ rs, rs = sumTo l l.length := ⟨_, rfl⟩
  rw [← hrs] at hlen HR ⊢
  clear hrs
  have H := Lib.hid HR
  clear HR
  have hi := info_A4 rs hlen
  have hsz : (mk .i64 [0, 0, 0, 0]).size = (mk .i64 rs).size := by rw [mk_size, mk_size, hlen]; rfl
  go_enter Try.func27, Try.ntmps27
  go_wp2_with (first
    | ((go_at_call 41); refine (ok_any l hl _).mono ?_; rintro e w1 ⟨rfl, rfl⟩)
    | ((go_at_call 52); refine (H.out _).mono ?_; rintro e w1 ⟨rfl, hb1⟩; have hS := St.call hb1 S0; clear hb1)
    | (refine wpList_store_row rfl 32 (.tmp 2) (.tmp 9) rfl w.heap.size (mk .i64 rs) rfl rfl 32 (mk .i64 [0, 0, 0, 0]) (St.get hS 0 rfl) hi hsz (mk_one _ _) ?_))
  refine bodyPost_ret (results_row_tmp rfl _ _ w.heap.size 32 (mk .i64 rs) (0, 0) _ rfl (setRow_heap _ _ (mk .i64 [0, 0, 0, 0]) _ _ _ (St.get hS 0 rfl)) Try.underlying32 rfl hi) rfl ⟨rfl, ?_⟩
  exact below_setRow (St.below hS) (by omega) _

set_option maxHeartbeats 400000 in
theorem eqA4_any (zs : List Int) (hz : zs.length = 4) (w : World) :
    Calls Try.prog 29 #[.agg (mk .i64 zs), .agg (mk .i64 zs)] w fun e w' => e = .returned (.bool true) ∧ Below w.heap.size w w' := by
  go_enter Try.func29, Try.ntmps29
  go_wp2
  go_loopw [5] (fun i wr => ∃ k : Nat, k ≤ 4 ∧ i = .int .i64 k ∧ ∃ n, wr = ((w.alloc (.cells (mk .i64 zs) 32)).alloc (.cells (mk .i64 zs) 32)).drewN n) (fun i _ => 4 - (intOf i).toNat)
  case atStart => exact ⟨0, by omega, rfl, 0, rfl⟩
  case round =>
    obtain ⟨k, hk, rfl, n, rfl⟩ := hrel
    by_cases hlt : k < 4
    · have g1 := mk_get .i64 zs k (by omega)
      have i1 : (0 : Int) ≤ (k : Int) := by omega
      have i2 : (k : Int) < 4 := by omega
      go_wp2
      go_quiet (fail)
      go_wp2
      go_roundw
      case rel => exact ⟨k + 1, by omega, by go_num, n + nq, rfl⟩
      case measure => simp [intOf]; omega
    · obtain rfl : k = 4 := by omega
      go_wp2
      go_ret
      exact ⟨rfl, below_drewN (((Below.refl _ w).alloc (Nat.le_refl _) _).alloc (by simp) _) _⟩

set_option maxHeartbeats 400000 in
theorem letLaw (l : List UInt8) (hl : l.length ≤ 1048576) (rs : List Int) (c : Int) (hr : rs.length = 4)
    (hs : ∀ w, Calls Try.prog 27 #[.string (bs l)] w fun e w' => e = .returned (.tuple #[.agg (mk .i64 rs), .int .i64 c]) ∧ Below w.heap.size w w')
    (hm : ∀ w, Calls Try.prog 28 #[.string (bs l)] w fun e w' => e = .returned (.tuple #[.agg (mk .i64 rs), .int .i64 c]) ∧ Below w.heap.size w w') (w : World) :
    Calls Try.prog 9 #[.string (bs l)] w fun e w' => e = .returned (.bool true) ∧ Below w.heap.size w w' := by
  have S0 := St.zero w
  have hn : ¬ (1048576 : Int) < l.length := by omega
  have hj := info_A4 rs hr
  have hk : (mk .i64 [0, 0, 0, 0]).size = (mk .i64 rs).size := by rw [mk_size, mk_size, hr]; rfl
  have KS := Lib.hid hs
  have KI := Lib.hid hm
  clear hs hm
  go_enter Try.func9, Try.ntmps9
  go_upto_region 5 with (first
      | (go_at_call 27; refine (KS.out _).mono ?_; rintro e w1 ⟨rfl, hb⟩; have hS := St.call hb (by assumption); clear hb)
      | (go_at_call 28; refine (KI.out _).mono ?_; rintro e w1 ⟨rfl, hb⟩; have hS := St.call hb (by assumption); clear hb)
      | (refine wpList_store_row rfl 32 (.tmp 3) (.tmp 13) rfl _ (mk .i64 rs) rfl rfl 32 (mk .i64 [0, 0, 0, 0]) (one_first _ _) hj hk (mk_one _ _) ?_; have hS := St.fresh (by assumption) (mk .i64 [0, 0, 0, 0]) (mk .i64 rs) 32)
      | (refine wpList_store_row rfl 32 (.tmp 5) (.tmp 18) rfl _ (mk .i64 rs) rfl rfl 32 (mk .i64 [0, 0, 0, 0]) (one_first _ _) hj hk (mk_one _ _) ?_; have hS := St.fresh (by assumption) (mk .i64 [0, 0, 0, 0]) (mk .i64 rs) 32))
  go_wp2_with (first
      | (go_at_call 29; refine (eqA4_any rs hr _).mono ?_; rintro e w1 ⟨rfl, hb⟩; have hS := St.call hb (by assumption); clear hb)
      | (refine wpList_load_row rfl 32 (.tmp 5) rfl _ rfl 32 (mk .i64 rs) (0, 0) _ (St.get hS 1 rfl) Try.underlying32 rfl hj ?_)
      | (refine wpList_load_row rfl 32 (.tmp 3) rfl _ rfl 32 (mk .i64 rs) (0, 0) _ (St.get hS 0 rfl) Try.underlying32 rfl hj ?_))
  go_ret
  exact ⟨rfl, St.below (by assumption)⟩

set_option maxHeartbeats 400000 in
theorem letBig (l : List UInt8) (hl : 1048576 < l.length) (w : World) :
    Calls Try.prog 9 #[.string (bs l)] w fun e w' => e = .returned (.bool true) ∧ Below w.heap.size w w' := by
  have hb : (1048576 : Int) < l.length := by omega
  go_enter Try.func9, Try.ntmps9
  go_wp2
  go_ret
  exact ⟨rfl, Below.refl _ _⟩

theorem letWalk (s : ByteArray) (w : World) (_ : s.size ≤ maxLen) : Calls Try.prog 9 #[.string s] w fun e w' => e = .returned (.bool true) ∧ Below w.heap.size w w' := by
  obtain ⟨l, rfl⟩ := bs_of s
  by_cases hl : l.length ≤ 1048576
  · cases hv : vld l
    · exact letLaw l hl _ _ rfl (fun w => sLet_no l hl hv w) (fun w => iLet_no l hl hv w) w
    · exact letLaw l hl _ _ (sumTo_len l _) (fun w => sLet_yes l hl hv w) (fun w => iLet_yes l hl hv w) w
  · exact letBig l (by omega) w

end Go.Proofs.Ytalbagjgkcgblaa
