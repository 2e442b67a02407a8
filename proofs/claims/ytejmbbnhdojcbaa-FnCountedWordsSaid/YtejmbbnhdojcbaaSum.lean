/- LetterSums: the walks of both sides and of the law. Conditions: none. -/
import Derived.Test.YtejmbbnhdojcbaaRow
import Derived.Test.YtejmbbnhdojcbaaCmp
import Derived.Deep.Cut
import Derived.Deep.DeepCutAuto
namespace Go.Proofs.Ytejmbbnhdojcbaa
open Go.RowKit
set_option linter.unusedVariables false

/-- One letter counted. -/
def addAt (zs : List Int) (c : UInt8) : List Int := zs.set (lnoN c / 2) (nth zs (lnoN c / 2) + (1 - 2 * ((lnoN c % 2 : Nat) : Int)))
/-- The sums of the first k letters. -/
def sumTo (l : List UInt8) (k : Nat) : List Int := (l.take k).foldl addAt [0, 0, 0, 0]
theorem addAt_len (zs : List Int) (c : UInt8) : (addAt zs c).length = zs.length := by simp [addAt]
theorem sumTo_succ (l : List UInt8) (k : Nat) (h : k < l.length) : sumTo l (k + 1) = addAt (sumTo l k) (atb l k) := by
  unfold sumTo; rw [take_atb h]; simp
theorem sumTo_len (l : List UInt8) (k : Nat) : (sumTo l k).length = 4 := by
  unfold sumTo
  generalize l.take k = m
  have key : ∀ (m : List UInt8) (zs : List Int), (m.foldl addAt zs).length = zs.length := by
    intro m
    induction m with
    | nil => intro zs; rfl
    | cons c m ih => intro zs; rw [List.foldl_cons, ih, addAt_len]
  rw [key]; rfl
theorem sumTo_lim (l : List UInt8) : ∀ (k : Nat), k ≤ l.length → ∀ j, -(k : Int) ≤ nth (sumTo l k) j ∧ nth (sumTo l k) j ≤ k
  | 0, _, j => by
    have : sumTo l 0 = [0, 0, 0, 0] := rfl
    rw [this]
    have : nth [0, 0, 0, 0] j = 0 := by
      unfold nth
      match j with
      | 0 => rfl
      | 1 => rfl
      | 2 => rfl
      | 3 => rfl
      | j + 4 => rfl
    omega
  | k + 1, hk, j => by
    have ih := sumTo_lim l k (by omega)
    rw [sumTo_succ l k (by omega)]
    unfold addAt
    by_cases hb : lnoN (atb l k) / 2 < (sumTo l k).length
    · rw [nth_set _ _ _ _ hb]
      have h1 := ih j
      have h2 := ih (lnoN (atb l k) / 2)
      have h3 : lnoN (atb l k) % 2 < 2 := Nat.mod_lt _ (by omega)
      split <;> omega
    · rw [List.set_eq_of_length_le (by omega)]
      have h1 := ih j
      omega
theorem lno_cases {c : UInt8} (h : Wd.isL c = true) : (lno c = 0 ∧ lnoN c = 0) ∨ (lno c = 1 ∧ lnoN c = 1) ∨ (lno c = 2 ∧ lnoN c = 2) ∨ (lno c = 3 ∧ lnoN c = 3) ∨ (lno c = 4 ∧ lnoN c = 4) ∨ (lno c = 5 ∧ lnoN c = 5) ∨ (lno c = 6 ∧ lnoN c = 6) ∨ (lno c = 7 ∧ lnoN c = 7) := by
  obtain ⟨a1, _, _, _⟩ := letter_at c h
  unfold lno; rw [if_pos a1]; omega
theorem info_A4 (zs : List Int) (hz : zs.length = 4) : (Try.prog.info? 54).map (·.size) = some (mk .i64 zs).size := by
  rw [mk_size, hz]; kernel_rfl

theorem bzA4 : (Try.prog.built 54 []).getD #[] = mk .i64 [0, 0, 0, 0] := by kernel_rfl
theorem bzsA4 : (Try.prog.built 54 []).isSome = true := by kernel_rfl
theorem sumTo_zero (l : List UInt8) : sumTo l 0 = [0, 0, 0, 0] := rfl


set_option maxHeartbeats 1600000 in
theorem iLet_yes (l : List UInt8) (hl : l.length ≤ 1048576) (hv : vld l = true) (w : World) :
    Calls Try.prog 31 #[.string (bs l)] w fun e w' => e = .returned (.tuple #[.agg (mk .i64 (sumTo l l.length)), .int .i64 0]) ∧ Below w.heap.size w w' := by
  have hi0 := sumTo_zero l
  have hL := (vld_iff.1 hv).1
  have h40 := (vld_iff.1 hv).2
  go_enter Try.func31, Try.ntmps31
  go_wp2_with (first
    | ((go_at_call 35); refine (iValid_any l hl _).mono ?_; rintro e w1 ⟨rfl, rfl⟩))
  go_loopw [14] (fun i wr => ∃ k : Nat, k ≤ l.length ∧ i = .int .i64 k ∧ wr = ((w.alloc (.cells (mk .i64 (sumTo l 0)) 54)).alloc (.cells (mk .i64 (sumTo l k)) 54))) (fun i _ => l.length - (intOf i).toNat)
  case atStart => exact ⟨0, by omega, rfl, rfl⟩
  case round =>
    obtain ⟨k, hk, rfl, rfl⟩ := hrel
    have i0 : (0 : Int) ≤ k := by omega
    clear hv
    by_cases g1 : k < l.length
    · skip
      have i1 : (k : Int) < l.length := by omega
      have hlim := sumTo_lim l k hk
      have hlen := sumTo_len l k
      have hsucc := sumTo_succ l k g1
      unfold addAt at hsucc
      obtain ⟨zs, hzs⟩ : ∃ zs, zs = sumTo l k := ⟨_, rfl⟩
      rw [← hzs] at hlim hlen hsucc ⊢
      clear hzs
      have hc := lno_cases (vld_at hL g1)
      clear hL
      rcases hc with ⟨h, h'⟩ | ⟨h, h'⟩ | ⟨h, h'⟩ | ⟨h, h'⟩ | ⟨h, h'⟩ | ⟨h, h'⟩ | ⟨h, h'⟩ | ⟨h, h'⟩
      all_goals
        rw [h'] at hsucc
        have E := Lib.hid hsucc
        have H := Lib.hid h
        have e0 := mk_get .i64 zs 0 (by omega)
        have e1 := mk_get .i64 zs 1 (by omega)
        have e2 := mk_get .i64 zs 2 (by omega)
        have e3 := mk_get .i64 zs 3 (by omega)
        have l0 := hlim 0
        have l1 := hlim 1
        have l2 := hlim 2
        have l3 := hlim 3
        clear hsucc h h' hlim
        go_wp2_with (go_at_call 45; refine (place_any (atb l k) _).mono ?_; rintro e w1 ⟨rfl, rfl⟩; rw [H.out])
        go_roundw
        case rel => exact ⟨k + 1, by omega, by go_num, by rw [E.out, ← mk_set]; rfl⟩
        case measure => simp [intOf]; omega
    · obtain rfl : k = l.length := by omega
      have hlen := sumTo_len l l.length
      have hz := hi0
      obtain ⟨rs, hrs⟩ : ∃ rs, rs = sumTo l l.length := ⟨_, rfl⟩
      rw [← hrs] at hlen ⊢
      have H := Lib.hid hrs
      clear hrs hL
      have hi := info_A4 rs hlen
      have hsz : (mk .i64 (sumTo l 0)).size = (mk .i64 rs).size := by rw [mk_size, mk_size, hlen]; rfl
      go_wp2_with (first
        | (refine wpList_load_row rfl 54 (.tmp 4) rfl (w.heap.size + 1) rfl 54 (mk .i64 rs) (0, 0) _ (two_second _ _ _) Try.underlying54 rfl hi ?_)
        | (refine wpList_store_row rfl 54 (.tmp 2) (.tmp 32) rfl w.heap.size (mk .i64 rs) rfl rfl 54 (mk .i64 (sumTo l 0)) (two_first _ _ _) hi hsz (mk_one _ _) ?_))
      refine bodyPost_ret (results_row_tmp rfl _ _ w.heap.size 54 (mk .i64 rs) (0, 0) _ rfl (setRow_heap _ _ (mk .i64 (sumTo l 0)) _ _ _ (two_first _ _ _)) Try.underlying54 rfl hi) rfl ⟨by rw [H.out]; rfl, ?_⟩
      exact below_setRow (((Below.refl _ w).alloc (Nat.le_refl _) _).alloc (by simp) _) (by omega) _








end Go.Proofs.Ytejmbbnhdojcbaa
