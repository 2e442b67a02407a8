/- CodeOfWord: the walks of both sides and of the law. Conditions: none. -/
import Derived.Test.YtalbagjgkcgblaaRow
import Derived.Test.YtalbagjgkcgblaaCmp
import Derived.Deep.Cut
import Derived.Deep.DeepCutAuto
import Derived.Deep.RegionWith
import Derived.BigRegion
import Derived.RegionTactic
namespace Go.Proofs.Ytalbagjgkcgblaa
open Go.RowKit
set_option linter.unusedVariables false

/-- Is a bit of a letter's number set? -/
def bitOn (c : UInt8) (s : Nat) : Bool := bits BinOp.and IntKind.i64 (lno c / 2 ^ s) 1 == 1
/-- A byte with one bit more. -/
def orAt (z : Int) (r : Nat) : Int := bits BinOp.or IntKind.u8 z (2 ^ (7 - r) % 256)
/-- The code after n bits. -/
def codeTo (l : List UInt8) : Nat → List Int
  | 0 => [(l.length : Int), 0, 0, 0, 0, 0, 0, 0, 0, 0, 0, 0, 0, 0, 0, 0]
  | n + 1 => if bitOn (atb l (n / 3)) (2 - n % 3) then (codeTo l n).set (1 + n / 8) (orAt (nth (codeTo l n) (1 + n / 8)) (n % 8)) else codeTo l n
theorem codeTo_len (l : List UInt8) : ∀ n, (codeTo l n).length = 16
  | 0 => rfl
  | n + 1 => by unfold codeTo; split; simp [codeTo_len l n]; exact codeTo_len l n
def z16 : List Int := [0, 0, 0, 0, 0, 0, 0, 0, 0, 0, 0, 0, 0, 0, 0, 0]
theorem info_WC (zs : List Int) (hz : zs.length = 16) : (Try.prog.info? 37).map (·.size) = some (mk .u8 zs).size := by
  rw [mk_size, hz]; kernel_rfl
theorem bzWC : (Try.prog.built 37 []).getD #[] = mk .u8 z16 := by kernel_rfl
theorem bzsWC : (Try.prog.built 37 []).isSome = true := by kernel_rfl

theorem setd (w : World) (c : Array Value) (t : TypeId) (o1 : Obj) (n k : Nat) (v : Value) :
    (((w.alloc o1).alloc (.cells c t)).drewN n).setCell ⟨w.heap.size + 1, k, none⟩ v = ((w.alloc o1).alloc (.cells (c.setIfInBounds k v) t)).drewN n := by
  show (((w.alloc o1).alloc (.cells c t)).setCell ⟨w.heap.size + 1, k, none⟩ v).drewN n = _
  rw [World.setCell_alloc_at _ _ _ _ _ (by simp)]
set_option maxRecDepth 20000 in
set_option maxHeartbeats 3200000 in
theorem sCode_yes (l : List UInt8) (hl : l.length ≤ 1048576) (hv : vld l = true) (w : World) :
    Calls Try.prog 30 #[.string (bs l)] w fun e w' => e = .returned (.tuple #[.agg (mk .u8 (codeTo l (3 * l.length))), .int .i64 0]) ∧ Below w.heap.size w w' := by
  have hL := (vld_iff.1 hv).1
  have h40 := (vld_iff.1 hv).2
  have i40 : (l.length : Int) ≤ 40 := by omega
  go_enter Try.func30, Try.ntmps30
  go_wp2_with (first
    | ((go_at_call 41); refine (ok_any l hl _).mono ?_; rintro e w1 ⟨rfl, rfl⟩))
  go_loopw [5] (fun i wr => ∃ k : Nat, k ≤ l.length ∧ i = .int .i64 k ∧ wr = ((w.alloc (.cells (mk .u8 z16) 37)).alloc (.cells (mk .u8 (codeTo l (3 * k))) 37))) (fun i _ => l.length - (intOf i).toNat)
  case atStart => exact ⟨0, by omega, rfl, rfl⟩
  case round =>
    obtain ⟨k, hk, rfl, rfl⟩ := hrel
    have i0 : (0 : Int) ≤ k := by omega
    clear hv hL
    by_cases g1 : k < l.length
    · have i1 : (k : Int) < l.length := by omega
      go_wp2
      go_loopw [6] (fun i wr => ∃ b : Nat, b ≤ 3 ∧ i = .int .i64 b ∧ wr = ((w.alloc (.cells (mk .u8 z16) 37)).alloc (.cells (mk .u8 (codeTo l (3 * k + b))) 37))) (fun i _ => 3 - (intOf i).toNat)
      case atStart => exact ⟨0, by omega, rfl, rfl⟩
      case round =>
        obtain ⟨b, hb, rfl, rfl⟩ := hrel
        obtain ⟨n, hn⟩ : ∃ n, n = 3 * k + b := ⟨_, rfl⟩
        have hlen := codeTo_len l n
        have hsucc : codeTo l (n + 1) = if bitOn (atb l (n / 3)) (2 - n % 3) then (codeTo l n).set (1 + n / 8) (orAt (nth (codeTo l n) (1 + n / 8)) (n % 8)) else codeTo l n := rfl
        obtain ⟨zs, hzs⟩ : ∃ zs, zs = codeTo l n := ⟨_, rfl⟩
        rw [← hn, ← hzs]
        rw [← hzs] at hsucc hlen
        have HN := Lib.hid hn
        have HZ := Lib.hid hzs
        rcases (show b = 0 ∨ b = 1 ∨ b = 2 ∨ b = 3 by omega) with rfl | rfl | rfl | rfl
        · rw [show n / 3 = k by omega, show 2 - n % 3 = 2 by omega] at hsucc
          have en : 3 * (k : Int) = (n : Int) := by omega
          obtain ⟨j, hj⟩ : ∃ j, j = 1 + n / 8 := ⟨_, rfl⟩
          obtain ⟨r, hr⟩ : ∃ r, r = n % 8 := ⟨_, rfl⟩
          have r8 : r < 8 := by omega
          rw [← hj, ← hr] at hsucc
          have hcell := mk_get .u8 zs j (by omega)
          have ej : 1 + (n : Int) / 8 = (j : Int) := by omega
          have er : (n : Int) % 8 = (r : Int) := by omega
          have j16 : (j : Int) < 16 := by omega
          have n0 : (0 : Int) ≤ n := by omega
          have n1 : (n : Int) < 120 := by omega
          clear hn hzs hj hr
          by_cases hbit : bitOn (atb l k) 2 = true
          · have hsu : codeTo l (n + 1) = zs.set j (orAt (nth zs j) r) := by rw [hsucc]; simp [hbit]
            have hb1 : (bits BinOp.and IntKind.i64 (lno (atb l k) / 4) 1 == 1) = true := by
              have h := hbit
              unfold bitOn at h
              simpa using h
            have E := Lib.hid hsu
            clear hsucc hsu hbit
            go_wp2_with ((go_at_call 54); refine (letter_any (atb l k) _).mono ?_; rintro e w1 ⟨rfl, rfl⟩)
            go_roundw
            case rel => exact ⟨1, by omega, rfl, by rw [show 3 * k + 1 = n + 1 by (have := HN.out; omega), E.out, ← mk_set]; rfl⟩
            case measure => simp [intOf] <;> omega
          · have hsu : codeTo l (n + 1) = zs := by rw [hsucc]; simp [hbit]
            have hb1 : (bits BinOp.and IntKind.i64 (lno (atb l k) / 4) 1 == 1) = false := by
              have h := eq_false_of_ne_true hbit
              unfold bitOn at h
              simpa using h
            have E := Lib.hid hsu
            clear hsucc hsu hbit
            go_wp2_with ((go_at_call 54); refine (letter_any (atb l k) _).mono ?_; rintro e w1 ⟨rfl, rfl⟩)
            go_roundw
            case rel => exact ⟨1, by omega, rfl, by rw [show 3 * k + 1 = n + 1 by (have := HN.out; omega), E.out]⟩
            case measure => simp [intOf] <;> omega
        · rw [show n / 3 = k by omega, show 2 - n % 3 = 1 by omega] at hsucc
          have en : 3 * (k : Int) + 1 = (n : Int) := by omega
          obtain ⟨j, hj⟩ : ∃ j, j = 1 + n / 8 := ⟨_, rfl⟩
          obtain ⟨r, hr⟩ : ∃ r, r = n % 8 := ⟨_, rfl⟩
          have r8 : r < 8 := by omega
          rw [← hj, ← hr] at hsucc
          have hcell := mk_get .u8 zs j (by omega)
          have ej : 1 + (n : Int) / 8 = (j : Int) := by omega
          have er : (n : Int) % 8 = (r : Int) := by omega
          have j16 : (j : Int) < 16 := by omega
          have n0 : (0 : Int) ≤ n := by omega
          have n1 : (n : Int) < 120 := by omega
          clear hn hzs hj hr
          by_cases hbit : bitOn (atb l k) 1 = true
          · have hsu : codeTo l (n + 1) = zs.set j (orAt (nth zs j) r) := by rw [hsucc]; simp [hbit]
            have hb1 : (bits BinOp.and IntKind.i64 (lno (atb l k) / 2) 1 == 1) = true := by
              have h := hbit
              unfold bitOn at h
              simpa using h
            have E := Lib.hid hsu
            clear hsucc hsu hbit
            go_wp2_with ((go_at_call 54); refine (letter_any (atb l k) _).mono ?_; rintro e w1 ⟨rfl, rfl⟩)
            go_roundw
            case rel => exact ⟨2, by omega, rfl, by rw [show 3 * k + 2 = n + 1 by (have := HN.out; omega), E.out, ← mk_set]; rfl⟩
            case measure => simp [intOf] <;> omega
          · have hsu : codeTo l (n + 1) = zs := by rw [hsucc]; simp [hbit]
            have hb1 : (bits BinOp.and IntKind.i64 (lno (atb l k) / 2) 1 == 1) = false := by
              have h := eq_false_of_ne_true hbit
              unfold bitOn at h
              simpa using h
            have E := Lib.hid hsu
            clear hsucc hsu hbit
            go_wp2_with ((go_at_call 54); refine (letter_any (atb l k) _).mono ?_; rintro e w1 ⟨rfl, rfl⟩)
            go_roundw
            case rel => exact ⟨2, by omega, rfl, by rw [show 3 * k + 2 = n + 1 by (have := HN.out; omega), E.out]⟩
            case measure => simp [intOf] <;> omega
        · rw [show n / 3 = k by omega, show 2 - n % 3 = 0 by omega] at hsucc
          have en : 3 * (k : Int) + 2 = (n : Int) := by omega
          obtain ⟨j, hj⟩ : ∃ j, j = 1 + n / 8 := ⟨_, rfl⟩
          obtain ⟨r, hr⟩ : ∃ r, r = n % 8 := ⟨_, rfl⟩
          have r8 : r < 8 := by omega
          rw [← hj, ← hr] at hsucc
          have hcell := mk_get .u8 zs j (by omega)
          have ej : 1 + (n : Int) / 8 = (j : Int) := by omega
          have er : (n : Int) % 8 = (r : Int) := by omega
          have j16 : (j : Int) < 16 := by omega
          have n0 : (0 : Int) ≤ n := by omega
          have n1 : (n : Int) < 120 := by omega
          clear hn hzs hj hr
          by_cases hbit : bitOn (atb l k) 0 = true
          · have hsu : codeTo l (n + 1) = zs.set j (orAt (nth zs j) r) := by rw [hsucc]; simp [hbit]
            have hb1 : (bits BinOp.and IntKind.i64 (lno (atb l k)) 1 == 1) = true := by
              have h := hbit
              unfold bitOn at h
              simpa using h
            have E := Lib.hid hsu
            clear hsucc hsu hbit
            go_wp2_with ((go_at_call 54); refine (letter_any (atb l k) _).mono ?_; rintro e w1 ⟨rfl, rfl⟩)
            go_roundw
            case rel => exact ⟨3, by omega, rfl, by rw [show 3 * k + 3 = n + 1 by (have := HN.out; omega), E.out, ← mk_set]; rfl⟩
            case measure => simp [intOf] <;> omega
          · have hsu : codeTo l (n + 1) = zs := by rw [hsucc]; simp [hbit]
            have hb1 : (bits BinOp.and IntKind.i64 (lno (atb l k)) 1 == 1) = false := by
              have h := eq_false_of_ne_true hbit
              unfold bitOn at h
              simpa using h
            have E := Lib.hid hsu
            clear hsucc hsu hbit
            go_wp2_with ((go_at_call 54); refine (letter_any (atb l k) _).mono ?_; rintro e w1 ⟨rfl, rfl⟩)
            go_roundw
            case rel => exact ⟨3, by omega, rfl, by rw [show 3 * k + 3 = n + 1 by (have := HN.out; omega), E.out]⟩
            case measure => simp [intOf] <;> omega
        · rw [hzs, hn]
          clear hn hzs hsucc hlen HZ
          go_wp2
          go_roundw
          case rel => exact ⟨k + 1, by omega, by go_num, by rw [show 3 * (k + 1) = 3 * k + 3 by omega]⟩
          case measure => simp [intOf]; omega
    · obtain rfl : k = l.length := by omega
      have hlen := codeTo_len l (3 * l.length)
      obtain ⟨rs, hrs⟩ : ∃ rs, rs = codeTo l (3 * l.length) := ⟨_, rfl⟩
      rw [← hrs] at hlen ⊢
      have H := Lib.hid hrs
      clear hrs
      have hi := info_WC rs hlen
      have hsz : (mk .u8 z16).size = (mk .u8 rs).size := by rw [mk_size, mk_size, hlen]; rfl
      go_wp2_with (first
        | (refine wpList_load_row rfl 37 (.tmp 4) rfl (w.heap.size + 1) rfl 37 (mk .u8 rs) (0, 0) _ (two_second _ _ _) Try.underlying37 rfl hi ?_)
        | (refine wpList_store_row rfl 37 (.tmp 2) (.tmp 53) rfl w.heap.size (mk .u8 rs) rfl rfl 37 (mk .u8 z16) (two_first _ _ _) hi hsz (mk_one _ _) ?_))
      refine bodyPost_ret (results_row_tmp rfl _ _ w.heap.size 37 (mk .u8 rs) (0, 0) _ rfl (setRow_heap _ _ (mk .u8 z16) _ _ _ (two_first _ _ _)) Try.underlying37 rfl hi) rfl ⟨by rw [H.out]; rfl, ?_⟩
      exact below_setRow (((Below.refl _ w).alloc (Nat.le_refl _) _).alloc (by simp) _) (by omega) _

set_option maxRecDepth 20000 in
set_option maxHeartbeats 3200000 in
theorem iCode_yes (l : List UInt8) (hl : l.length ≤ 1048576) (hv : vld l = true) (w : World) :
    Calls Try.prog 31 #[.string (bs l)] w fun e w' => e = .returned (.tuple #[.agg (mk .u8 (codeTo l (3 * l.length))), .int .i64 0]) ∧ Below w.heap.size w w' := by
  have hL := (vld_iff.1 hv).1
  have h40 := (vld_iff.1 hv).2
  have i40 : (l.length : Int) ≤ 40 := by omega
  go_enter Try.func31, Try.ntmps31
  go_wp2_with (first
    | ((go_at_call 16); refine (iValid_any l hl _).mono ?_; rintro e w1 ⟨rfl, rfl⟩))
  go_loopw [18] (fun i wr => ∃ k : Nat, k ≤ l.length ∧ i = .int .i64 k ∧ ∃ nd, wr = ((w.alloc (.cells (mk .u8 z16) 37)).alloc (.cells (mk .u8 (codeTo l (3 * k))) 37)).drewN nd) (fun i _ => l.length - (intOf i).toNat)
  case atStart => exact ⟨0, by omega, rfl, 0, rfl⟩
  case round =>
    obtain ⟨k, hk, rfl, nd, rfl⟩ := hrel
    have i0 : (0 : Int) ≤ k := by omega
    clear hv hL
    by_cases g1 : k < l.length
    · have i1 : (k : Int) < l.length := by omega
      go_wp2
      go_loopw [21] (fun i wr => ∃ b : Nat, b ≤ 3 ∧ i = .int .i64 b ∧ ∃ nd, wr = ((w.alloc (.cells (mk .u8 z16) 37)).alloc (.cells (mk .u8 (codeTo l (3 * k + b))) 37)).drewN nd) (fun i _ => 3 - (intOf i).toNat)
      case atStart => exact ⟨0, by omega, rfl, nd, rfl⟩
      case round =>
        obtain ⟨b, hb, rfl, nd, rfl⟩ := hrel
        obtain ⟨n, hn⟩ : ∃ n, n = 3 * k + b := ⟨_, rfl⟩
        have hlen := codeTo_len l n
        have hsucc : codeTo l (n + 1) = if bitOn (atb l (n / 3)) (2 - n % 3) then (codeTo l n).set (1 + n / 8) (orAt (nth (codeTo l n) (1 + n / 8)) (n % 8)) else codeTo l n := rfl
        obtain ⟨zs, hzs⟩ : ∃ zs, zs = codeTo l n := ⟨_, rfl⟩
        rw [← hn, ← hzs]
        rw [← hzs] at hsucc hlen
        have HN := Lib.hid hn
        have HZ := Lib.hid hzs
        rcases (show b = 0 ∨ b = 1 ∨ b = 2 ∨ b = 3 by omega) with rfl | rfl | rfl | rfl
        · rw [show n / 3 = k by omega, show 2 - n % 3 = 2 by omega] at hsucc
          have en : 3 * (k : Int) = (n : Int) := by omega
          obtain ⟨j, hj⟩ : ∃ j, j = 1 + n / 8 := ⟨_, rfl⟩
          obtain ⟨r, hr⟩ : ∃ r, r = n % 8 := ⟨_, rfl⟩
          have r8 : r < 8 := by omega
          rw [← hj, ← hr] at hsucc
          have hcell := mk_get .u8 zs j (by omega)
          have ej : 1 + (n : Int) / 8 = (j : Int) := by omega
          have er : (n : Int) % 8 = (r : Int) := by omega
          have j16 : (j : Int) < 16 := by omega
          have n0 : (0 : Int) ≤ n := by omega
          have n1 : (n : Int) < 120 := by omega
          clear hn hzs hj hr
          by_cases hbit : bitOn (atb l k) 2 = true
          · have hsu : codeTo l (n + 1) = zs.set j (orAt (nth zs j) r) := by rw [hsucc]; simp [hbit]
            have hb1 : (bits BinOp.and IntKind.i64 (lno (atb l k) / 4) 1 == 1) = true := by
              have h := hbit
              unfold bitOn at h
              simpa using h
            have E := Lib.hid hsu
            clear hsucc hsu hbit
            go_wp2_with ((go_at_call 53); refine (place_any (atb l k) _).mono ?_; rintro e w1 ⟨rfl, rfl⟩)
            go_region
            go_wp2
            go_roundw
            case rel => exact ⟨1, by omega, rfl, nd + 1, by rw [show 3 * k + 1 = n + 1 by (have := HN.out; omega), E.out, ← mk_set]; exact setd _ _ _ _ _ _ _⟩
            case measure => simp [intOf] <;> omega
          · have hsu : codeTo l (n + 1) = zs := by rw [hsucc]; simp [hbit]
            have hb1 : (bits BinOp.and IntKind.i64 (lno (atb l k) / 4) 1 == 1) = false := by
              have h := eq_false_of_ne_true hbit
              unfold bitOn at h
              simpa using h
            have E := Lib.hid hsu
            clear hsucc hsu hbit
            go_wp2_with ((go_at_call 53); refine (place_any (atb l k) _).mono ?_; rintro e w1 ⟨rfl, rfl⟩)
            go_roundw
            case rel => exact ⟨1, by omega, rfl, nd, by rw [show 3 * k + 1 = n + 1 by (have := HN.out; omega), E.out]⟩
            case measure => simp [intOf] <;> omega
        · rw [show n / 3 = k by omega, show 2 - n % 3 = 1 by omega] at hsucc
          have en : 3 * (k : Int) + 1 = (n : Int) := by omega
          obtain ⟨j, hj⟩ : ∃ j, j = 1 + n / 8 := ⟨_, rfl⟩
          obtain ⟨r, hr⟩ : ∃ r, r = n % 8 := ⟨_, rfl⟩
          have r8 : r < 8 := by omega
          rw [← hj, ← hr] at hsucc
          have hcell := mk_get .u8 zs j (by omega)
          have ej : 1 + (n : Int) / 8 = (j : Int) := by omega
          have er : (n : Int) % 8 = (r : Int) := by omega
          have j16 : (j : Int) < 16 := by omega
          have n0 : (0 : Int) ≤ n := by omega
          have n1 : (n : Int) < 120 := by omega
          clear hn hzs hj hr
          by_cases hbit : bitOn (atb l k) 1 = true
          · have hsu : codeTo l (n + 1) = zs.set j (orAt (nth zs j) r) := by rw [hsucc]; simp [hbit]
            have hb1 : (bits BinOp.and IntKind.i64 (lno (atb l k) / 2) 1 == 1) = true := by
              have h := hbit
              unfold bitOn at h
              simpa using h
            have E := Lib.hid hsu
            clear hsucc hsu hbit
            go_wp2_with ((go_at_call 53); refine (place_any (atb l k) _).mono ?_; rintro e w1 ⟨rfl, rfl⟩)
            go_region
            go_wp2
            go_roundw
            case rel => exact ⟨2, by omega, rfl, nd + 1, by rw [show 3 * k + 2 = n + 1 by (have := HN.out; omega), E.out, ← mk_set]; exact setd _ _ _ _ _ _ _⟩
            case measure => simp [intOf] <;> omega
          · have hsu : codeTo l (n + 1) = zs := by rw [hsucc]; simp [hbit]
            have hb1 : (bits BinOp.and IntKind.i64 (lno (atb l k) / 2) 1 == 1) = false := by
              have h := eq_false_of_ne_true hbit
              unfold bitOn at h
              simpa using h
            have E := Lib.hid hsu
            clear hsucc hsu hbit
            go_wp2_with ((go_at_call 53); refine (place_any (atb l k) _).mono ?_; rintro e w1 ⟨rfl, rfl⟩)
            go_roundw
            case rel => exact ⟨2, by omega, rfl, nd, by rw [show 3 * k + 2 = n + 1 by (have := HN.out; omega), E.out]⟩
            case measure => simp [intOf] <;> omega
        · rw [show n / 3 = k by omega, show 2 - n % 3 = 0 by omega] at hsucc
          have en : 3 * (k : Int) + 2 = (n : Int) := by omega
          obtain ⟨j, hj⟩ : ∃ j, j = 1 + n / 8 := ⟨_, rfl⟩
          obtain ⟨r, hr⟩ : ∃ r, r = n % 8 := ⟨_, rfl⟩
          have r8 : r < 8 := by omega
          rw [← hj, ← hr] at hsucc
          have hcell := mk_get .u8 zs j (by omega)
          have ej : 1 + (n : Int) / 8 = (j : Int) := by omega
          have er : (n : Int) % 8 = (r : Int) := by omega
          have j16 : (j : Int) < 16 := by omega
          have n0 : (0 : Int) ≤ n := by omega
          have n1 : (n : Int) < 120 := by omega
          clear hn hzs hj hr
          by_cases hbit : bitOn (atb l k) 0 = true
          · have hsu : codeTo l (n + 1) = zs.set j (orAt (nth zs j) r) := by rw [hsucc]; simp [hbit]
            have hb1 : (bits BinOp.and IntKind.i64 (lno (atb l k)) 1 == 1) = true := by
              have h := hbit
              unfold bitOn at h
              simpa using h
            have E := Lib.hid hsu
            clear hsucc hsu hbit
            go_wp2_with ((go_at_call 53); refine (place_any (atb l k) _).mono ?_; rintro e w1 ⟨rfl, rfl⟩)
            go_region
            go_wp2
            go_roundw
            case rel => exact ⟨3, by omega, rfl, nd + 1, by rw [show 3 * k + 3 = n + 1 by (have := HN.out; omega), E.out, ← mk_set]; exact setd _ _ _ _ _ _ _⟩
            case measure => simp [intOf] <;> omega
          · have hsu : codeTo l (n + 1) = zs := by rw [hsucc]; simp [hbit]
            have hb1 : (bits BinOp.and IntKind.i64 (lno (atb l k)) 1 == 1) = false := by
              have h := eq_false_of_ne_true hbit
              unfold bitOn at h
              simpa using h
            have E := Lib.hid hsu
            clear hsucc hsu hbit
            go_wp2_with ((go_at_call 53); refine (place_any (atb l k) _).mono ?_; rintro e w1 ⟨rfl, rfl⟩)
            go_roundw
            case rel => exact ⟨3, by omega, rfl, nd, by rw [show 3 * k + 3 = n + 1 by (have := HN.out; omega), E.out]⟩
            case measure => simp [intOf] <;> omega
        · rw [hzs, hn]
          clear hn hzs hsucc hlen HZ
          go_wp2
          go_roundw
          case rel => exact ⟨k + 1, by omega, by go_num, nd, by rw [show 3 * (k + 1) = 3 * k + 3 by omega]⟩
          case measure => simp [intOf]; omega
    · obtain rfl : k = l.length := by omega
      have hlen := codeTo_len l (3 * l.length)
      obtain ⟨rs, hrs⟩ : ∃ rs, rs = codeTo l (3 * l.length) := ⟨_, rfl⟩
      rw [← hrs] at hlen ⊢
      have H := Lib.hid hrs
      clear hrs
      have hi := info_WC rs hlen
      have hsz : (mk .u8 z16).size = (mk .u8 rs).size := by rw [mk_size, mk_size, hlen]; rfl
      go_wp2_with (first
        | (refine wpList_load_row rfl 37 (.tmp 4) rfl (w.heap.size + 1) rfl 37 (mk .u8 rs) (0, 0) _ (two_second _ _ _) Try.underlying37 rfl hi ?_)
        | (refine wpList_store_row rfl 37 (.tmp 2) (.tmp 50) rfl w.heap.size (mk .u8 rs) rfl rfl 37 (mk .u8 z16) (two_first _ _ _) hi hsz (mk_one _ _) ?_))
      refine bodyPost_ret (results_row_tmp rfl _ _ w.heap.size 37 (mk .u8 rs) (0, 0) _ rfl (setRow_heap _ _ (mk .u8 z16) _ _ _ (two_first _ _ _)) Try.underlying37 rfl hi) rfl ⟨by rw [H.out]; rfl, ?_⟩
      exact below_setRow (below_drewN (((Below.refl _ w).alloc (Nat.le_refl _) _).alloc (by simp) _) _) (by omega) _

set_option maxHeartbeats 400000 in
theorem sCode_no (l : List UInt8) (hl : l.length ≤ 1048576) (hv : vld l = false) (w : World) :
    Calls Try.prog 30 #[.string (bs l)] w fun e w' => e = .returned (.tuple #[.agg (mk .u8 z16), .int .i64 1]) ∧ Below w.heap.size w w' := by
  have hi := info_WC z16 rfl
  go_enter Try.func30, Try.ntmps30
  go_wp2_with (first
    | ((go_at_call 41); refine (ok_any l hl _).mono ?_; rintro e w1 ⟨rfl, rfl⟩)
    | (refine wpList_load_row rfl 37 (.tmp 4) rfl (w.heap.size + 1) rfl 37 (mk .u8 z16) (0, 0) _ (two_second _ _ _) Try.underlying37 rfl hi ?_)
    | (refine wpList_store_row rfl 37 (.tmp 2) (.tmp 12) rfl w.heap.size (mk .u8 z16) rfl rfl 37 (mk .u8 z16) (two_first _ _ _) hi rfl (mk_one _ _) ?_))
  refine bodyPost_ret (results_row_tmp rfl _ _ w.heap.size 37 (mk .u8 z16) (0, 0) _ rfl (setRow_heap _ _ (mk .u8 z16) _ _ _ (two_first _ _ _)) Try.underlying37 rfl hi) rfl ⟨rfl, ?_⟩
  exact below_setRow (((Below.refl _ w).alloc (Nat.le_refl _) _).alloc (by simp) _) (by omega) _

set_option maxHeartbeats 400000 in
theorem iCode_no (l : List UInt8) (hl : l.length ≤ 1048576) (hv : vld l = false) (w : World) :
    Calls Try.prog 31 #[.string (bs l)] w fun e w' => e = .returned (.tuple #[.agg (mk .u8 z16), .int .i64 1]) ∧ Below w.heap.size w w' := by
  have hi := info_WC z16 rfl
  go_enter Try.func31, Try.ntmps31
  go_wp2_with (first
    | ((go_at_call 16); refine (iValid_any l hl _).mono ?_; rintro e w1 ⟨rfl, rfl⟩)
    | (refine wpList_build rfl 37 #[] rfl bzsWC ?_)
    | (refine wpList_store_row rfl 37 (.tmp 2) (.tmp 11) rfl w.heap.size (mk .u8 z16) rfl (congrArg Value.agg bzWC) 37 (mk .u8 z16) (one_first _ _) hi rfl (mk_one _ _) ?_))
  refine bodyPost_ret (results_row_tmp rfl _ _ w.heap.size 37 (mk .u8 z16) (0, 0) _ rfl (setRow_heap _ _ (mk .u8 z16) _ _ _ (one_first _ _)) Try.underlying37 rfl hi) rfl ⟨rfl, ?_⟩
  exact below_setRow ((Below.refl _ w).alloc (Nat.le_refl _) _) (by omega) _

set_option maxHeartbeats 400000 in
theorem eqWC_any (zs : List Int) (hz : zs.length = 16) (w : World) :
    Calls Try.prog 32 #[.agg (mk .u8 zs), .agg (mk .u8 zs)] w fun e w' => e = .returned (.bool true) ∧ Below w.heap.size w w' := by
  go_enter Try.func32, Try.ntmps32
  go_wp2
  go_loopw [5] (fun i wr => ∃ k : Nat, k ≤ 16 ∧ i = .int .i64 k ∧ ∃ n, wr = ((w.alloc (.cells (mk .u8 zs) 37)).alloc (.cells (mk .u8 zs) 37)).drewN n) (fun i _ => 16 - (intOf i).toNat)
  case atStart => exact ⟨0, by omega, rfl, 0, rfl⟩
  case round =>
    obtain ⟨k, hk, rfl, n, rfl⟩ := hrel
    by_cases hlt : k < 16
    · have g1 := mk_get .u8 zs k (by omega)
      have i1 : (0 : Int) ≤ (k : Int) := by omega
      have i2 : (k : Int) < 16 := by omega
      go_wp2
      go_quiet (fail)
      go_wp2
      go_roundw
      case rel => exact ⟨k + 1, by omega, by go_num, n + nq, rfl⟩
      case measure => simp [intOf]; omega
    · obtain rfl : k = 16 := by omega
      go_wp2
      go_ret
      exact ⟨rfl, below_drewN (((Below.refl _ w).alloc (Nat.le_refl _) _).alloc (by simp) _) _⟩

set_option maxHeartbeats 400000 in
theorem codeLaw (l : List UInt8) (hl : l.length ≤ 1048576) (rs : List Int) (c : Int) (hr : rs.length = 16)
    (hs : ∀ w, Calls Try.prog 30 #[.string (bs l)] w fun e w' => e = .returned (.tuple #[.agg (mk .u8 rs), .int .i64 c]) ∧ Below w.heap.size w w')
    (hm : ∀ w, Calls Try.prog 31 #[.string (bs l)] w fun e w' => e = .returned (.tuple #[.agg (mk .u8 rs), .int .i64 c]) ∧ Below w.heap.size w w') (w : World) :
    Calls Try.prog 10 #[.string (bs l)] w fun e w' => e = .returned (.bool true) ∧ Below w.heap.size w w' := by
  have S0 := St.zero w
  have hn : ¬ (1048576 : Int) < l.length := by omega
  have hj := info_WC rs hr
  have hk : (mk .u8 z16).size = (mk .u8 rs).size := by rw [mk_size, mk_size, hr]; rfl
  have KS := Lib.hid hs
  have KI := Lib.hid hm
  clear hs hm
  go_enter Try.func10, Try.ntmps10
  go_upto_region 5 with (first
      | (go_at_call 30; refine (KS.out _).mono ?_; rintro e w1 ⟨rfl, hb⟩; have hS := St.call hb (by assumption); clear hb)
      | (go_at_call 31; refine (KI.out _).mono ?_; rintro e w1 ⟨rfl, hb⟩; have hS := St.call hb (by assumption); clear hb)
      | (refine wpList_store_row rfl 37 (.tmp 3) (.tmp 13) rfl _ (mk .u8 rs) rfl rfl 37 (mk .u8 z16) (one_first _ _) hj hk (mk_one _ _) ?_; have hS := St.fresh (by assumption) (mk .u8 z16) (mk .u8 rs) 37)
      | (refine wpList_store_row rfl 37 (.tmp 5) (.tmp 18) rfl _ (mk .u8 rs) rfl rfl 37 (mk .u8 z16) (one_first _ _) hj hk (mk_one _ _) ?_; have hS := St.fresh (by assumption) (mk .u8 z16) (mk .u8 rs) 37))
  go_wp2_with (first
      | (go_at_call 32; refine (eqWC_any rs hr _).mono ?_; rintro e w1 ⟨rfl, hb⟩; have hS := St.call hb (by assumption); clear hb)
      | (refine wpList_load_row rfl 37 (.tmp 5) rfl _ rfl 37 (mk .u8 rs) (0, 0) _ (St.get hS 1 rfl) Try.underlying37 rfl hj ?_)
      | (refine wpList_load_row rfl 37 (.tmp 3) rfl _ rfl 37 (mk .u8 rs) (0, 0) _ (St.get hS 0 rfl) Try.underlying37 rfl hj ?_))
  go_ret
  exact ⟨rfl, St.below (by assumption)⟩

set_option maxHeartbeats 400000 in
theorem codeBig (l : List UInt8) (hl : 1048576 < l.length) (w : World) :
    Calls Try.prog 10 #[.string (bs l)] w fun e w' => e = .returned (.bool true) ∧ Below w.heap.size w w' := by
  have hb : (1048576 : Int) < l.length := by omega
  go_enter Try.func10, Try.ntmps10
  go_wp2
  go_ret
  exact ⟨rfl, Below.refl _ _⟩

theorem codeWalk (s : ByteArray) (w : World) (_ : s.size ≤ maxLen) : Calls Try.prog 10 #[.string s] w fun e w' => e = .returned (.bool true) ∧ Below w.heap.size w w' := by
  obtain ⟨l, rfl⟩ := bs_of s
  by_cases hl : l.length ≤ 1048576
  · cases hv : vld l
    · exact codeLaw l hl _ _ rfl (fun w => sCode_no l hl hv w) (fun w => iCode_no l hl hv w) w
    · exact codeLaw l hl _ _ (codeTo_len l _) (fun w => sCode_yes l hl hv w) (fun w => iCode_yes l hl hv w) w
  · exact codeBig l (by omega) w

end Go.Proofs.Ytalbagjgkcgblaa
