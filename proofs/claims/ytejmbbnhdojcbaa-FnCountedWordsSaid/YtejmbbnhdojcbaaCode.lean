/- CodeOfWord: the walks of both sides and of the law. Conditions: none. -/
import Derived.Test.YtejmbbnhdojcbaaRow
import Derived.Test.YtejmbbnhdojcbaaCmp
import Derived.Deep.Cut
import Derived.Deep.DeepCutAuto
import Derived.Deep.RegionWith
import Derived.BigRegion
import Derived.RegionTactic
namespace Go.Proofs.Ytejmbbnhdojcbaa
open Go.RowKit
set_option linter.unusedVariables false

/-- Is a bit of a letter's number set? -/
def bitOn (c : UInt8) (s : Nat) : Bool := bits BinOp.and IntKind.i64 (lno c / 2 ^ s) 1 == 1
/-- A byte with one bit more. -/
def orAt (z : Int) (r : Nat) : Int := bits BinOp.or IntKind.u8 z (2 ^ (7 - r) % 256)
/-- The code after n bits. -/
def codeTo (l : List UInt8) : Nat → List Int
  | 0 => [(l.length : Int), 0, 0, 0, 0, 0, 0, 0, 0, 0, 0, 0, 0, 0, 0, 0]
  | n + 1 => if bitOn (atb l (n / 3)) (2 - n % 3) then (codeTo l n).set (1 + n / 8) (orAt (nth (codeTo l n) (1 + n / 8)) (n % 8)) else codeTo l n
theorem codeTo_len (l : List UInt8) : ∀ n, (codeTo l n).length = 16
  | 0 => rfl
  | n + 1 => by unfold codeTo; split; simp [codeTo_len l n]; exact codeTo_len l n
def z16 : List Int := [0, 0, 0, 0, 0, 0, 0, 0, 0, 0, 0, 0, 0, 0, 0, 0]
theorem info_WC (zs : List Int) (hz : zs.length = 16) : (Try.prog.info? 43).map (·.size) = some (mk .u8 zs).size := by
  rw [mk_size, hz]; kernel_rfl
theorem bzWC : (Try.prog.built 43 []).getD #[] = mk .u8 z16 := by kernel_rfl
theorem bzsWC : (Try.prog.built 43 []).isSome = true := by kernel_rfl

theorem setd (w : World) (c : Array Value) (t : TypeId) (o1 : Obj) (n k : Nat) (v : Value) :
    (((w.alloc o1).alloc (.cells c t)).drewN n).setCell ⟨w.heap.size + 1, k, none⟩ v = ((w.alloc o1).alloc (.cells (c.setIfInBounds k v) t)).drewN n := by
  show (((w.alloc o1).alloc (.cells c t)).setCell ⟨w.heap.size + 1, k, none⟩ v).drewN n = _
  rw [World.setCell_alloc_at _ _ _ _ _ (by simp)]

set_option maxRecDepth 20000 in
set_option maxHeartbeats 3200000 in
theorem iCode_yes (l : List UInt8) (hl : l.length ≤ 1048576) (hv : vld l = true) (w : World) :
    Calls Try.prog 22 #[.string (bs l)] w fun e w' => e = .returned (.tuple #[.agg (mk .u8 (codeTo l (3 * l.length))), .int .i64 0]) ∧ Below w.heap.size w w' := by
  have hL := (vld_iff.1 hv).1
  have h40 := (vld_iff.1 hv).2
  have i40 : (l.length : Int) ≤ 40 := by omega
  go_enter Try.func22, Try.ntmps22
  go_wp2_with (first
    | ((go_at_call 35); refine (iValid_any l hl _).mono ?_; rintro e w1 ⟨rfl, rfl⟩))
  go_loopw [18] (fun i wr => ∃ k : Nat, k ≤ l.length ∧ i = .int .i64 k ∧ ∃ nd, wr = ((w.alloc (.cells (mk .u8 z16) 43)).alloc (.cells (mk .u8 (codeTo l (3 * k))) 43)).drewN nd) (fun i _ => l.length - (intOf i).toNat)
  case atStart => exact ⟨0, by omega, rfl, 0, rfl⟩
  case round =>
    obtain ⟨k, hk, rfl, nd, rfl⟩ := hrel
    have i0 : (0 : Int) ≤ k := by omega
    clear hv hL
    by_cases g1 : k < l.length
    · have i1 : (k : Int) < l.length := by omega
      go_wp2
      go_loopw [21] (fun i wr => ∃ b : Nat, b ≤ 3 ∧ i = .int .i64 b ∧ ∃ nd, wr = ((w.alloc (.cells (mk .u8 z16) 43)).alloc (.cells (mk .u8 (codeTo l (3 * k + b))) 43)).drewN nd) (fun i _ => 3 - (intOf i).toNat)
      case atStart => exact ⟨0, by omega, rfl, nd, rfl⟩
      case round =>
        obtain ⟨b, hb, rfl, nd, rfl⟩ := hrel
        obtain ⟨n, hn⟩ : ∃ n, n = 3 * k + b := ⟨_, rfl⟩
        have hlen := codeTo_len l n
        have hsucc : codeTo l (n + 1) = if bitOn (atb l (n / 3)) (2 - n % 3) then (codeTo l n).set (1 + n / 8) (orAt (nth (codeTo l n) (1 + n / 8)) (n % 8)) else codeTo l n := rfl
        obtain ⟨zs, hzs⟩ : ∃ zs, zs = codeTo l n := ⟨_, rfl⟩
        rw [← hn, ← hzs]
        rw [← hzs] at hsucc hlen
        have HN := Lib.hid hn
        have HZ := Lib.hid hzs
        rcases (show b = 0 ∨ b = 1 ∨ b = 2 ∨ b = 3 by omega) with rfl | rfl | rfl | rfl
        · rw [show n / 3 = k by omega, show 2 - n % 3 = 2 by omega] at hsucc
          have en : 3 * (k : Int) = (n : Int) := by omega
          obtain ⟨j, hj⟩ : ∃ j, j = 1 + n / 8 := ⟨_, rfl⟩
          obtain ⟨r, hr⟩ : ∃ r, r = n % 8 := ⟨_, rfl⟩
          have r8 : r < 8 := by omega
          rw [← hj, ← hr] at hsucc
          have hcell := mk_get .u8 zs j (by omega)
          have ej : 1 + (n : Int) / 8 = (j : Int) := by omega
          have er : (n : Int) % 8 = (r : Int) := by omega
          have j16 : (j : Int) < 16 := by omega
          have n0 : (0 : Int) ≤ n := by omega
          have n1 : (n : Int) < 120 := by omega
          clear hn hzs hj hr
          by_cases hbit : bitOn (atb l k) 2 = true
          · have hsu : codeTo l (n + 1) = zs.set j (orAt (nth zs j) r) := by rw [hsucc]; simp [hbit]
            have hb1 : (bits BinOp.and IntKind.i64 (lno (atb l k) / 4) 1 == 1) = true := by
              have h := hbit
              unfold bitOn at h
              simpa using h
            have E := Lib.hid hsu
            clear hsucc hsu hbit
            go_wp2_with ((go_at_call 45); refine (place_any (atb l k) _).mono ?_; rintro e w1 ⟨rfl, rfl⟩)
            go_region
            go_wp2
            go_roundw
            case rel => exact ⟨1, by omega, rfl, nd + 1, by rw [show 3 * k + 1 = n + 1 by (have := HN.out; omega), E.out, ← mk_set]; exact setd _ _ _ _ _ _ _⟩
            case measure => simp [intOf] <;> omega
          · have hsu : codeTo l (n + 1) = zs := by rw [hsucc]; simp [hbit]
            have hb1 : (bits BinOp.and IntKind.i64 (lno (atb l k) / 4) 1 == 1) = false := by
              have h := eq_false_of_ne_true hbit
              unfold bitOn at h
              simpa using h
            have E := Lib.hid hsu
            clear hsucc hsu hbit
            go_wp2_with ((go_at_call 45); refine (place_any (atb l k) _).mono ?_; rintro e w1 ⟨rfl, rfl⟩)
            go_roundw
            case rel => exact ⟨1, by omega, rfl, nd, by rw [show 3 * k + 1 = n + 1 by (have := HN.out; omega), E.out]⟩
            case measure => simp [intOf] <;> omega
        · rw [show n / 3 = k by omega, show 2 - n % 3 = 1 by omega] at hsucc
          have en : 3 * (k : Int) + 1 = (n : Int) := by omega
          obtain ⟨j, hj⟩ : ∃ j, j = 1 + n / 8 := ⟨_, rfl⟩
          obtain ⟨r, hr⟩ : ∃ r, r = n % 8 := ⟨_, rfl⟩
          have r8 : r < 8 := by omega
          rw [← hj, ← hr] at hsucc
          have hcell := mk_get .u8 zs j (by omega)
          have ej : 1 + (n : Int) / 8 = (j : Int) := by omega
          have er : (n : Int) % 8 = (r : Int) := by omega
          have j16 : (j : Int) < 16 := by omega
          have n0 : (0 : Int) ≤ n := by omega
          have n1 : (n : Int) < 120 := by omega
          clear hn hzs hj hr
          by_cases hbit : bitOn (atb l k) 1 = true
          · have hsu : codeTo l (n + 1) = zs.set j (orAt (nth zs j) r) := by rw [hsucc]; simp [hbit]
            have hb1 : (bits BinOp.and IntKind.i64 (lno (atb l k) / 2) 1 == 1) = true := by
              have h := hbit
              unfold bitOn at h
              simpa using h
            have E := Lib.hid hsu
            clear hsucc hsu hbit
            go_wp2_with ((go_at_call 45); refine (place_any (atb l k) _).mono ?_; rintro e w1 ⟨rfl, rfl⟩)
            go_region
            go_wp2
            go_roundw
            case rel => exact ⟨2, by omega, rfl, nd + 1, by rw [show 3 * k + 2 = n + 1 by (have := HN.out; omega), E.out, ← mk_set]; exact setd _ _ _ _ _ _ _⟩
            case measure => simp [intOf] <;> omega
          · have hsu : codeTo l (n + 1) = zs := by rw [hsucc]; simp [hbit]
            have hb1 : (bits BinOp.and IntKind.i64 (lno (atb l k) / 2) 1 == 1) = false := by
              have h := eq_false_of_ne_true hbit
              unfold bitOn at h
              simpa using h
            have E := Lib.hid hsu
            clear hsucc hsu hbit
            go_wp2_with ((go_at_call 45); refine (place_any (atb l k) _).mono ?_; rintro e w1 ⟨rfl, rfl⟩)
            go_roundw
            case rel => exact ⟨2, by omega, rfl, nd, by rw [show 3 * k + 2 = n + 1 by (have := HN.out; omega), E.out]⟩
            case measure => simp [intOf] <;> omega
        · rw [show n / 3 = k by omega, show 2 - n % 3 = 0 by omega] at hsucc
          have en : 3 * (k : Int) + 2 = (n : Int) := by omega
          obtain ⟨j, hj⟩ : ∃ j, j = 1 + n / 8 := ⟨_, rfl⟩
          obtain ⟨r, hr⟩ : ∃ r, r = n % 8 := ⟨_, rfl⟩
          have r8 : r < 8 := by omega
          rw [← hj, ← hr] at hsucc
          have hcell := mk_get .u8 zs j (by omega)
          have ej : 1 + (n : Int) / 8 = (j : Int) := by omega
          have er : (n : Int) % 8 = (r : Int) := by omega
          have j16 : (j : Int) < 16 := by omega
          have n0 : (0 : Int) ≤ n := by omega
          have n1 : (n : Int) < 120 := by omega
          clear hn hzs hj hr
          by_cases hbit : bitOn (atb l k) 0 = true
          · have hsu : codeTo l (n + 1) = zs.set j (orAt (nth zs j) r) := by rw [hsucc]; simp [hbit]
            have hb1 : (bits BinOp.and IntKind.i64 (lno (atb l k)) 1 == 1) = true := by
              have h := hbit
              unfold bitOn at h
              simpa using h
            have E := Lib.hid hsu
            clear hsucc hsu hbit
            go_wp2_with ((go_at_call 45); refine (place_any (atb l k) _).mono ?_; rintro e w1 ⟨rfl, rfl⟩)
            go_region
            go_wp2
            go_roundw
            case rel => exact ⟨3, by omega, rfl, nd + 1, by rw [show 3 * k + 3 = n + 1 by (have := HN.out; omega), E.out, ← mk_set]; exact setd _ _ _ _ _ _ _⟩
            case measure => simp [intOf] <;> omega
          · have hsu : codeTo l (n + 1) = zs := by rw [hsucc]; simp [hbit]
            have hb1 : (bits BinOp.and IntKind.i64 (lno (atb l k)) 1 == 1) = false := by
              have h := eq_false_of_ne_true hbit
              unfold bitOn at h
              simpa using h
            have E := Lib.hid hsu
            clear hsucc hsu hbit
            go_wp2_with ((go_at_call 45); refine (place_any (atb l k) _).mono ?_; rintro e w1 ⟨rfl, rfl⟩)
            go_roundw
            case rel => exact ⟨3, by omega, rfl, nd, by rw [show 3 * k + 3 = n + 1 by (have := HN.out; omega), E.out]⟩
            case measure => simp [intOf] <;> omega
        · rw [hzs, hn]
          clear hn hzs hsucc hlen HZ
          go_wp2
          go_roundw
          case rel => exact ⟨k + 1, by omega, by go_num, nd, by rw [show 3 * (k + 1) = 3 * k + 3 by omega]⟩
          case measure => simp [intOf]; omega
    · obtain rfl : k = l.length := by omega
      have hlen := codeTo_len l (3 * l.length)
      obtain ⟨rs, hrs⟩ : ∃ rs, rs = codeTo l (3 * l.length) := ⟨_, rfl⟩
      rw [← hrs] at hlen ⊢
      have H := Lib.hid hrs
      clear hrs
      have hi := info_WC rs hlen
      have hsz : (mk .u8 z16).size = (mk .u8 rs).size := by rw [mk_size, mk_size, hlen]; rfl
      go_wp2_with (first
        | (refine wpList_load_row rfl 43 (.tmp 4) rfl (w.heap.size + 1) rfl 43 (mk .u8 rs) (0, 0) _ (two_second _ _ _) Try.underlying43 rfl hi ?_)
        | (refine wpList_store_row rfl 43 (.tmp 2) (.tmp 50) rfl w.heap.size (mk .u8 rs) rfl rfl 43 (mk .u8 z16) (two_first _ _ _) hi hsz (mk_one _ _) ?_))
      refine bodyPost_ret (results_row_tmp rfl _ _ w.heap.size 43 (mk .u8 rs) (0, 0) _ rfl (setRow_heap _ _ (mk .u8 z16) _ _ _ (two_first _ _ _)) Try.underlying43 rfl hi) rfl ⟨by rw [H.out]; rfl, ?_⟩
      exact below_setRow (below_drewN (((Below.refl _ w).alloc (Nat.le_refl _) _).alloc (by simp) _) _) (by omega) _







end Go.Proofs.Ytejmbbnhdojcbaa
