/- UnpackMask: slices.Equal on bytes. Conditions: none. -/
import Derived.Test.YtbkbjiifklhgiaaBys
namespace Go.Proofs.Ytbkbjiifklhgiaa
open Go.RowKit
set_option linter.unusedVariables false

set_option maxHeartbeats 1600000 in
theorem eqSb_ok (A1 A2 : Option Addr) (n c1 c2 : Nat) (l1 l2 : List UInt8) (e1 : l1.length = n) (e2 : l2.length = n) (hn : n ≤ 1048576) (he : ∀ k, k < n → bt l1 k = bt l2 k) (w : World) (h1 : Bys w A1 l1) (h2 : Bys w A2 l2) :
    Calls Try.prog 92 #[.slice A1 n c1, .slice A2 n c2] w fun e w' => e = .returned (.bool true) ∧ Below w.heap.size w w' := by
  have H1 := Lib.hid h1
  have H2 := Lib.hid h2
  have E1 := Lib.hid e1
  have E2 := Lib.hid e2
  have HE := Lib.hid he
  clear h1 h2 e1 e2 he
  go_enter Try.func92, Try.ntmps92
  go_wp2
  go_loopw [13] (fun i wr => ∃ k : Nat, k ≤ n ∧ i = .int .i64 k ∧ ∃ q, wr = w.drewN q) (fun i _ => n - (intOf i).toNat)
  case atStart => exact ⟨0, by omega, rfl, 0, rfl⟩
  case round =>
    obtain ⟨k, hk, rfl, q, rfl⟩ := hrel
    by_cases hlt : k < n
    · have i0 : (0 : Int) ≤ k := by omega
      have i1 : (k : Int) < n := by omega
      obtain ⟨b1, o1, rfl, hl1, hc1⟩ := H1.out (by rw [E1.out]; omega)
      obtain ⟨b2, o2, rfl, hl2, hc2⟩ := H2.out (by rw [E2.out]; omega)
      obtain ⟨x, hx⟩ : ∃ x, x = bt l1 k := ⟨_, rfl⟩
      obtain ⟨y, hy⟩ : ∃ y, y = bt l2 k := ⟨_, rfl⟩
      have ca : w.cell? ⟨b1, o1 + k, none⟩ = some (.int .u8 x) := by rw [hx]; exact hc1 k (by rw [E1.out]; omega)
      have cb : w.cell? ⟨b2, o2 + k, none⟩ = some (.int .u8 y) := by rw [hy]; exact hc2 k (by rw [E2.out]; omega)
      obtain rfl : x = y := by rw [hx, hy]; exact HE.out k hlt
      clear hc1 hc2 hx hy
      go_wp2
      go_quiet (fail)
      go_wp2
      go_roundw
      case rel => exact ⟨k + 1, by omega, by go_num, _, rfl⟩
      case measure => simp [intOf]; omega
    · obtain rfl : k = n := by omega
      go_wp2
      go_ret
      exact ⟨rfl, below_drewN (Below.refl _ _) _⟩
set_option maxHeartbeats 1600000 in
theorem eqSb_bad (A1 A2 : Option Addr) (n c1 c2 : Nat) (l1 l2 : List UInt8) (e1 : l1.length = n) (e2 : l2.length = n) (hn : n ≤ 1048576) (K : Nat) (hK : K < n) (he : ∀ k, k < K → bt l1 k = bt l2 k) (hne : bt l1 K ≠ bt l2 K) (w : World) (h1 : Bys w A1 l1) (h2 : Bys w A2 l2) :
    Calls Try.prog 92 #[.slice A1 n c1, .slice A2 n c2] w fun e w' => e = .returned (.bool false) ∧ Below w.heap.size w w' := by
  have H1 := Lib.hid h1
  have H2 := Lib.hid h2
  have E1 := Lib.hid e1
  have E2 := Lib.hid e2
  have HE := Lib.hid he
  have HN := Lib.hid hne
  clear h1 h2 e1 e2 he hne
  go_enter Try.func92, Try.ntmps92
  go_wp2
  go_loopw [13] (fun i wr => ∃ k : Nat, k ≤ K ∧ i = .int .i64 k ∧ ∃ q, wr = w.drewN q) (fun i _ => K - (intOf i).toNat)
  case atStart => exact ⟨0, by omega, rfl, 0, rfl⟩
  case round =>
    obtain ⟨k, hk, rfl, q, rfl⟩ := hrel
    by_cases hlt : k < K
    · have i0 : (0 : Int) ≤ k := by omega
      have i1 : (k : Int) < n := by omega
      obtain ⟨b1, o1, rfl, hl1, hc1⟩ := H1.out (by rw [E1.out]; omega)
      obtain ⟨b2, o2, rfl, hl2, hc2⟩ := H2.out (by rw [E2.out]; omega)
      obtain ⟨x, hx⟩ : ∃ x, x = bt l1 k := ⟨_, rfl⟩
      obtain ⟨y, hy⟩ : ∃ y, y = bt l2 k := ⟨_, rfl⟩
      have ca : w.cell? ⟨b1, o1 + k, none⟩ = some (.int .u8 x) := by rw [hx]; exact hc1 k (by rw [E1.out]; omega)
      have cb : w.cell? ⟨b2, o2 + k, none⟩ = some (.int .u8 y) := by rw [hy]; exact hc2 k (by rw [E2.out]; omega)
      obtain rfl : x = y := by rw [hx, hy]; exact HE.out k hlt
      clear hc1 hc2 hx hy
      go_wp2
      go_quiet (fail)
      go_wp2
      go_roundw
      case rel => exact ⟨k + 1, by omega, by go_num, _, rfl⟩
      case measure => simp [intOf]; omega
    · obtain rfl : k = K := by omega
      have i0 : (0 : Int) ≤ k := by omega
      have i1 : (k : Int) < n := by omega
      obtain ⟨b1, o1, rfl, hl1, hc1⟩ := H1.out (by rw [E1.out]; omega)
      obtain ⟨b2, o2, rfl, hl2, hc2⟩ := H2.out (by rw [E2.out]; omega)
      obtain ⟨x, hx⟩ : ∃ x, x = bt l1 k := ⟨_, rfl⟩
      obtain ⟨y, hy⟩ : ∃ y, y = bt l2 k := ⟨_, rfl⟩
      have ca : w.cell? ⟨b1, o1 + k, none⟩ = some (.int .u8 x) := by rw [hx]; exact hc1 k (by rw [E1.out]; omega)
      have cb : w.cell? ⟨b2, o2 + k, none⟩ = some (.int .u8 y) := by rw [hy]; exact hc2 k (by rw [E2.out]; omega)
      have d : (x == y) = false := by rw [beq_eq_false_iff_ne, hx, hy]; exact HN.out
      clear hc1 hc2 hx hy
      go_wp2
      go_quiet (fail)
      go_wp2
      go_ret
      exact ⟨rfl, below_drewN (below_drewN (Below.refl _ _) _) _⟩
set_option maxHeartbeats 400000 in
theorem eqSb_len (A1 A2 : Option Addr) (n m c1 c2 : Nat) (hne : n ≠ m) (w : World) :
    Calls Try.prog 92 #[.slice A1 n c1, .slice A2 m c2] w fun e w' => e = .returned (.bool false) ∧ Below w.heap.size w w' := by
  have d : ((n : Int) == (m : Int)) = false := by rw [beq_eq_false_iff_ne]; omega
  go_enter Try.func92, Try.ntmps92
  go_wp2
  go_ret
  exact ⟨rfl, Below.refl _ _⟩
theorem bt_same {l1 l2 : List UInt8} (hl : l1.length = l2.length) (h : ∀ k, k < l1.length → bt l1 k = bt l2 k) : l1 = l2 := by
  apply List.ext_getElem hl
  intro k h1 h2
  have := h k h1
  unfold bt at this
  rw [List.getD_eq_getElem?_getD, List.getD_eq_getElem?_getD, List.getElem?_eq_getElem h1, List.getElem?_eq_getElem h2] at this
  exact UInt8.toNat_inj.1 (Int.ofNat_inj.1 this)
theorem eqSb (A1 A2 : Option Addr) (c1 c2 : Nat) (l1 l2 : List UInt8) (hn : l1.length ≤ 1048576) (w : World) (h1 : Bys w A1 l1) (h2 : Bys w A2 l2) :
    Calls Try.prog 92 #[.slice A1 l1.length c1, .slice A2 l2.length c2] w fun e w' => e = .returned (.bool (l1 == l2)) ∧ Below w.heap.size w w' := by
  by_cases hl : l1.length = l2.length
  · rcases first_no (p := fun k => bt l1 k == bt l2 k) l1.length with h | ⟨K, hK, hlo, hb⟩
    · have e := bt_same hl (fun k hk => by simpa using h k hk)
      rw [show (l1 == l2) = true by simpa using e, ← hl]
      exact eqSb_ok A1 A2 l1.length c1 c2 l1 l2 rfl hl.symm hn (fun k hk => by simpa using h k hk) w h1 h2
    · have hb' : bt l1 K ≠ bt l2 K := by simpa using hb
      rw [show (l1 == l2) = false by rw [beq_eq_false_iff_ne]; intro e; subst e; exact hb' rfl, ← hl]
      exact eqSb_bad A1 A2 l1.length c1 c2 l1 l2 rfl hl.symm hn K hK (fun k hk => by simpa using hlo k hk) hb' w h1 h2
  · rw [show (l1 == l2) = false by rw [beq_eq_false_iff_ne]; intro e; subst e; exact hl rfl]
    exact eqSb_len A1 A2 l1.length l2.length c1 c2 hl w
end Go.Proofs.Ytbkbjiifklhgiaa
