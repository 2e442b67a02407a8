/- ValidWord: the walks of both sides. Conditions: none. -/
import Derived.Test.YtejmbbnhdojcbaaWds
namespace Go.Proofs.Ytejmbbnhdojcbaa
open Go.RowKit

/-- Is a text a word? -/
def vld (l : List UInt8) : Bool := l.all Wd.isL && decide (l.length ≤ 40)
theorem vld_no {l : List UInt8} {k : Nat} (hk : k < l.length) (h : Wd.isL (atb l k) = false) : vld l = false := by
  unfold vld
  rw [Bool.and_eq_false_iff]
  left
  rw [List.all_eq_false]
  exact ⟨_, List.getElem_mem hk, by rw [← atb_eq hk, h]; simp⟩
theorem vld_end {l : List UInt8} (h : ∀ j, j < l.length → Wd.isL (atb l j) = true) : vld l = decide (l.length ≤ 40) := by
  have : l.all Wd.isL = true := by
    rw [List.all_eq_true]
    intro x hx
    obtain ⟨j, hj, rfl⟩ := List.mem_iff_getElem.1 hx
    rw [← atb_eq hj]; exact h j hj
  unfold vld; rw [this, Bool.true_and]
theorem vld_iff {l : List UInt8} : vld l = true ↔ (∀ x ∈ l, Wd.isL x = true) ∧ l.length ≤ 40 := by simp [vld]
theorem vld_at {l : List UInt8} (h : ∀ x ∈ l, Wd.isL x = true) {k : Nat} (hk : k < l.length) : Wd.isL (atb l k) = true := by rw [atb_eq hk]; exact h _ (List.getElem_mem hk)


set_option maxHeartbeats 400000 in
theorem isLetter_any (c : UInt8) (w : World) :
    Calls Try.prog 59 #[.int .u8 c.toNat] w fun e w' => e = .returned (.bool (Wd.isL c)) ∧ w = w' := by
  have hb := c.toNat_lt
  obtain ⟨n, hn⟩ : ∃ n : Nat, n = c.toNat := ⟨_, rfl⟩
  have e : Wd.isL c = ((decide (97 ≤ n) && decide (n ≤ 100)) || (decide (65 ≤ n) && decide (n ≤ 68))) := by
    unfold Wd.isL; simp only [UInt8.le_iff_toNat_le, hn]; rfl
  rw [e, ← hn]
  clear e hn
  by_cases h1 : 97 ≤ n
  · by_cases h2 : n ≤ 100
    · have j1 : (97 : Int) ≤ n := by omega
      have j2 : (n : Int) ≤ 100 := by omega
      go_enter Try.func59, Try.ntmps59
      go_wp2
      go_ret
      exact ⟨by simp [h1, h2], rfl⟩
    · have j1 : (97 : Int) ≤ n := by omega
      have j2 : decide ((n : Int) ≤ 100) = false := by simp; omega
      have j3 : (65 : Int) ≤ n := by omega
      have j4 : decide ((n : Int) ≤ 68) = false := by simp; omega
      go_enter Try.func59, Try.ntmps59
      go_wp2
      go_ret
      exact ⟨by simp [h1, h2, show ¬ n ≤ 68 by omega], rfl⟩
  · have j1 : decide ((97 : Int) ≤ n) = false := by simp; omega
    by_cases h3 : 65 ≤ n
    · have j3 : (65 : Int) ≤ n := by omega
      by_cases h4 : n ≤ 68
      · have j4 : (n : Int) ≤ 68 := by omega
        go_enter Try.func59, Try.ntmps59
        go_wp2
        go_ret
        exact ⟨by simp [h1, h3, h4], rfl⟩
      · have j4 : decide ((n : Int) ≤ 68) = false := by simp; omega
        go_enter Try.func59, Try.ntmps59
        go_wp2
        go_ret
        exact ⟨by simp [h1, h4], rfl⟩
    · have j3 : decide ((65 : Int) ≤ n) = false := by simp; omega
      go_enter Try.func59, Try.ntmps59
      go_wp2
      go_ret
      exact ⟨by simp [h1, h3], rfl⟩

set_option maxHeartbeats 400000 in
theorem iValid_any (l : List UInt8) (hl : l.length ≤ 1048576) (w : World) :
    Calls Try.prog 35 #[.string (bs l)] w fun e w' => e = .returned (.bool (vld l)) ∧ w = w' := by
  go_enter Try.func35, Try.ntmps35
  go_wp2
  go_loop [6] (fun i => ∃ k : Nat, k ≤ l.length ∧ i = .int .i64 k ∧ ∀ j, j < k → Wd.isL (atb l j) = true) (fun i => l.length - (intOf i).toNat)
  case atStart => exact ⟨0, by omega, rfl, fun j hj => by omega⟩
  case round =>
    obtain ⟨k, hk, rfl, hn⟩ := hrel
    by_cases hlt : k < l.length
    · have i2 : (k : Int) < l.length := by omega
      have HN := Lib.hid hn
      clear hn
      cases hc : Wd.isL (atb l k)
      · have e := vld_no hlt hc
        have HE := Lib.hid e
        clear e
        go_wp2_with (go_at_call 59; refine (isLetter_any (atb l k) _).mono ?_; rintro e w' ⟨rfl, rfl⟩)
        go_ret
        exact ⟨by rw [HE.out]; rfl, rfl⟩
      · have HC := Lib.hid hc
        go_wp2_with (go_at_call 59; refine (isLetter_any (atb l k) _).mono ?_; rintro e w' ⟨rfl, rfl⟩)
        go_round
        case rel => exact ⟨k + 1, by omega, by go_num, fun j hj => if h : j = k then h ▸ HC.out else HN.out j (by omega)⟩
        case measure => simp [intOf]; omega
    · obtain rfl : k = l.length := by omega
      have e := vld_end hn
      have HE := Lib.hid e
      clear e hn
      go_wp2
      go_ret
      exact ⟨by rw [HE.out]; go_num, rfl⟩

end Go.Proofs.Ytejmbbnhdojcbaa
