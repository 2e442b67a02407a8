/- RootWord: the walks of both sides and of the law. Conditions: none. -/
import Derived.Test.YtejmbbnhdojcbaaRot
import Derived.Test.YtejmbbnhdojcbaaRep
namespace Go.Proofs.Ytejmbbnhdojcbaa
open Go.RowKit
set_option linter.unusedVariables false

/-- Is a word a power of its first n letters? -/
def per (c : List UInt8) (n : Nat) : Bool := decide (c.length % n = 0) && (c.drop n == c.take (c.length - n))
theorem rep_of_per : ∀ (q n : Nat) (c : List UInt8), c.length = (q + 1) * n → c.drop n = c.take (c.length - n) → Lib.repeatL (c.take n) (q + 1) = c
  | 0, n, c, hl, _ => by
    rw [Lib.repeatL_one, List.take_of_length_le (by omega)]
  | q + 1, n, c, hl, h => by
    have e1 : (q + 1 + 1) * n = (q + 1) * n + n := by rw [Nat.succ_mul]
    have e2 : (q + 1) * n = q * n + n := by rw [Nat.succ_mul]
    obtain ⟨d, hd⟩ : ∃ d, d = c.drop n := ⟨_, rfl⟩
    have dl : d.length = (q + 1) * n := by rw [hd, List.length_drop]; omega
    have hdt : d = c.take ((q + 1) * n) := by rw [hd, h]; congr 1; omega
    have ht : d.take n = c.take n := by rw [hdt, List.take_take]; congr 1; omega
    have hp : d.drop n = d.take (d.length - n) := by
      rw [dl]
      conv => lhs; rw [hdt]
      rw [List.drop_take, ← hd]
    have ih := rep_of_per q n d dl hp
    rw [ht] at ih
    show c.take n ++ Lib.repeatL (c.take n) (q + 1) = c
    rw [ih, hd, List.take_append_drop]
theorem per_of_rep (q n : Nat) (c : List UInt8) (hl : c.length = (q + 1) * n) (h : Lib.repeatL (c.take n) (q + 1) = c) : c.drop n = c.take (c.length - n) := by
  have e1 : (q + 1) * n = q * n + n := by rw [Nat.succ_mul]
  have hn : (c.take n).length = n := by simp; omega
  have h1 : c.drop n = Lib.repeatL (c.take n) q := by
    conv => lhs; rw [← h]
    show (c.take n ++ Lib.repeatL (c.take n) q).drop n = _
    rw [List.drop_append_of_le_length (by omega), List.drop_of_length_le (by omega)]; rfl
  have h2 : c.take (c.length - n) = Lib.repeatL (c.take n) q := by
    have := Lib.repeatL_take (c.take n) (q + 1) q (by omega)
    rw [h, hn] at this
    rw [show c.length - n = q * n by omega, this]
  rw [h1, h2]
theorem per_rep {c : List UInt8} {n : Nat} (h1 : 1 ≤ n) (h2 : n ≤ c.length) (hm : c.length % n = 0) : (Lib.repeatL (c.take n) (c.length / n) == c) = per c n := by
  obtain ⟨q, hq⟩ : ∃ q, c.length / n = q + 1 := ⟨c.length / n - 1, by have : 0 < c.length / n := Nat.div_pos h2 h1; omega⟩
  have hl : c.length = (q + 1) * n := by
    have := Nat.div_add_mod c.length n
    rw [hq, hm, Nat.mul_comm] at this
    omega
  rw [hq]
  unfold per
  rw [hm]
  by_cases h : c.drop n = c.take (c.length - n)
  · rw [rep_of_per q n c hl h, h]; simp
  · have h' : ¬ Lib.repeatL (c.take n) (q + 1) = c := fun e => h (per_of_rep q n c hl e)
    rw [beq_eq_false_iff_ne.2 h', beq_eq_false_iff_ne.2 h]; simp
/-- The length of the root. -/
def rootN (c : List UInt8) : Nat := cnt (fun n => !per c n) 1000 1
theorem per_all {c : List UInt8} (h : 1 ≤ c.length) : per c c.length = true := by
  unfold per; simp
theorem rootN_of {c : List UInt8} {k : Nat} (h1 : 1 ≤ k) (hk : k ≤ 1000) (hn : ∀ j, 1 ≤ j → j < k → per c j = false) (hp : per c k = true) : rootN c = k :=
  cnt_of 1000 1 k h1 (by omega) (fun j h1 hj => by simp [hn j h1 hj]) (by simp [hp])
theorem tmod_nat (a b : Nat) : ((a : Int).tmod b) = ((a % b : Nat) : Int) := by
  rw [Int.tmod_eq_emod_of_nonneg (by omega)]; omega
theorem tdiv_nat (a b : Nat) : ((a : Int).tdiv b) = ((a / b : Nat) : Int) := by
  rw [Int.tdiv_eq_ediv_of_nonneg (by omega)]; omega

set_option maxHeartbeats 1600000 in
theorem iRoot_yes (l : List UInt8) (hl : l.length ≤ 1048576) (hv : vld l = true) (h0 : 1 ≤ (coreOf l).length) (w : World) :
    Calls Try.prog 29 #[.string (bs l)] w fun e w' => e = .returned (.tuple #[.string (bs ((coreOf l).take (rootN (coreOf l)))), .int .i64 ((coreOf l).length / rootN (coreOf l) : Nat), .int .i64 0]) ∧ Below w.heap.size w w' := by
  have hB0 := Below.refl w.heap.size w
  have hL := (vld_iff.1 hv).1
  have h40 := (vld_iff.1 hv).2
  have c40 : (coreOf l).length ≤ 40 := by have := core_len l; omega
  have HK := Lib.hid (show ∀ w, _ from fun w => iCore_any l (by omega) hL w)
  obtain ⟨c, hc⟩ : ∃ c, c = coreOf l := ⟨_, rfl⟩
  obtain ⟨fr, hfr⟩ : ∃ fr, fr = frontOf l := ⟨_, rfl⟩
  rw [← hc, ← hfr] at HK
  rw [← hc] at c40 h0 ⊢
  clear hc hfr hL
  go_enter Try.func29, Try.ntmps29
  go_wp2_with (first
    | ((go_at_call 35); refine (iValid_any l hl _).mono ?_; rintro e w1 ⟨rfl, rfl⟩)
    | (go_at_call 51; refine (HK.out _).mono ?_; rintro e w1 ⟨rfl, hb1⟩; have hB := bl_call hb1 hB0; clear hb1))
  go_loopw [7] (fun i wr => ∃ k : Nat, 1 ≤ k ∧ k ≤ c.length ∧ i = .int .i64 k ∧ (∀ j, 1 ≤ j → j < k → per c j = false) ∧ Below w.heap.size w wr) (fun i _ => c.length + 1 - (intOf i).toNat)
  case atStart => exact ⟨1, by omega, h0, rfl, fun j h1 h2 => by omega, hB⟩
  case round =>
    obtain ⟨k, hk1, hk, rfl, hn, hb⟩ := hrel
    have HN := Lib.hid hn
    have i0 : (1 : Int) ≤ k := by omega
    have i1 : (k : Int) ≤ c.length := by omega
    have i2 : ((k : Int) == 0) = false := by rw [beq_eq_false_iff_ne]; omega
    have i3 : ¬ (k : Int) = 0 := by omega
    have hend : per c c.length = true := per_all h0
    have HE := Lib.hid hend
    clear hn hend hv
    by_cases hm : c.length % k = 0
    · have hr := per_rep hk1 hk hm
      have d : (((c.length % k : Nat) : Int) == 0) = true := by rw [hm]; rfl
      have di : (c.length : Int) % (k : Int) = 0 := by omega
      have di2 : ((c.length : Int) % (k : Int) == 0) = true := by rw [di]; rfl
      have di3 : ((c.length : Int) % (k : Int) != 0) = false := by rw [di]; rfl
      have hq : c.length / k ≤ 40 := Nat.le_trans (Nat.div_le_self _ _) c40
      have hstr : ((bs (Lib.repeatL (c.take k) (c.length / k))).toList == (bs c).toList) = per c k := by rw [bs_toList, bs_toList]; exact hr
      have htk : (c.take k).length ≤ 40 := by simp; omega
      obtain ⟨p, hp⟩ : ∃ p, p = c.take k := ⟨_, rfl⟩
      obtain ⟨q, hq'⟩ : ∃ q, q = c.length / k := ⟨_, rfl⟩
      rw [← hp, ← hq'] at hstr
      rw [← hp] at htk
      rw [← hq'] at hq
      have HP := Lib.hid hp
      have HQ := Lib.hid hq'
      have cq : (c.length : Int) / (k : Int) = (q : Int) := by rw [hq']; omega
      have cq2 : ((c.length / k : Nat) : Int) = (q : Int) := by rw [hq']
      cases hper : per c k
      · rw [hper] at hstr
        have hlt : k < c.length := by
          rcases Nat.lt_or_ge k c.length with h | h
          · exact h
          · rw [show k = c.length by omega, HE.out] at hper; exact absurd hper (by simp)
        have HPE := Lib.hid hper
        clear hr hp hq' hper hm
        go_wp2_with ((go_at_call 55); rw [← HP.out]; refine (rep_any p q (by omega) (by omega) _).mono ?_; rintro e w1 ⟨rfl, hb1⟩; have hB2 := bl_call hb1 hb; clear hb1)
        go_roundw
        case rel => exact ⟨k + 1, by omega, by omega, by go_num, fun j h1 hj => if h : j = k then h ▸ HPE.out else HN.out j h1 (by omega), hB2⟩
        case measure => simp [intOf]; omega
      · rw [hper] at hstr
        have hroot := rootN_of hk1 (by omega) HN.out hper
        have HR := Lib.hid hroot
        clear hr hp hq' hper hm hroot
        go_wp2_with ((go_at_call 55); rw [← HP.out]; refine (rep_any p q (by omega) (by omega) _).mono ?_; rintro e w1 ⟨rfl, hb1⟩; have hB2 := bl_call hb1 hb; clear hb1)
        go_ret3
        exact ⟨by rw [HR.out]; first | rfl | (rw [HQ.out]; rfl), hB2⟩
    · have hp : per c k = false := by unfold per; simp [hm]
      have HP := Lib.hid hp
      have d : (((c.length % k : Nat) : Int) == 0) = false := by rw [beq_eq_false_iff_ne]; omega
      have di : ¬ (c.length : Int) % (k : Int) = 0 := by omega
      have di2 : ((c.length : Int) % (k : Int) == 0) = false := by rw [beq_eq_false_iff_ne]; exact di
      have di3 : ((c.length : Int) % (k : Int) != 0) = true := by rw [bne, di2]; rfl
      have lt : k < c.length := by
        rcases Nat.lt_or_ge k c.length with h | h
        · exact h
        · exact absurd (show c.length % k = 0 by rw [show k = c.length by omega]; simp) hm
      clear hp hm
      go_wp2
      go_roundw
      case rel => exact ⟨k + 1, by omega, by omega, by go_num, fun j h1 hj => if h : j = k then h ▸ HP.out else HN.out j h1 (by omega), hb⟩
      case measure => simp [intOf]; omega

set_option maxHeartbeats 400000 in
theorem iRoot_nil (l : List UInt8) (hl : l.length ≤ 1048576) (hv : vld l = true) (h0 : (coreOf l).length = 0) (w : World) :
    Calls Try.prog 29 #[.string (bs l)] w fun e w' => e = .returned (.tuple #[.string (bs []), .int .i64 0, .int .i64 4]) ∧ Below w.heap.size w w' := by
  have hB0 := Below.refl w.heap.size w
  have hL := (vld_iff.1 hv).1
  have h40 := (vld_iff.1 hv).2
  have HK := Lib.hid (show ∀ w, _ from fun w => iCore_any l (by omega) hL w)
  obtain ⟨fr, hfr⟩ : ∃ fr, fr = frontOf l := ⟨_, rfl⟩
  rw [List.eq_nil_of_length_eq_zero h0, ← hfr] at HK
  clear hfr hL h0
  go_enter Try.func29, Try.ntmps29
  go_wp2_with (first
    | ((go_at_call 35); refine (iValid_any l hl _).mono ?_; rintro e w1 ⟨rfl, rfl⟩)
    | (go_at_call 51; refine (HK.out _).mono ?_; rintro e w1 ⟨rfl, hb1⟩; have hB := bl_call hb1 hB0; clear hb1))
  go_loopw [7] (fun i wr => i = .int .i64 1 ∧ Below w.heap.size w wr) (fun i _ => 0)
  case atStart => exact ⟨rfl, hB⟩
  case round =>
    obtain ⟨rfl, hb⟩ := hrel
    go_wp2
    go_ret3
    exact ⟨rfl, hb⟩




set_option maxHeartbeats 400000 in
theorem iRoot_no (l : List UInt8) (hl : l.length ≤ 1048576) (hv : vld l = false) (w : World) :
    Calls Try.prog 29 #[.string (bs l)] w fun e w' => e = .returned (.tuple #[.string (bs []), .int .i64 0, .int .i64 1]) ∧ Below w.heap.size w w' := by
  have hB0 := Below.refl w.heap.size w
  go_enter Try.func29, Try.ntmps29
  go_wp2_with (first
    | ((go_at_call 35); refine (iValid_any l hl _).mono ?_; rintro e w1 ⟨rfl, rfl⟩))
  go_ret3
  exact ⟨rfl, by assumption⟩




end Go.Proofs.Ytejmbbnhdojcbaa
