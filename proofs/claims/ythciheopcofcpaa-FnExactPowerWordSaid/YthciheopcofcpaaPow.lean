/- PowerWord: the walks of both sides and of the law. Conditions: none. -/
import Derived.Test.YthciheopcofcpaaWay
import Derived.Test.YthciheopcofcpaaRep
namespace Go.Proofs.Ythciheopcofcpaa
open Go.RowKit
set_option linter.unusedVariables false

/-- A reduced word that must not be too long, and its code. -/
def tl (r : List UInt8) : List UInt8 := if r.length ≤ 40 then r else []
def tc (r : List UInt8) : Int := if r.length ≤ 40 then 0 else 3
theorem told_any (l : List UInt8) (w : World) :
    Calls Try.prog 52 #[.string (bs l)] w fun e w' => e = .returned (.tuple #[.string (bs (tl l)), .int .i64 (tc l)]) ∧ Below w.heap.size w w' := by
  unfold tl tc
  by_cases h : l.length ≤ 40
  · rw [if_pos h, if_pos h]; exact told_yes l h w
  · rw [if_neg h, if_neg h]; exact told_no l (by omega) w
theorem orLong_any (l : List UInt8) (hl : l.length ≤ 1048576) (w : World) :
    Calls Try.prog 70 #[.string (bs l)] w fun e w' => e = .returned (.tuple #[.string (bs (tl (Wd.red l))), .int .i64 (tc (Wd.red l))]) ∧ Below w.heap.size w w' := by
  unfold tl tc
  by_cases h : (Wd.red l).length ≤ 40
  · rw [if_pos h, if_pos h]; exact orLong_yes l hl h w
  · rw [if_neg h, if_neg h]; exact orLong_no l hl (by omega) w

/-- The letters of a power, not reduced. -/
def powLetters (l : List UInt8) (n : Int) : List UInt8 := if n < 0 then Lib.repeatL (Wd.inv l) (-n).toNat else Lib.repeatL l n.toNat
theorem rep_snoc (u : List UInt8) (k : Nat) : Lib.repeatL u (k + 1) = Lib.repeatL u k ++ u := by
  rw [Lib.repeatL_add, Lib.repeatL_one]
theorem red_rep (u : List UInt8) (k : Nat) : Wd.red (Wd.red (Lib.repeatL u k) ++ u) = Wd.red (Lib.repeatL u (k + 1)) := by
  rw [rep_snoc, Wd.red_append_left]
theorem rep_all {u : List UInt8} (h : ∀ x ∈ u, Wd.isL x = true) : ∀ k x, x ∈ Lib.repeatL u k → Wd.isL x = true
  | 0, x, hx => by simp [Lib.repeatL] at hx
  | k + 1, x, hx => by
    unfold Lib.repeatL at hx
    rcases List.mem_append.1 hx with hx | hx
    · exact h x hx
    · exact rep_all h k x hx
theorem rep_len {u : List UInt8} (h : u.length ≤ 40) {k : Nat} (hk : k ≤ 40) : (Lib.repeatL u k).length ≤ 1600 := by
  rw [Lib.repeatL_length]
  exact Nat.le_trans (Nat.mul_le_mul hk h) (by omega)

set_option maxHeartbeats 1600000 in
theorem sPow_pos (l : List UInt8) (hl : l.length ≤ 1048576) (hv : vld l = true) (m : Nat) (hm : m ≤ 40) (w : World) :
    Calls Try.prog 37 #[.string (bs l), .int .i64 (m : Int)] w fun e w' => e = .returned (.tuple #[.string (bs (tl (Wd.red (Lib.repeatL l m)))), .int .i64 (tc (Wd.red (Lib.repeatL l m)))]) ∧ Below w.heap.size w w' := by
  have hB0 := Below.refl w.heap.size w
  have hL := (vld_iff.1 hv).1
  have h40 := (vld_iff.1 hv).2
  have HL := Lib.hid hL
  clear hL
  have a1 : (-40 : Int) ≤ (m : Int) := by omega
  have a2 : (m : Int) ≤ (40 : Int) := by omega
  have a3 : ¬ (m : Int) < 0 := by omega
  obtain ⟨u, hu⟩ : ∃ u, u = l := ⟨_, rfl⟩
  have u40 : u.length ≤ 40 := by rw [hu]; exact h40
  have UL := Lib.hid (show ∀ x ∈ u, Wd.isL x = true by rw [hu]; exact HL.out)
  have HU := Lib.hid hu
  go_enter Try.func37, Try.ntmps37
  go_wp2_with (first
    | ((go_at_call 46); refine (ok_any l hl _).mono ?_; rintro e w1 ⟨rfl, rfl⟩)
    | ((go_at_call 65); refine (sIn_in _ _ _ a1 a2 _).mono ?_; rintro e w1 ⟨rfl, rfl⟩)
)
  rw [← hu]
  clear hu
  go_loopw [1, 6] (fun i o wr => ∃ k : Nat, k ≤ m ∧ i = .int .i64 ((m : Int) - k) ∧ o = .string (bs (Wd.red (Lib.repeatL u k))) ∧ Below w.heap.size w wr) (fun i _ _ => (intOf i).toNat)
  case atStart => exact ⟨0, by omega, by first | rfl | (congr 1; omega), rfl, by assumption⟩
  case round =>
    obtain ⟨k, hk, rfl, rfl, hb⟩ := hrel
    by_cases g1 : k < m
    · have i1 : (0 : Int) < (m : Int) - k := by omega
      have hr := red_rep u k
      have hlen := rep_len u40 (k := k) (by omega)
      have hrl := (Wd.red_length (Lib.repeatL u k)).1
      have hall : ∀ x ∈ Wd.red (Lib.repeatL u k) ++ u, Wd.isL x = true := fun x hx => (List.mem_append.1 hx).elim (fun h => rep_all UL.out k x (Wd.mem_red _ _ h)) (UL.out x)
      obtain ⟨v, hv'⟩ : ∃ v, v = Wd.red (Lib.repeatL u k) := ⟨_, rfl⟩
      rw [← hv'] at hr hrl hall ⊢
      have HR := Lib.hid hr
      have HV := Lib.hid hv'
      have HA := Lib.hid hall
      have hvl : (v ++ u).length ≤ 1048576 := by simp; omega
      have HVL := Lib.hid hvl
      have i5 : v.length ≤ 1600 := by omega
      clear hr hv' hall hvl hlen hrl
      go_wp2_with ((go_at_call 67); refine (sRed_any (v ++ u) HVL.out HA.out _).mono ?_; rintro e w1 ⟨rfl, hb1⟩; have hB2 := bl_call hb1 hb; clear hb1)
      go_roundw
      case rel => exact ⟨k + 1, by omega, by congr 1; omega, by rw [HR.out], hB2⟩
      case measure => simp [intOf]; omega
    · obtain rfl : k = m := by omega
      have i1 : ¬ (0 : Int) < (k : Int) - k := by omega
      have i2 : ((k : Int) - k) = 0 := by omega
      rw [i2]
      go_wp2_with ((go_at_call 52); refine (told_any _ _).mono ?_; rintro e w1 ⟨rfl, hb1⟩; have hB2 := bl_call hb1 hb; clear hb1)
      go_ret2
      exact ⟨by rw [HU.out]; rfl, hB2⟩

set_option maxHeartbeats 1600000 in
theorem iPow_pos (l : List UInt8) (hl : l.length ≤ 1048576) (hv : vld l = true) (m : Nat) (hm : m ≤ 40) (w : World) :
    Calls Try.prog 38 #[.string (bs l), .int .i64 (m : Int)] w fun e w' => e = .returned (.tuple #[.string (bs (tl (Wd.red (Lib.repeatL l m)))), .int .i64 (tc (Wd.red (Lib.repeatL l m)))]) ∧ Below w.heap.size w w' := by
  have hB0 := Below.refl w.heap.size w
  have h40 := (vld_iff.1 hv).2
  have i40 : (Wd.inv l).length ≤ 40 := by rw [Wd.inv_length]; exact h40
  have r1 := rep_len (u := l) (by omega) hm
  have a1 : (-40 : Int) ≤ (m : Int) := by omega
  have a2 : (m : Int) ≤ (40 : Int) := by omega
  have a3 : ¬ (m : Int) < 0 := by omega
  go_enter Try.func38, Try.ntmps38
  go_wp2_with (first
    | ((go_at_call 42); refine (iValid_any l hl _).mono ?_; rintro e w1 ⟨rfl, rfl⟩)
    | ((go_at_call 68); refine (iIn_in _ _ _ a1 a2 _).mono ?_; rintro e w1 ⟨rfl, rfl⟩)
    | ((go_at_call 64); refine (rep_any l m (by omega) (by omega) _).mono ?_; rintro e w1 ⟨rfl, hb1⟩; have hB2 := bl_call hb1 (by assumption); clear hb1)
    | ((go_at_call 70); refine (orLong_any _ (by omega) _).mono ?_; rintro e w1 ⟨rfl, hb1⟩; have hB3 := bl_call hb1 (by assumption); clear hb1))
  go_ret2
  exact ⟨rfl, by assumption⟩

set_option maxHeartbeats 1600000 in
theorem sPow_neg (l : List UInt8) (hl : l.length ≤ 1048576) (hv : vld l = true) (m : Nat) (h0 : 0 < m) (hm : m ≤ 40) (w : World) :
    Calls Try.prog 37 #[.string (bs l), .int .i64 (-(m : Int))] w fun e w' => e = .returned (.tuple #[.string (bs (tl (Wd.red (Lib.repeatL (Wd.inv l) m)))), .int .i64 (tc (Wd.red (Lib.repeatL (Wd.inv l) m)))]) ∧ Below w.heap.size w w' := by
  have hB0 := Below.refl w.heap.size w
  have hL := (vld_iff.1 hv).1
  have h40 := (vld_iff.1 hv).2
  have HL := Lib.hid hL
  clear hL
  have a1 : (-40 : Int) ≤ (-(m : Int)) := by omega
  have a2 : (-(m : Int)) ≤ (40 : Int) := by omega
  have a3 : -(m : Int) < 0 := by omega
  obtain ⟨u, hu⟩ : ∃ u, u = (Wd.inv l) := ⟨_, rfl⟩
  have u40 : u.length ≤ 40 := by rw [hu]; rw [Wd.inv_length]; exact h40
  have UL := Lib.hid (show ∀ x ∈ u, Wd.isL x = true by rw [hu]; exact Wd.all_inv HL.out)
  have HU := Lib.hid hu
  go_enter Try.func37, Try.ntmps37
  go_wp2_with (first
    | ((go_at_call 46); refine (ok_any l hl _).mono ?_; rintro e w1 ⟨rfl, rfl⟩)
    | ((go_at_call 65); refine (sIn_in _ _ _ a1 a2 _).mono ?_; rintro e w1 ⟨rfl, rfl⟩)
    | ((go_at_call 66); refine (sInv_any l hl HL.out _).mono ?_; rintro e w1 ⟨rfl, hb1⟩; have hB := bl_call hb1 (by assumption); clear hb1)
)
  rw [← hu]
  clear hu
  go_loopw [1, 6] (fun i o wr => ∃ k : Nat, k ≤ m ∧ i = .int .i64 ((m : Int) - k) ∧ o = .string (bs (Wd.red (Lib.repeatL u k))) ∧ Below w.heap.size w wr) (fun i _ _ => (intOf i).toNat)
  case atStart => exact ⟨0, by omega, by first | rfl | (congr 1; omega), rfl, by assumption⟩
  case round =>
    obtain ⟨k, hk, rfl, rfl, hb⟩ := hrel
    by_cases g1 : k < m
    · have i1 : (0 : Int) < (m : Int) - k := by omega
      have hr := red_rep u k
      have hlen := rep_len u40 (k := k) (by omega)
      have hrl := (Wd.red_length (Lib.repeatL u k)).1
      have hall : ∀ x ∈ Wd.red (Lib.repeatL u k) ++ u, Wd.isL x = true := fun x hx => (List.mem_append.1 hx).elim (fun h => rep_all UL.out k x (Wd.mem_red _ _ h)) (UL.out x)
      obtain ⟨v, hv'⟩ : ∃ v, v = Wd.red (Lib.repeatL u k) := ⟨_, rfl⟩
      rw [← hv'] at hr hrl hall ⊢
      have HR := Lib.hid hr
      have HV := Lib.hid hv'
      have HA := Lib.hid hall
      have hvl : (v ++ u).length ≤ 1048576 := by simp; omega
      have HVL := Lib.hid hvl
      have i5 : v.length ≤ 1600 := by omega
      clear hr hv' hall hvl hlen hrl
      go_wp2_with ((go_at_call 67); refine (sRed_any (v ++ u) HVL.out HA.out _).mono ?_; rintro e w1 ⟨rfl, hb1⟩; have hB2 := bl_call hb1 hb; clear hb1)
      go_roundw
      case rel => exact ⟨k + 1, by omega, by congr 1; omega, by rw [HR.out], hB2⟩
      case measure => simp [intOf]; omega
    · obtain rfl : k = m := by omega
      have i1 : ¬ (0 : Int) < (k : Int) - k := by omega
      have i2 : ((k : Int) - k) = 0 := by omega
      rw [i2]
      go_wp2_with ((go_at_call 52); refine (told_any _ _).mono ?_; rintro e w1 ⟨rfl, hb1⟩; have hB2 := bl_call hb1 hb; clear hb1)
      go_ret2
      exact ⟨by rw [HU.out]; rfl, hB2⟩

set_option maxHeartbeats 1600000 in
theorem iPow_neg (l : List UInt8) (hl : l.length ≤ 1048576) (hv : vld l = true) (m : Nat) (h0 : 0 < m) (hm : m ≤ 40) (w : World) :
    Calls Try.prog 38 #[.string (bs l), .int .i64 (-(m : Int))] w fun e w' => e = .returned (.tuple #[.string (bs (tl (Wd.red (Lib.repeatL (Wd.inv l) m)))), .int .i64 (tc (Wd.red (Lib.repeatL (Wd.inv l) m)))]) ∧ Below w.heap.size w w' := by
  have hB0 := Below.refl w.heap.size w
  have h40 := (vld_iff.1 hv).2
  have i40 : (Wd.inv l).length ≤ 40 := by rw [Wd.inv_length]; exact h40
  have r1 := rep_len (u := (Wd.inv l)) (by omega) hm
  have a1 : (-40 : Int) ≤ (-(m : Int)) := by omega
  have a2 : (-(m : Int)) ≤ (40 : Int) := by omega
  have a3 : -(m : Int) < 0 := by omega
  go_enter Try.func38, Try.ntmps38
  go_wp2_with (first
    | ((go_at_call 42); refine (iValid_any l hl _).mono ?_; rintro e w1 ⟨rfl, rfl⟩)
    | ((go_at_call 68); refine (iIn_in _ _ _ a1 a2 _).mono ?_; rintro e w1 ⟨rfl, rfl⟩)
    | ((go_at_call 69); refine (iInv_any l hl _).mono ?_; rintro e w1 ⟨rfl, hb1⟩; have hB := bl_call hb1 (by assumption); clear hb1)
    | ((go_at_call 64); refine (rep_any (Wd.inv l) m (by omega) (by omega) _).mono ?_; rintro e w1 ⟨rfl, hb1⟩; have hB2 := bl_call hb1 (by assumption); clear hb1)
    | ((go_at_call 70); refine (orLong_any _ (by omega) _).mono ?_; rintro e w1 ⟨rfl, hb1⟩; have hB3 := bl_call hb1 (by assumption); clear hb1))
  go_ret2
  exact ⟨rfl, by assumption⟩

set_option maxHeartbeats 400000 in
theorem sPow_no (l : List UInt8) (hl : l.length ≤ 1048576) (n : Int) (hv : vld l = false) (w : World) :
    Calls Try.prog 37 #[.string (bs l), .int .i64 n] w fun e w' => e = .returned (.tuple #[.string (bs []), .int .i64 1]) ∧ Below w.heap.size w w' := by
  have hB0 := Below.refl w.heap.size w
  go_enter Try.func37, Try.ntmps37
  go_wp2_with (first
    | ((go_at_call 46); refine (ok_any l hl _).mono ?_; rintro e w1 ⟨rfl, rfl⟩))
  go_ret2
  exact ⟨rfl, by assumption⟩

set_option maxHeartbeats 400000 in
theorem sPow_lo (l : List UInt8) (hl : l.length ≤ 1048576) (n : Int) (hv : vld l = true) (h : n < -40) (w : World) :
    Calls Try.prog 37 #[.string (bs l), .int .i64 n] w fun e w' => e = .returned (.tuple #[.string (bs []), .int .i64 2]) ∧ Below w.heap.size w w' := by
  have hB0 := Below.refl w.heap.size w
  go_enter Try.func37, Try.ntmps37
  go_wp2_with (first
    | ((go_at_call 46); refine (ok_any l hl _).mono ?_; rintro e w1 ⟨rfl, rfl⟩)
    | ((go_at_call 65); refine (sIn_lo n _ _ h _).mono ?_; rintro e w1 ⟨rfl, rfl⟩))
  go_ret2
  exact ⟨rfl, by assumption⟩

set_option maxHeartbeats 400000 in
theorem sPow_hi (l : List UInt8) (hl : l.length ≤ 1048576) (n : Int) (hv : vld l = true) (h : 40 < n) (w : World) :
    Calls Try.prog 37 #[.string (bs l), .int .i64 n] w fun e w' => e = .returned (.tuple #[.string (bs []), .int .i64 2]) ∧ Below w.heap.size w w' := by
  have hB0 := Below.refl w.heap.size w
  go_enter Try.func37, Try.ntmps37
  go_wp2_with (first
    | ((go_at_call 46); refine (ok_any l hl _).mono ?_; rintro e w1 ⟨rfl, rfl⟩)
    | ((go_at_call 65); refine (sIn_hi n _ _ (by omega) h _).mono ?_; rintro e w1 ⟨rfl, rfl⟩))
  go_ret2
  exact ⟨rfl, by assumption⟩

set_option maxHeartbeats 400000 in
theorem iPow_no (l : List UInt8) (hl : l.length ≤ 1048576) (n : Int) (hv : vld l = false) (w : World) :
    Calls Try.prog 38 #[.string (bs l), .int .i64 n] w fun e w' => e = .returned (.tuple #[.string (bs []), .int .i64 1]) ∧ Below w.heap.size w w' := by
  have hB0 := Below.refl w.heap.size w
  go_enter Try.func38, Try.ntmps38
  go_wp2_with (first
    | ((go_at_call 42); refine (iValid_any l hl _).mono ?_; rintro e w1 ⟨rfl, rfl⟩))
  go_ret2
  exact ⟨rfl, by assumption⟩

set_option maxHeartbeats 400000 in
theorem iPow_lo (l : List UInt8) (hl : l.length ≤ 1048576) (n : Int) (hv : vld l = true) (h : n < -40) (w : World) :
    Calls Try.prog 38 #[.string (bs l), .int .i64 n] w fun e w' => e = .returned (.tuple #[.string (bs []), .int .i64 2]) ∧ Below w.heap.size w w' := by
  have hB0 := Below.refl w.heap.size w
  go_enter Try.func38, Try.ntmps38
  go_wp2_with (first
    | ((go_at_call 42); refine (iValid_any l hl _).mono ?_; rintro e w1 ⟨rfl, rfl⟩)
    | ((go_at_call 68); refine (iIn_lo n _ _ h _).mono ?_; rintro e w1 ⟨rfl, rfl⟩))
  go_ret2
  exact ⟨rfl, by assumption⟩

set_option maxHeartbeats 400000 in
theorem iPow_hi (l : List UInt8) (hl : l.length ≤ 1048576) (n : Int) (hv : vld l = true) (h : 40 < n) (w : World) :
    Calls Try.prog 38 #[.string (bs l), .int .i64 n] w fun e w' => e = .returned (.tuple #[.string (bs []), .int .i64 2]) ∧ Below w.heap.size w w' := by
  have hB0 := Below.refl w.heap.size w
  go_enter Try.func38, Try.ntmps38
  go_wp2_with (first
    | ((go_at_call 42); refine (iValid_any l hl _).mono ?_; rintro e w1 ⟨rfl, rfl⟩)
    | ((go_at_call 68); refine (iIn_hi n _ _ (by omega) h _).mono ?_; rintro e w1 ⟨rfl, rfl⟩))
  go_ret2
  exact ⟨rfl, by assumption⟩

set_option maxHeartbeats 400000 in
theorem powLaw (l : List UInt8) (hl : l.length ≤ 1048576) (n : Int) (r : List UInt8) (c : Int)
    (hs : ∀ w, Calls Try.prog 37 #[.string (bs l), .int .i64 n] w fun e w' => e = .returned (.tuple #[.string (bs r), .int .i64 c]) ∧ Below w.heap.size w w')
    (hm : ∀ w, Calls Try.prog 38 #[.string (bs l), .int .i64 n] w fun e w' => e = .returned (.tuple #[.string (bs r), .int .i64 c]) ∧ Below w.heap.size w w') (w : World) :
    Calls Try.prog 12 #[.string (bs l), .int .i64 n] w fun e w' => e = .returned (.bool true) ∧ Below w.heap.size w w' := by
  have hB0 := Below.refl w.heap.size w
  have KS := Lib.hid hs
  have KI := Lib.hid hm
  clear hs hm
  have hn : ¬ (1048576 : Int) < l.length := by omega
  go_enter Try.func12, Try.ntmps12
  go_wp2_with (first
    | ((go_at_call 37); refine (KS.out _).mono ?_; rintro e w1 ⟨rfl, hb1⟩; have hB := bl_call hb1 (by assumption); clear hb1)
    | ((go_at_call 38); refine (KI.out _).mono ?_; rintro e w1 ⟨rfl, hb1⟩; have hB := bl_call hb1 (by assumption); clear hb1))
  go_ret
  exact ⟨rfl, by assumption⟩

set_option maxHeartbeats 400000 in
theorem powBig (l : List UInt8) (n : Int) (hl : 1048576 < l.length) (w : World) :
    Calls Try.prog 12 #[.string (bs l), .int .i64 n] w fun e w' => e = .returned (.bool true) ∧ Below w.heap.size w w' := by
  have hb : (1048576 : Int) < l.length := by omega
  go_enter Try.func12, Try.ntmps12
  go_wp2
  go_ret
  exact ⟨rfl, Below.refl _ _⟩

theorem powWalk (s : ByteArray) (n : Int) (w : World) (_ : s.size ≤ maxLen) (_ : (Lit.int .i64 n).wf = true) : Calls Try.prog 12 #[.string s, .int .i64 n] w fun e w' => e = .returned (.bool true) ∧ Below w.heap.size w w' := by
  obtain ⟨l, rfl⟩ := bs_of s
  by_cases hl : l.length ≤ 1048576
  · cases hv : vld l
    · exact powLaw l hl n _ _ (fun w => sPow_no l hl n hv w) (fun w => iPow_no l hl n hv w) w
    · by_cases h1 : n < -40
      · exact powLaw l hl n _ _ (fun w => sPow_lo l hl n hv h1 w) (fun w => iPow_lo l hl n hv h1 w) w
      · by_cases h2 : 40 < n
        · exact powLaw l hl n _ _ (fun w => sPow_hi l hl n hv h2 w) (fun w => iPow_hi l hl n hv h2 w) w
        · by_cases h3 : n < 0
          · obtain ⟨m, rfl⟩ : ∃ m : Nat, n = -(m : Int) := ⟨(-n).toNat, by omega⟩
            exact powLaw l hl _ _ _ (fun w => sPow_neg l hl hv m (by omega) (by omega) w) (fun w => iPow_neg l hl hv m (by omega) (by omega) w) w
          · obtain ⟨m, rfl⟩ : ∃ m : Nat, n = (m : Int) := ⟨n.toNat, by omega⟩
            exact powLaw l hl _ _ _ (fun w => sPow_pos l hl hv m (by omega) w) (fun w => iPow_pos l hl hv m (by omega) w) w
  · exact powBig l n (by omega) w

end Go.Proofs.Ythciheopcofcpaa
