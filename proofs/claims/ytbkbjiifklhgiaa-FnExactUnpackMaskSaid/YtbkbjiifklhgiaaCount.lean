/- CountCells: the walks of both sides and of the law. Conditions: none. -/
import Derived.Test.YtbkbjiifklhgiaaCells
import Derived.Deep.QuietTactic
import Derived.BigQuiet
import Derived.Lib.Tables
import Derived.Lib.BitFns
namespace Go.Proofs.Ytbkbjiifklhgiaa
open Go.RowKit

theorem bits_and_u16 (a b : Nat) (ha : a < 65536) (hb : b < 65536) : bits .and .u16 (a : Int) (b : Int) = ((a &&& b : Nat) : Int) := by
  have hx : a &&& b < 2 ^ 16 := Nat.and_lt_two_pow _ (by omega)
  have h1 : (BitVec.ofInt 16 (a : Int)).toNat = a := by
    rw [BitVec.ofInt_natCast, BitVec.toNat_ofNat]; exact Nat.mod_eq_of_lt (by omega)
  have h2 : (BitVec.ofInt 16 (b : Int)).toNat = b := by
    rw [BitVec.ofInt_natCast, BitVec.toNat_ofNat]; exact Nat.mod_eq_of_lt (by omega)
  show IntKind.u16.wrap ((BitVec.ofInt 16 (a : Int) &&& BitVec.ofInt 16 (b : Int)).toNat : Int) = _
  rw [BitVec.toNat_and, h1, h2]
  simp only [IntKind.wrap, IntKind.bits, IntKind.signed, Bool.false_and, Bool.false_eq_true, if_false]
  omega

/-- What a list of cells is as a value. -/
theorem cells_shape {w : World} {B : Nat} {v : Value} {l : List (Nat × Nat)} (h : Cells w B v l) : ∃ g cap, v = .slice (some ⟨g, 0, none⟩) l.length cap := by
  obtain ⟨⟨_, h2⟩, hn⟩ := h
  rcases h2 with ⟨rfl, _⟩ | ⟨g, cap, cur, rfl, _⟩
  · exact absurd rfl hn
  · exact ⟨g, cap, rfl⟩
/-- A row's number, as the walk has it: a natural one below 65536. -/
theorem nth_nat (zs : List Int) (hw : ∀ z ∈ zs, (Lit.int .u16 z).wf = true) (y : Nat) : ∃ n : Nat, nth zs y = n ∧ n < 65536 := by
  unfold nth
  by_cases h : y < zs.length
  · have := bounds16 (hw _ (List.getElem_mem h))
    refine ⟨zs[y].toNat, ?_, ?_⟩
    · simp [List.getElem?_eq_getElem h]; omega
    · omega
  · exact ⟨0, by simp [List.getElem?_eq_none (by omega : zs.length ≤ y)], by omega⟩

theorem has_nat (zs : List Int) (x y n : Nat) (h : nth zs y = n) (hn : n < 65536) : has zs x y = (n / 2 ^ x % 2 == 1) := by
  have e : (n : Int) / 2 ^ x = ((n / 2 ^ x : Nat) : Int) := by simp
  have hlt : n / 2 ^ x < 65536 := Nat.lt_of_le_of_lt (Nat.div_le_self _ _) hn
  unfold has
  rw [h, e, show (1 : Int) = ((1 : Nat) : Int) from rfl, bits_and_u16 _ _ hlt (by omega), Nat.and_one_is_mod]
  rw [Bool.eq_iff_iff]
  simp only [beq_iff_eq]
  omega

/-- The number of ones in the lowest i places. -/
def ones : Nat → Nat → Nat
  | 0, _ => 0
  | i + 1, z => ones i z + z / 2 ^ i % 2
theorem ones_le (i z : Nat) : ones i z ≤ i := by
  induction i with
  | zero => simp [ones]
  | succ i ih => simp only [ones]; have := Nat.mod_lt (z / 2 ^ i) (show 0 < 2 by omega); omega
theorem ones_in (zs : List Int) (y n x : Nat) (h : nth zs y = n) (hn : n < 65536) : (cellsIn zs y x).length = ones x n := by
  induction x with
  | zero => rfl
  | succ x ih =>
    rw [cellsIn_snoc, List.length_append, ih, has_nat zs x y n h hn, ones]
    have := Nat.mod_lt (n / 2 ^ x) (show 0 < 2 by omega)
    by_cases e : n / 2 ^ x % 2 = 1
    · simp [e]
    · have e0 : n / 2 ^ x % 2 = 0 := by omega
      simp [e0]
theorem ones_low (k z : Nat) : ∀ i, i ≤ k → ones i z = ones i (z % 2 ^ k) := by
  intro i
  induction i with
  | zero => intro _; rfl
  | succ i ih =>
    intro h
    have e : 2 ^ k = 2 ^ i * 2 ^ (k - i) := by rw [← Nat.pow_add]; congr 1; omega
    have d : 2 ∣ 2 ^ (k - i) := by rw [show k - i = (k - i - 1) + 1 by omega, Nat.pow_succ]; exact Nat.dvd_mul_left _ _
    simp only [ones]
    rw [← ih (by omega), e, Nat.mod_mul_right_div_self, Nat.mod_mod_of_dvd _ d]
theorem ones_high (z k : Nat) : ∀ i, ones (k + i) z = ones k z + ones i (z / 2 ^ k) := by
  intro i
  induction i with
  | zero => simp [ones]
  | succ i ih =>
    rw [show k + (i + 1) = (k + i) + 1 by omega]
    simp only [ones]
    rw [ih, Nat.div_div_eq_div_mul, ← Nat.pow_add]
    omega
theorem ones_two (z : Nat) : ones 16 z = ones 8 (z / 256) + ones 8 (z % 256) := by
  have h := ones_high z 8 8
  have h2 := ones_low 8 z 8 (by omega)
  simp only [Nat.reducePow, Nat.reduceAdd] at h h2
  rw [h, h2]; omega
theorem tab_ones : (List.range 256).all (fun b => ((Lib.pop8tab[b]?).getD 0).toNat == ones 8 b) = true := by decide +kernel
theorem pop8_ones (b : Nat) (hb : b < 256) : Lib.pop8 (b : Int) = (ones 8 b : Nat) := by
  have := List.all_eq_true.1 tab_ones b (List.mem_range.2 hb)
  simp only [beq_iff_eq] at this
  unfold Lib.pop8
  rw [← this]
  simp

set_option maxRecDepth 100000 in
set_option maxHeartbeats 800000 in
theorem ones_any (z : Nat) (hz : z < 65536) (w : World) :
    Calls Try.prog 73 #[.int .u16 z] w fun e w' => e = .returned (.int .i64 (ones 16 z : Nat)) ∧ ∃ n, w' = w.drewN n := by
  have h1 : (0 : Int) ≤ z := by omega
  have h2 : (z : Int) < 65536 := by omega
  have h3 : (0 : Int) ≤ z / 256 := by omega
  have h4 : (z : Int) / 256 ≤ 255 := by omega
  have e5 : bits BinOp.and IntKind.u16 z 255 = ((z % 256 : Nat) : Int) := by
    rw [show (255 : Int) = ((255 : Nat) : Int) from rfl, bits_and_u16 _ _ hz (by omega), show (255 : Nat) = 2 ^ 8 - 1 from rfl, Nat.and_two_pow_sub_one_eq_mod]
  have h5 : (0 : Int) ≤ bits BinOp.and IntKind.u16 z 255 := by rw [e5]; omega
  have h6 : bits BinOp.and IntKind.u16 z 255 ≤ 255 := by rw [e5]; omega
  have q1 := ones_le 8 (z / 256)
  have q2 := ones_le 8 (z % 256)
  have q : (Lib.pop8 (z / 256) + Lib.pop8 (bits BinOp.and IntKind.u16 z 255)) % 256 = (ones 16 z : Nat) := by
    rw [e5, show (z : Int) / 256 = ((z / 256 : Nat) : Int) by simp, pop8_ones _ (by omega), pop8_ones _ (by omega), ones_two]
    omega
  have HQ := Lib.hid q
  clear q q1 q2 e5
  go_enter Try.func73, Try.ntmps73
  go_wp2
  go_quiet (fail)
  go_wp2
  go_ret
  refine ⟨?_, _, rfl⟩
  rw [← HQ.out]
  rfl

set_option maxHeartbeats 800000 in
theorem iCount (zs : List Int) (hz : zs.length = 16) (hw : ∀ z ∈ zs, (Lit.int .u16 z).wf = true) (w : World) :
    Calls Try.prog 30 #[.agg (mk zs)] w fun e w' => e = .returned (.int .i64 ((cellsTo zs 16).length : Nat)) ∧ Below w.heap.size w w' := by
  have hi := infoSize26 zs hz
  go_enter Try.func30, Try.ntmps30
  go_wp2_with (refine wpList_load_row rfl 26 (.tmp 1) rfl w.heap.size rfl 26 (mk zs) (0, 0) _ (one_first _ _) Try.underlying26 rfl hi ?_)
  go_loopw [3, 7] (fun s y wr => ∃ k : Nat, k ≤ 16 ∧ y = .int .i64 k ∧ s = .int .i64 ((cellsTo zs k).length : Nat) ∧ Below w.heap.size w wr) (fun _ y _ => 16 - (intOf y).toNat)
  case atStart => exact ⟨0, by omega, rfl, rfl, below_al (Below.refl _ _) (Nat.le_refl _) _⟩
  case round =>
    obtain ⟨k, hk, rfl, rfl, hbel⟩ := hrel
    by_cases hlt : k < 16
    · have tl := cellsTo_len zs k
      have i1 : (k : Int) < 16 := by omega
      have hix := run_index_mk zs hz k hlt
      obtain ⟨n, hn, hn2⟩ := nth_nat zs hw k
      rw [hn] at hix
      have c1 := ones_in zs k n 16 hn hn2
      have c2 := cellsTo_snoc zs k
      have l1 := ones_le 16 n
      have e : (cellsTo zs (k + 1)).length = (cellsTo zs k).length + ones 16 n := by rw [c2, List.length_append, c1]
      have HE := Lib.hid e
      have b1 : (cellsTo zs k).length + ones 16 n ≤ 1000 := by omega
      clear c1 c2 e hn tl
      obtain ⟨m, hm⟩ : ∃ m, m = (cellsTo zs k).length := ⟨_, rfl⟩
      rw [← hm] at b1 ⊢
      have HM := Lib.hid hm
      clear hm
      have hb2 : (0 : Int) ≤ (ones 16 n : Nat) := by omega
      have b2 : (m : Int) + (ones 16 n : Nat) ≤ 1000 := by omega
      go_wp2_with (go_at_call 73; refine (ones_any n hn2 _).mono ?_; rintro e w1 ⟨rfl, nq, rfl⟩)
      go_roundw
      case rel => exact ⟨k + 1, by omega, by go_num, by rw [HE.out, ← HM.out]; go_num, below_drewN hbel _⟩
      case measure => simp [intOf]; omega
    · obtain rfl : k = 16 := by omega
      go_wp2
      go_ret
      exact ⟨rfl, hbel⟩

set_option maxHeartbeats 400000 in
theorem sCount (zs : List Int) (hz : zs.length = 16) (w : World) :
    Calls Try.prog 29 #[.agg (mk zs)] w fun e w' => e = .returned (.int .i64 ((cellsTo zs 16).length : Nat)) ∧ Below w.heap.size w w' := by
  have S0 := St.one w (.cells (mk zs) 26)
  have hi := infoSize26 zs hz
  have tl := cellsTo_len zs 16
  have b1 : ((cellsTo zs 16).length : Int) ≤ 256 := by omega
  go_enter Try.func29, Try.ntmps29
  go_wp2_with (first
    | (go_at_call 47; refine (sCells zs hz _).mono ?_; rintro e w1 ⟨v, rfl, hc, hb⟩; obtain ⟨g, cap, hv⟩ := cells_shape hc; subst hv; have hS := St.call hb (by assumption); clear hb hc)
    | (refine wpList_load_row rfl 26 (.tmp 1) rfl w.heap.size rfl 26 (mk zs) (0, 0) _ (St.get (by assumption) 0 rfl) Try.underlying26 rfl hi ?_))
  go_ret
  exact ⟨rfl, St.below (by assumption)⟩

set_option maxHeartbeats 400000 in
theorem countWalk (zs : List Int) (w : World) (hz : zs.length = 16) (hw : ∀ z ∈ zs, (Lit.int .u16 z).wf = true) :
    Calls Try.prog 7 #[.agg (zs.map (Value.int .u16)).toArray] w fun e w' => e = .returned (.bool true) ∧ Below w.heap.size w w' := by
  show Calls Try.prog 7 #[.agg (mk zs)] w _
  have S0 := St.one w (.cells (mk zs) 23)
  have hi := infoSize23 zs hz
  have KS := sCount zs hz
  have KI := iCount zs hz hw
  generalize (cellsTo zs 16).length = t at *
  have HS := Lib.hid KS
  have HI := Lib.hid KI
  clear KS KI
  go_enter Try.func7, Try.ntmps7
  go_wp2_with (first
      | (go_at_call 20; refine (toMask_any zs hz _).mono ?_; rintro e w1 ⟨rfl, hb⟩; have hS := St.call hb (by assumption); clear hb)
      | (go_at_call 29; refine (HS.out _).mono ?_; rintro e w1 ⟨rfl, hb⟩; have hS := St.call hb (by assumption); clear hb)
      | (go_at_call 30; refine (HI.out _).mono ?_; rintro e w1 ⟨rfl, hb⟩; have hS := St.call hb (by assumption); clear hb)
      | (refine wpList_load_row rfl 23 (.tmp 1) rfl w.heap.size rfl 23 (mk zs) (0, 0) _ (St.get (by assumption) 0 rfl) Try.underlying23 rfl hi ?_))
  go_ret
  exact ⟨rfl, St.below (by assumption)⟩

end Go.Proofs.Ytbkbjiifklhgiaa
