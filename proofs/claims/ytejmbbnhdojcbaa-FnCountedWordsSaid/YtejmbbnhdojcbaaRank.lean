/- RankReduced: the walks of both sides and of the law. Conditions: none. -/
import Derived.Test.YtejmbbnhdojcbaaGen
import Derived.Test.YtejmbbnhdojcbaaSlb
namespace Go.Proofs.Ytejmbbnhdojcbaa
open Go.RowKit
set_option linter.unusedVariables false

theorem let_xor : ∀ x : Nat, x < 8 → atb letters (x ^^^ 1) = Wd.oth (atb letters x) ∧ x ^^^ 1 < 8 := by decide +kernel
/-- May a letter stand at a place of a reduced word? -/
def fre (l : List UInt8) (i x : Nat) : Bool := decide (i = 0) || (atb l (i - 1) != Wd.oth (atb letters x))
/-- The rank's part at place i, the first x letters. -/
def inS (g : Int) (l : List UInt8) (i : Nat) : Nat → Int
  | 0 => 0
  | x + 1 => inS g l i x + (if fre l i x then wy g true (l.length - i - 1) else 0)
/-- The rank's part before place i. -/
def rkTo (g : Int) (l : List UInt8) : Nat → Int
  | 0 => 0
  | i + 1 => rkTo g l i + inS g l i (lnoN (atb l i))
theorem inS_lim {g : Int} {l : List UInt8} {i : Nat} (hg : 1 ≤ g) (hg4 : g ≤ 4) (hl : l.length ≤ 12) : ∀ x : Nat, 0 ≤ inS g l i x ∧ inS g l i x ≤ 68719476736 * (x : Int)
  | 0 => by simp [inS]
  | x + 1 => by
    obtain ⟨h1, h2⟩ := inS_lim (i := i) hg hg4 hl x
    obtain ⟨w1, w2⟩ := wy_lim (b := true) hg hg4 (l.length - i - 1) (by omega)
    unfold inS
    split <;> omega
theorem rkTo_lim {g : Int} {l : List UInt8} (hg : 1 ≤ g) (hg4 : g ≤ 4) (hl : l.length ≤ 12) (hL : ∀ x ∈ l, Wd.isL x = true) : ∀ k : Nat, k ≤ l.length → 0 ≤ rkTo g l k ∧ rkTo g l k ≤ 549755813888 * (k : Int)
  | 0, _ => by simp [rkTo]
  | k + 1, hk => by
    obtain ⟨h1, h2⟩ := rkTo_lim hg hg4 hl hL k (by omega)
    obtain ⟨a1, _⟩ := letter_at (atb l k) (vld_at hL (by omega))
    obtain ⟨w1, w2⟩ := inS_lim (l := l) (i := k) hg hg4 hl (lnoN (atb l k))
    unfold rkTo
    omega
theorem lno_N {c : UInt8} (h : Wd.isL c = true) : lno c = (lnoN c : Nat) ∧ lnoN c < 8 := by
  obtain ⟨a1, _⟩ := letter_at c h
  exact ⟨by unfold lno; rw [if_pos a1], a1⟩


theorem take_letters {p : Nat} (h : p < 8) : (letters.take p).length = p := by rw [List.length_take, letters_len]; omega
theorem atb_take {l : List UInt8} {p x : Nat} (h : x < p) : atb (l.take p) x = atb l x := by
  unfold atb; rw [List.getD_eq_getElem?_getD, List.getD_eq_getElem?_getD, List.getElem?_take, if_pos h]
set_option maxHeartbeats 3200000 in
theorem iRank_yes (g : Int) (l : List UInt8) (hl : l.length ≤ 1048576) (hv : vld l = true) (hg : 1 ≤ g) (hg4 : g ≤ 4) (ho : gOk g l = true) (hr : isRed l = true) (h12 : l.length ≤ 12) (w : World) :
    Calls Try.prog 17 #[.int .i64 g, .string (bs l)] w fun e w' => e = .returned (.tuple #[.int .i64 (rkTo g l l.length), .int .i64 0]) ∧ Below w.heap.size w w' := by
  have hB0 := Below.refl w.heap.size w
  have hL := (vld_iff.1 hv).1
  have HL := Lib.hid hL
  have HG := Lib.hid (show ∀ w, _ from fun w => iGen_good g l hl hv hg hg4 ho w)
  have HRd := Lib.hid (show ∀ w, _ from fun w => isReduced_any l hl w)
  rw [hr] at HRd
  have i12 : ¬ (12 : Int) < l.length := by omega
  have fl := letters_len
  clear hL ho hv hr
  go_enter Try.func17, Try.ntmps17
  go_wp2_with (first
    | (go_at_call 44; refine (HG.out _).mono ?_; rintro e w1 ⟨rfl, hb1⟩; have hB := bl_call hb1 hB0; clear hb1)
    | (go_at_call 40; refine (HRd.out _).mono ?_; rintro e w1 ⟨rfl, hb1⟩; have hB2 := bl_call hb1 hB; clear hb1))
  go_loopw [7, 31] (fun r i wr => ∃ k : Nat, k ≤ l.length ∧ i = .int .i64 k ∧ r = .int .i64 (rkTo g l k) ∧ Below w.heap.size w wr) (fun _ i _ => l.length - (intOf i).toNat)
  case atStart => exact ⟨0, by omega, rfl, rfl, hB2⟩
  case round =>
    obtain ⟨k, hk, rfl, rfl, hb⟩ := hrel
    have i0 : (0 : Int) ≤ k := by omega
    by_cases g1 : k < l.length
    · have i1 : (k : Int) < l.length := by omega
      obtain ⟨m, hm⟩ : ∃ m, m = l.length - k - 1 := ⟨_, rfl⟩
      have em : (l.length : Int) - 1 - k = (m : Int) := by omega
      have m12 : m ≤ 12 := by omega
      have hsucc : rkTo g l (k + 1) = rkTo g l k + inS g l k (lnoN (atb l k)) := rfl
      obtain ⟨r1, r2⟩ := rkTo_lim hg hg4 h12 HL.out k hk
      obtain ⟨e1, e2⟩ := lno_N (vld_at HL.out g1)
      obtain ⟨p, hp⟩ : ∃ p, p = lnoN (atb l k) := ⟨_, rfl⟩
      rw [← hp] at e1 e2 hsucc
      obtain ⟨R, hR⟩ : ∃ R, R = rkTo g l k := ⟨_, rfl⟩
      rw [← hR] at hsucc r1 r2 ⊢
      have HS := Lib.hid hsucc
      have HLim := Lib.hid (show ∀ x, _ from fun x => inS_lim (l := l) (i := k) hg hg4 h12 x)
      obtain ⟨q1, q2⟩ := wy_lim (b := true) hg hg4 m m12
      have HW := Lib.hid (show ∀ w, _ from fun w => iWays_any g hg hg4 true m m12 w)
      obtain ⟨W, hW⟩ : ∃ W, W = wy g true m := ⟨_, rfl⟩
      rw [← hW] at HW q1 q2
      have HWy := Lib.hid (show W = wy g true (l.length - k - 1) by rw [hW, hm])
      have E1 := Lib.hid e1
      have hkk : k ≤ 12 := by omega
      have htl := take_letters e2
      have HTL := Lib.hid htl
      have p8 : (p : Int) ≤ letters.length := by rw [letters_len]; omega
      have p0 : (0 : Int) ≤ p := by omega
      clear hsucc hp hR hm hW e1 htl
      go_wp2_with (first
        | (go_at_call 42; refine (HW.out _).mono ?_; rintro e w1 ⟨rfl, rfl⟩)
        | (go_at_call 45; refine (place_any (atb l k) _).mono ?_; rintro e w1 ⟨rfl, rfl⟩; rw [E1.out])
        | (refine wpList_bytes rfl (.tmp 45) 9 22 rfl 5 Try.underlying9 Try.underlying22 Try.underlying5 (letters.take p) rfl ?_; intro cap w2 hb2 hby2; rw [HTL.out]))
      have hbl2 := bl_call hb2 hb
      have hsz := hb.size
      obtain ⟨B, hBB⟩ : ∃ B, B = wr.heap.size := ⟨_, rfl⟩
      rw [← hBB] at hby2 ⊢
      have HBY := Lib.hid hby2
      clear hb2 hby2 hBB
      go_loopw [7, 48] (fun r i wr => ∃ x : Nat, x ≤ p ∧ i = .int .i64 x ∧ r = .int .i64 (R + inS g l k x) ∧ Byts wr B (letters.take p) ∧ Below w.heap.size w wr) (fun _ i _ => p - (intOf i).toNat)
      case atStart => exact ⟨0, by omega, rfl, by simp [inS], HBY.out, hbl2⟩
      case round =>
        obtain ⟨x, hx, rfl, rfl, hby, hbx⟩ := hrel
        have HBX := Lib.hid hby
        have x0 : (0 : Int) ≤ x := by omega
        obtain ⟨s1, s2⟩ := HLim.out x
        have hi1 : inS g l k (x + 1) = inS g l k x + (if fre l k x then W else 0) := by rw [HWy.out]; rfl
        obtain ⟨S, hS⟩ : ∃ S, S = inS g l k x := ⟨_, rfl⟩
        rw [← hS] at hi1 s1 s2 ⊢
        by_cases g2 : x < p
        · have x1 : (x : Int) < p := by omega
          have hcell := hby.at (j := x) (by rw [HTL.out]; exact g2)
          rw [atb_take g2] at hcell
          have hsame : ∀ w n, Calls Try.prog 43 #[.int .u8 (atb letters x).toNat] (World.drewN w n) fun e w'' => e = .returned (.int .u8 (Wd.oth (atb letters x)).toNat) ∧ w'' = World.drewN w n := fun w n => (iOther_any (atb letters x) _).mono fun _ _ ⟨h1, h2⟩ => ⟨h1, h2.symm⟩
          have HSame := Lib.hid hsame
          have HSS := Lib.hid hS
          clear hS hsame hby
          by_cases hk0 : k = 0
          · have hf : fre l k x = true := by unfold fre; simp [hk0]
            rw [hf, if_pos rfl] at hi1
            have E := Lib.hid hi1
            have d : ((k : Int) == 0) = true := by rw [hk0]; rfl
            clear hf hi1 hk0
            go_wp2
            go_quiet (fail)
            go_wp2
            go_roundw
            case rel => exact ⟨x + 1, by omega, by go_num, by rw [E.out, ← Int.add_assoc], HBX.out, below_drewN hbx _⟩
            case measure => simp [intOf]; omega
          · have d : ((k : Int) == 0) = false := by rw [beq_eq_false_iff_ne]; omega
            obtain ⟨j, hj⟩ : ∃ j, j = k - 1 := ⟨_, rfl⟩
            have ej : (k : Int) - 1 = (j : Int) := by omega
            have j1 : (j : Int) < l.length := by omega
            have j0 : (0 : Int) ≤ j := by omega
            by_cases hne : atb l j = Wd.oth (atb letters x)
            · have hf : fre l k x = false := by unfold fre; rw [← hj]; simp [hne, hk0]
              rw [hf, if_neg (by simp), Int.add_zero] at hi1
              have E := Lib.hid hi1
              have d2 : (((atb l j).toNat : Int) == ((Wd.oth (atb letters x)).toNat : Int)) = true := by rw [hne]; simp
              have d3 : (((atb l j).toNat : Int) != ((Wd.oth (atb letters x)).toNat : Int)) = false := by rw [bne, d2]; rfl
              clear hf hi1 hne hj hk0
              go_wp2
              have q5 : IntKind.i64.wrap ((k : Int) - 1) = (j : Int) := by rw [ej]; exact Go.IntWalk.i64_in _ (by omega)
              go_quiet ((go_at_call 43; exact Calls.quiet_of_same (HSame.out _ _)))
              clear q5
              go_wp2
              go_roundw
              case rel => exact ⟨x + 1, by omega, by go_num, by rw [E.out], HBX.out, below_drewN hbx _⟩
              case measure => simp [intOf]; omega
            · have hf : fre l k x = true := by unfold fre; rw [← hj]; simp [hne]
              rw [hf, if_pos rfl] at hi1
              have E := Lib.hid hi1
              have d2 : (((atb l j).toNat : Int) == ((Wd.oth (atb letters x)).toNat : Int)) = false := by
                rw [beq_eq_false_iff_ne]; intro h; exact hne (UInt8.toNat_inj.1 (by omega))
              have d3 : (((atb l j).toNat : Int) != ((Wd.oth (atb letters x)).toNat : Int)) = true := by rw [bne, d2]; rfl
              clear hf hi1 hne hj hk0
              go_wp2
              have q5 : IntKind.i64.wrap ((k : Int) - 1) = (j : Int) := by rw [ej]; exact Go.IntWalk.i64_in _ (by omega)
              go_quiet ((go_at_call 43; exact Calls.quiet_of_same (HSame.out _ _)))
              clear q5
              go_wp2
              go_roundw
              case rel => exact ⟨x + 1, by omega, by go_num, by rw [E.out, ← Int.add_assoc], HBX.out, below_drewN hbx _⟩
              case measure => simp [intOf]; omega
        · have hxp : x = p := by omega
          have E := Lib.hid (show rkTo g l (k + 1) = R + S by rw [HS.out, hS, hxp])
          have x2 : ¬ (x : Int) < p := by omega
          clear hS hi1 hby
          go_wp2
          go_roundw
          case rel => exact ⟨k + 1, by omega, by go_num, by rw [E.out], hbx⟩
          case measure => simp [intOf]; omega
    · obtain rfl : k = l.length := by omega
      go_wp2
      go_ret2
      exact ⟨rfl, hb⟩


set_option maxHeartbeats 400000 in
theorem iRank_code (g c : Int) (l : List UInt8) (hc : ¬ c = 0) (hg : ∀ w, Calls Try.prog 44 #[.int .i64 g, .string (bs l)] w fun e w' => e = .returned (.int .i64 c) ∧ Below w.heap.size w w') (w : World) :
    Calls Try.prog 17 #[.int .i64 g, .string (bs l)] w fun e w' => e = .returned (.tuple #[.int .i64 0, .int .i64 c]) ∧ Below w.heap.size w w' := by
  have hB0 := Below.refl w.heap.size w
  have d0 : (c == 0) = false := by rw [beq_eq_false_iff_ne]; omega
  have d1 : (c != 0) = true := by rw [bne, d0]; rfl
  have HG := Lib.hid hg
  clear hg
  go_enter Try.func17, Try.ntmps17
  go_wp2_with (first
    | ((go_at_call 44); refine (HG.out _).mono ?_; rintro e w1 ⟨rfl, hb1⟩; have hB := bl_call hb1 (by assumption); clear hb1))
  go_ret2
  exact ⟨rfl, by assumption⟩

set_option maxHeartbeats 400000 in
theorem iRank_nred (g : Int) (l : List UInt8) (hl : l.length ≤ 1048576) (hv : vld l = true) (hg : 1 ≤ g) (hg4 : g ≤ 4) (ho : gOk g l = true) (hr : isRed l = false) (w : World) :
    Calls Try.prog 17 #[.int .i64 g, .string (bs l)] w fun e w' => e = .returned (.tuple #[.int .i64 0, .int .i64 4]) ∧ Below w.heap.size w w' := by
  have hB0 := Below.refl w.heap.size w
  have HG := Lib.hid (show ∀ w, _ from fun w => iGen_good g l hl hv hg hg4 ho w)
  have HR := Lib.hid (show ∀ w, _ from fun w => isReduced_any l hl w)
  rw [hr] at HR
  clear ho hv hr
  go_enter Try.func17, Try.ntmps17
  go_wp2_with (first
    | ((go_at_call 44); refine (HG.out _).mono ?_; rintro e w1 ⟨rfl, hb1⟩; have hB := bl_call hb1 (by assumption); clear hb1)
    | ((go_at_call 40); refine (HR.out _).mono ?_; rintro e w1 ⟨rfl, hb1⟩; have hB := bl_call hb1 (by assumption); clear hb1))
  go_ret2
  exact ⟨rfl, by assumption⟩

set_option maxHeartbeats 400000 in
theorem iRank_long (g : Int) (l : List UInt8) (hl : l.length ≤ 1048576) (hv : vld l = true) (hg : 1 ≤ g) (hg4 : g ≤ 4) (ho : gOk g l = true) (hr : isRed l = true) (h12 : 12 < l.length) (w : World) :
    Calls Try.prog 17 #[.int .i64 g, .string (bs l)] w fun e w' => e = .returned (.tuple #[.int .i64 0, .int .i64 3]) ∧ Below w.heap.size w w' := by
  have hB0 := Below.refl w.heap.size w
  have HG := Lib.hid (show ∀ w, _ from fun w => iGen_good g l hl hv hg hg4 ho w)
  have HR := Lib.hid (show ∀ w, _ from fun w => isReduced_any l hl w)
  rw [hr] at HR
  have i12 : (12 : Int) < l.length := by omega
  clear ho hv hr
  go_enter Try.func17, Try.ntmps17
  go_wp2_with (first
    | ((go_at_call 44); refine (HG.out _).mono ?_; rintro e w1 ⟨rfl, hb1⟩; have hB := bl_call hb1 (by assumption); clear hb1)
    | ((go_at_call 40); refine (HR.out _).mono ?_; rintro e w1 ⟨rfl, hb1⟩; have hB := bl_call hb1 (by assumption); clear hb1))
  go_ret2
  exact ⟨rfl, by assumption⟩





end Go.Proofs.Ytejmbbnhdojcbaa
