/- NextWord, joined: the walks of both sides and of the law. Conditions: none. -/
import Derived.Test.YtejmbbnhdojcbaaNext
namespace Go.Proofs.Ytejmbbnhdojcbaa
open Go.RowKit
set_option linter.unusedVariables false

/-- May letter x stand for the one at place i, and come behind it? -/
def cand (p : Nat) (l : List UInt8) (i x : Nat) : Bool := decide (lnoN (atb l i) < x) && decide (x < p) && fre l i x
/-- No candidate ahead of place k, letter x, in the order of the search. -/
def Clean (p : Nat) (l : List UInt8) (k x : Nat) : Prop := (∀ j q, k < j → j < l.length → cand p l j q = false) ∧ ∀ q, q < x → cand p l k q = false
def H1 (p : Nat) (l r : List UInt8) (c : Int) : Prop := ∀ k x, k < l.length → Clean p l k x → cand p l k x = true → r = goN (l.take k ++ [atb letters x]) (l.length - k - 1) ∧ c = 0
def H2 (p : Nat) (l r : List UInt8) (c : Int) : Prop := (∀ j q, j < l.length → cand p l j q = false) → (l.length = 40 → r = [] ∧ c = 3) ∧ (l.length ≠ 40 → r = goN [] (l.length + 1) ∧ c = 0)
theorem clean_one {p : Nat} {l : List UInt8} {k x k' x' : Nat} (hk : k < l.length) (hk' : k' < l.length) (h : Clean p l k x) (h' : Clean p l k' x') (hc : cand p l k x = true) (hc' : cand p l k' x' = true) : k = k' ∧ x = x' := by
  have e : k = k' := by
    rcases Nat.lt_trichotomy k k' with g | g | g
    · rw [h.1 k' x' g hk'] at hc'; cases hc'
    · exact g
    · rw [h'.1 k x g hk] at hc; cases hc
  subst e
  refine ⟨rfl, ?_⟩
  rcases Nat.lt_trichotomy x x' with g | g | g
  · rw [h'.2 x g] at hc; cases hc
  · exact g
  · rw [h.2 x' g] at hc'; cases hc'
theorem next_ex (p : Nat) (l : List UInt8) : ∃ r c, H1 p l r c ∧ H2 p l r c := by
  by_cases h : ∃ k x, k < l.length ∧ Clean p l k x ∧ cand p l k x = true
  · obtain ⟨k, x, hk, hcl, hc⟩ := h
    refine ⟨goN (l.take k ++ [atb letters x]) (l.length - k - 1), 0, fun k' x' hk' hcl' hc' => ?_, fun hn => ?_⟩
    · obtain ⟨rfl, rfl⟩ := clean_one hk hk' hcl hcl' hc hc'
      exact ⟨rfl, rfl⟩
    · rw [hn k x hk] at hc; cases hc
  · by_cases h4 : l.length = 40
    · exact ⟨[], 3, fun k x hk hcl hc => absurd ⟨k, x, hk, hcl, hc⟩ h, fun _ => ⟨fun _ => ⟨rfl, rfl⟩, fun hn => absurd h4 hn⟩⟩
    · exact ⟨goN [] (l.length + 1), 0, fun k x hk hcl hc => absurd ⟨k, x, hk, hcl, hc⟩ h, fun _ => ⟨fun hn => absurd hn h4, fun _ => ⟨rfl, rfl⟩⟩⟩
theorem take_put {l : List UInt8} {k : Nat} (hk : k < l.length) (c : UInt8) : l.length = (l.take k ++ [c]).length + (l.length - k - 1) := by
  rw [List.length_append, List.length_take, List.length_singleton]; omega
theorem cand_of {p : Nat} {l : List UInt8} {k x : Nat} (h1 : lnoN (atb l k) < x) (h2 : x < p) : cand p l k x = fre l k x := by
  unfold cand; simp [h1, h2]
theorem cand_hi {p : Nat} {l : List UInt8} {k x : Nat} (h2 : ¬ x < p) : cand p l k x = false := by
  unfold cand; simp [h2]
theorem cand_lo {p : Nat} {l : List UInt8} {k x : Nat} (h1 : x ≤ lnoN (atb l k)) : cand p l k x = false := by
  unfold cand; simp; omega


set_option maxHeartbeats 6400000 in
theorem iNext_yes (g : Int) (p : Nat) (hgp : 2 * g = (p : Int)) (l : List UInt8) (hl : l.length ≤ 1048576) (hv : vld l = true) (hg : 1 ≤ g) (hg4 : g ≤ 4) (ho : gOk g l = true) (hr : isRed l = true) (r : List UInt8) (c : Int) (h1 : H1 p l r c) (h2 : H2 p l r c) (w : World) :
    Calls Try.prog 19 #[.int .i64 g, .string (bs l)] w fun e w' => e = .returned (.tuple #[.string (bs r), .int .i64 c]) ∧ Below w.heap.size w w' := by
  have hB0 := Below.refl w.heap.size w
  have hL := (vld_iff.1 hv).1
  have h40 := (vld_iff.1 hv).2
  have HL := Lib.hid hL
  have HG := Lib.hid (show ∀ w, _ from fun w => iGen_good g l hl hv hg hg4 ho w)
  have HRd := Lib.hid (show ∀ w, _ from fun w => isReduced_any l hl w)
  rw [hr] at HRd
  have HH1 := Lib.hid h1
  have HH2 := Lib.hid h2
  have p8 : p ≤ 8 := by omega
  have p2 : 2 ≤ p := by omega
  have HGo := Lib.hid (show ∀ (u : List UInt8) (m n : Nat), n = u.length + m → n ≤ 1000 → ∀ w, _ from fun u m n hn hn2 w => iFill_any g p hgp p2 p8 u m n hn hn2 w)
  clear hL ho hr hv h1 h2
  go_enter Try.func19, Try.ntmps19
  go_wp2_with (first
    | (go_at_call 44; refine (HG.out _).mono ?_; rintro e w1 ⟨rfl, hb1⟩; have hB1 := bl_call hb1 hB0; clear hb1)
    | (go_at_call 40; refine (HRd.out _).mono ?_; rintro e w1 ⟨rfl, hb1⟩; have hB := bl_call hb1 hB1; clear hb1))
  go_loopw [7] (fun i wr => ∃ j : Nat, j ≤ l.length ∧ i = .int .i64 ((j : Int) - 1) ∧ (∀ a q, j ≤ a → a < l.length → cand p l a q = false) ∧ Below w.heap.size w wr) (fun i _ => (intOf i + 1).toNat)
  case atStart => exact ⟨l.length, by omega, rfl, fun a q h1 h2 => by omega, hB⟩
  case round =>
    obtain ⟨j, hj, rfl, hn, hb⟩ := hrel
    have HNo := Lib.hid hn
    clear hn
    cases j with
    | succ k =>
      have e0 : ((k + 1 : Nat) : Int) - 1 = (k : Int) := by omega
      rw [e0]
      clear e0
      have i0 : (0 : Int) ≤ k := by omega
      have i1 : (k : Int) < l.length := by omega
      obtain ⟨e1, e2⟩ := lno_N (vld_at HL.out (show k < l.length by omega))
      obtain ⟨s, hs⟩ : ∃ s, s = lnoN (atb l k) := ⟨_, rfl⟩
      rw [← hs] at e1 e2
      have E1 := Lib.hid e1
      have HS := Lib.hid hs
      clear e1 hs
      go_wp2_with (go_at_call 45; refine (place_any (atb l k) _).mono ?_; rintro e w1 ⟨rfl, rfl⟩; rw [E1.out])
      go_loopw [8] (fun i wr => ∃ x : Nat, s < x ∧ x ≤ 8 ∧ i = .int .i64 x ∧ (∀ q, q < x → cand p l k q = false) ∧ Below w.heap.size w wr) (fun i _ => 9 - (intOf i).toNat)
      case atStart => exact ⟨s + 1, by omega, by omega, by go_num, fun q hq => cand_lo (by rw [← HS.out]; omega), hb⟩
      case round =>
        obtain ⟨x, hx, hx8, rfl, hq, hbx⟩ := hrel
        have HQ := Lib.hid hq
        have x0 : (0 : Int) ≤ x := by omega
        clear hq
        by_cases g2 : x < p
        · have x1 : (x : Int) < p := by omega
          have xll : (x : Int) < letters.length := by rw [letters_len]; omega
          have HSame := Lib.hid (show ∀ w n, Calls Try.prog 43 #[.int .u8 (atb letters x).toNat] (World.drewN w n) fun e w'' => e = .returned (.int .u8 (Wd.oth (atb letters x)).toNat) ∧ w'' = World.drewN w n from fun w n => (iOther_any (atb letters x) _).mono fun _ _ ⟨h1, h2⟩ => ⟨h1, h2.symm⟩)
          have xl : (x : Int) + 1 ≤ letters.length := by rw [letters_len]; omega
          have L1 := Lib.hid (let_one x (by omega))
          have hcf : cand p l k x = fre l k x := cand_of (by rw [← HS.out]; exact hx) g2
          have HCF := Lib.hid hcf
          have hlen := take_put (show k < l.length by omega) (atb letters x)
          have HLen := Lib.hid hlen
          clear hcf hlen
          by_cases hf : fre l k x = true
          · have hr := HH1.out k x (by omega) ⟨fun a q ha hal => HNo.out a q (by omega) hal, HQ.out⟩ (by rw [HCF.out]; exact hf)
            have HR := Lib.hid hr
            clear hr
            have HCall := Lib.hid (show ∀ w, _ from fun w => HGo.out (l.take k ++ [atb letters x]) (l.length - k - 1) l.length HLen.out (by omega) w)
            by_cases hk0 : k = 0
            · have d : ((k : Int) == 0) = true := by rw [hk0]; rfl
              clear hf
              have HK0 := Lib.hid hk0
              clear hk0
              go_wp2
              go_quiet (fail)
              obtain ⟨wq, hwq⟩ : ∃ wq, wq = wr.drewN nq := ⟨_, rfl⟩
              have hbq : Below w.heap.size w wq := by rw [hwq]; exact below_drewN hbx _
              rw [← hwq]
              clear hwq
              go_wp2
              have hcv : ∀ cap, (convert 22 9 (.slice (some ⟨wq.heap.size, 0, none⟩) 1 cap)).run Try.prog (wq.alloc (.cells #[.int .u8 (atb letters x).toNat] 5)).drew = .ok (.string (bs [atb letters x])) (wq.alloc (.cells #[.int .u8 (atb letters x).toNat] 5)).drew := fun cap => by
                refine run_convert_bytes_back _ _ _ _ ⟨wq.heap.size, 0, none⟩ cap [atb letters x] Try.underlying22 Try.underlying5 Try.underlying9 (Lib.bytes_of_row (w := (wq.alloc (.cells #[.int .u8 (atb letters x).toNat] 5)).drew) (heap_alloc_new wq _) ?_)
                simp [Lib.byteCells]
              have hbA : Below w.heap.size w (wq.alloc (.cells #[.int .u8 (atb letters x).toNat] 5)).drew := (below_al hbq (Nat.le_refl _) _).drew
              go_region_with (go_at_call 46; refine (HCall.out _).mono ?_; rintro e w1 ⟨rfl, hb1⟩; have hB2 := bl_call hb1 hbA; clear hb1)
              all_goals
                go_wp2
                go_ret2
                exact ⟨by rw [HR.out.1, HR.out.2]; rfl, hB2⟩
            · have d : ((k : Int) == 0) = false := by rw [beq_eq_false_iff_ne]; omega
              obtain ⟨j, hj⟩ : ∃ j, j = k - 1 := ⟨_, rfl⟩
              have ej : (k : Int) - 1 = (j : Int) := by omega
              have j1 : (j : Int) < l.length := by omega
              have j0 : (0 : Int) ≤ j := by omega
              have hne : ¬ atb l j = Wd.oth (atb letters x) := by
                intro h; unfold fre at hf; rw [← hj] at hf; simp [h, hk0] at hf
              have d2 : (((atb l j).toNat : Int) == ((Wd.oth (atb letters x)).toNat : Int)) = false := by
                rw [beq_eq_false_iff_ne]; intro h; exact hne (UInt8.toNat_inj.1 (by omega))
              have d3 : (((atb l j).toNat : Int) != ((Wd.oth (atb letters x)).toNat : Int)) = true := by rw [bne, d2]; rfl
              clear hf hne hj hk0
              go_wp2
              have q5 : IntKind.i64.wrap ((k : Int) - 1) = (j : Int) := by rw [ej]; exact Go.IntWalk.i64_in _ (by omega)
              go_quiet ((go_at_call 43; exact Calls.quiet_of_same (HSame.out _ _)))
              clear q5
              obtain ⟨wq, hwq⟩ : ∃ wq, wq = wr.drewN nq := ⟨_, rfl⟩
              have hbq : Below w.heap.size w wq := by rw [hwq]; exact below_drewN hbx _
              rw [← hwq]
              clear hwq
              go_wp2
              have hcv : ∀ cap, (convert 22 9 (.slice (some ⟨wq.heap.size, 0, none⟩) 1 cap)).run Try.prog (wq.alloc (.cells #[.int .u8 (atb letters x).toNat] 5)).drew = .ok (.string (bs [atb letters x])) (wq.alloc (.cells #[.int .u8 (atb letters x).toNat] 5)).drew := fun cap => by
                refine run_convert_bytes_back _ _ _ _ ⟨wq.heap.size, 0, none⟩ cap [atb letters x] Try.underlying22 Try.underlying5 Try.underlying9 (Lib.bytes_of_row (w := (wq.alloc (.cells #[.int .u8 (atb letters x).toNat] 5)).drew) (heap_alloc_new wq _) ?_)
                simp [Lib.byteCells]
              have hbA : Below w.heap.size w (wq.alloc (.cells #[.int .u8 (atb letters x).toNat] 5)).drew := (below_al hbq (Nat.le_refl _) _).drew
              go_region_with (go_at_call 46; refine (HCall.out _).mono ?_; rintro e w1 ⟨rfl, hb1⟩; have hB2 := bl_call hb1 hbA; clear hb1)
              all_goals
                go_wp2
                go_ret2
                exact ⟨by rw [HR.out.1, HR.out.2]; rfl, hB2⟩
          · have hff : fre l k x = false := eq_false_of_ne_true hf
            have HM := Lib.hid (show cand p l k x = false by rw [HCF.out]; exact hff)
            have hk0 : ¬ k = 0 := by intro h; unfold fre at hff; simp [h] at hff
            have d : ((k : Int) == 0) = false := by rw [beq_eq_false_iff_ne]; omega
            obtain ⟨j, hj⟩ : ∃ j, j = k - 1 := ⟨_, rfl⟩
            have ej : (k : Int) - 1 = (j : Int) := by omega
            have j1 : (j : Int) < l.length := by omega
            have j0 : (0 : Int) ≤ j := by omega
            have hne : atb l j = Wd.oth (atb letters x) := by
              unfold fre at hff; rw [← hj] at hff; simpa [hk0] using hff
            have d2 : (((atb l j).toNat : Int) == ((Wd.oth (atb letters x)).toNat : Int)) = true := by rw [hne]; simp
            have d3 : (((atb l j).toNat : Int) != ((Wd.oth (atb letters x)).toNat : Int)) = false := by rw [bne, d2]; rfl
            clear hf hff hne hj hk0
            go_wp2
            have q5 : IntKind.i64.wrap ((k : Int) - 1) = (j : Int) := by rw [ej]; exact Go.IntWalk.i64_in _ (by omega)
            go_quiet ((go_at_call 43; exact Calls.quiet_of_same (HSame.out _ _)))
            clear q5
            go_wp2
            go_roundw
            case rel => exact ⟨x + 1, by omega, by omega, by go_num, fun a ha => if h : a = x then h ▸ HM.out else HQ.out a (by omega), below_drewN hbx _⟩
            case measure => simp [intOf]; omega
        · have x2 : ¬ (x : Int) < p := by omega
          have HX2 := Lib.hid g2
          clear g2
          go_wp2
          go_roundw
          case rel => exact ⟨k, by omega, by go_num, fun a q ha hal => if h : a = k then (by subst h; exact if h2 : q < x then HQ.out q h2 else cand_hi (by have := HX2.out; omega)) else HNo.out a q (by omega) hal, hbx⟩
          case measure => simp [intOf] <;> omega
    | zero =>
      have e0 : ((0 : Nat) : Int) - 1 = -1 := by omega
      rw [e0]
      clear e0
      have hH := HH2.out (fun a q ha => HNo.out a q (by omega) ha)
      have HH := Lib.hid hH
      clear hH
      have HCall := Lib.hid (show ∀ w, _ from fun w => HGo.out [] (l.length + 1) (l.length + 1) (by simp) (by omega) w)
      have ec : ((l.length + 1 : Nat) : Int) = (l.length : Int) + 1 := by omega
      rw [ec] at HCall
      clear ec
      by_cases h4 : l.length = 40
      · have HR := Lib.hid (HH.out.1 h4)
        have d : ((l.length : Int) == 40) = true := by rw [h4]; rfl
        clear h4
        go_wp2
        go_ret2
        exact ⟨by rw [HR.out.1, HR.out.2]; rfl, hb⟩
      · have HR := Lib.hid (HH.out.2 h4)
        have d : ((l.length : Int) == 40) = false := by rw [beq_eq_false_iff_ne]; omega
        clear h4
        go_wp2_with (go_at_call 46; refine (HCall.out _).mono ?_; rintro e w1 ⟨rfl, hb1⟩; have hB2 := bl_call hb1 hb; clear hb1)
        go_ret2
        exact ⟨by rw [HR.out.1, HR.out.2]; rfl, hB2⟩


set_option maxHeartbeats 400000 in
theorem iNext_code (g c : Int) (l : List UInt8) (hc : ¬ c = 0) (hg : ∀ w, Calls Try.prog 44 #[.int .i64 g, .string (bs l)] w fun e w' => e = .returned (.int .i64 c) ∧ Below w.heap.size w w') (w : World) :
    Calls Try.prog 19 #[.int .i64 g, .string (bs l)] w fun e w' => e = .returned (.tuple #[.string (bs []), .int .i64 c]) ∧ Below w.heap.size w w' := by
  have hB0 := Below.refl w.heap.size w
  have d0 : (c == 0) = false := by rw [beq_eq_false_iff_ne]; omega
  have d1 : (c != 0) = true := by rw [bne, d0]; rfl
  have HG := Lib.hid hg
  clear hg
  go_enter Try.func19, Try.ntmps19
  go_wp2_with (first
    | ((go_at_call 44); refine (HG.out _).mono ?_; rintro e w1 ⟨rfl, hb1⟩; have hB := bl_call hb1 (by assumption); clear hb1))
  go_ret2
  exact ⟨rfl, by assumption⟩

set_option maxHeartbeats 400000 in
theorem iNext_nred (g : Int) (l : List UInt8) (hl : l.length ≤ 1048576) (hv : vld l = true) (hg : 1 ≤ g) (hg4 : g ≤ 4) (ho : gOk g l = true) (hr : isRed l = false) (w : World) :
    Calls Try.prog 19 #[.int .i64 g, .string (bs l)] w fun e w' => e = .returned (.tuple #[.string (bs []), .int .i64 4]) ∧ Below w.heap.size w w' := by
  have hB0 := Below.refl w.heap.size w
  have HG := Lib.hid (show ∀ w, _ from fun w => iGen_good g l hl hv hg hg4 ho w)
  have HR := Lib.hid (show ∀ w, _ from fun w => isReduced_any l hl w)
  rw [hr] at HR
  clear ho hv hr
  go_enter Try.func19, Try.ntmps19
  go_wp2_with (first
    | ((go_at_call 44); refine (HG.out _).mono ?_; rintro e w1 ⟨rfl, hb1⟩; have hB := bl_call hb1 (by assumption); clear hb1)
    | ((go_at_call 40); refine (HR.out _).mono ?_; rintro e w1 ⟨rfl, hb1⟩; have hB := bl_call hb1 (by assumption); clear hb1))
  go_ret2
  exact ⟨rfl, by assumption⟩




end Go.Proofs.Ytejmbbnhdojcbaa
