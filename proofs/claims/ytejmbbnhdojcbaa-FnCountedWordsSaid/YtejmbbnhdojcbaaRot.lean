/- LeastRotation and AreConjugate: the walks of both sides and of the laws. Conditions: none. -/
import Derived.Test.YtejmbbnhdojcbaaCmp
namespace Go.Proofs.Ytejmbbnhdojcbaa
open Go.RowKit
set_option linter.unusedVariables false

/-- A rotation of a word. -/
def rot (c : List UInt8) (i : Nat) : List UInt8 := c.drop i ++ c.take i
theorem rot_raw (c : List UInt8) (i : Nat) : c.drop i ++ c.take i = rot c i := rfl
theorem rot_len (c : List UInt8) (i : Nat) : (rot c i).length = c.length := by simp [rot]; omega
theorem rot_mem {c : List UInt8} {i : Nat} {x : UInt8} (h : x ∈ rot c i) : x ∈ c := by
  unfold rot at h
  rcases List.mem_append.1 h with h | h
  · exact List.mem_of_mem_drop h
  · exact List.mem_of_mem_take h
/-- The least one of the first k rotations. -/
def least (c : List UInt8) : Nat → List UInt8
  | 0 => c
  | k + 1 => if cmpL (rot c k) (least c k) < 0 then rot c k else least c k
theorem least_len (c : List UInt8) : ∀ k, (least c k).length = c.length
  | 0 => rfl
  | k + 1 => by unfold least; split; exact rot_len c k; exact least_len c k
theorem least_mem (c : List UInt8) : ∀ k x, x ∈ least c k → x ∈ c
  | 0, x, h => h
  | k + 1, x, h => by
    unfold least at h
    split at h
    · exact rot_mem h
    · exact least_mem c k x h
theorem cmpL_self (c : List UInt8) (h : c.length ≤ 900) : cmpL c c = 0 := by
  have e := diffAt_of (u := c) (l := c) (Nat.le_refl _) h (fun j _ => rfl) (.inl rfl)
  unfold cmpL; rw [if_pos rfl, if_pos e]
theorem least_one (c : List UInt8) (h : c.length ≤ 900) : least c 1 = c := by
  have : rot c 0 = c := by simp [rot]
  show (if cmpL (rot c 0) c < 0 then rot c 0 else c) = c
  rw [this, cmpL_self c h]; simp
/-- The least rotation of the core of a word. -/
def leastOf (l : List UInt8) : List UInt8 := least (coreOf l) (coreOf l).length
theorem core_mem {l : List UInt8} {x : UInt8} (h : x ∈ coreOf l) : x ∈ Wd.red l := by
  unfold coreOf at h
  exact List.mem_of_mem_take (List.mem_of_mem_drop h)
theorem core_len (l : List UInt8) : (coreOf l).length ≤ l.length := by
  have := (Wd.red_length l).1
  unfold coreOf; simp; omega


set_option maxHeartbeats 1600000 in
theorem iLeast_any (l : List UInt8) (hl : l.length ≤ 900) (hW : ∀ x ∈ l, Wd.isL x = true) (w : World) :
    Calls Try.prog 54 #[.string (bs l)] w fun e w' => e = .returned (.string (bs (leastOf l))) ∧ Below w.heap.size w w' := by
  have hB0 := Below.refl w.heap.size w
  have h9 : (coreOf l).length ≤ 900 := by have := core_len l; omega
  have hL : ∀ x ∈ coreOf l, Wd.isL x = true := fun x hx => hW x (Wd.mem_red _ _ (core_mem hx))
  have HK := Lib.hid (show ∀ w, _ from fun w => iCore_any l (by omega) hW w)
  unfold leastOf
  obtain ⟨c, hc⟩ : ∃ c, c = coreOf l := ⟨_, rfl⟩
  obtain ⟨fr, hfr⟩ : ∃ fr, fr = frontOf l := ⟨_, rfl⟩
  rw [← hc, ← hfr] at HK
  rw [← hc] at hL h9 ⊢
  clear hc hfr hW
  go_enter Try.func54, Try.ntmps54
  go_wp2_with (go_at_call 51; refine (HK.out _).mono ?_; rintro e w1 ⟨rfl, hb1⟩; have hB := bl_call hb1 hB0; clear hb1)
  go_loopw [5, 16] (fun b i wr => ∃ k : Nat, k ≤ c.length ∧ i = .int .i64 k ∧ b = .string (bs (least c k)) ∧ Below w.heap.size w wr) (fun _ i _ => c.length - (intOf i).toNat)
  case atStart => exact ⟨0, by omega, rfl, rfl, hB⟩
  case round =>
    obtain ⟨k, h2, rfl, rfl, hb⟩ := hrel
    have i0 : (0 : Int) ≤ k := by omega
    by_cases g1 : k < c.length
    · have i1 : (k : Int) < c.length := by omega
      have i2 : (k : Int) ≤ c.length := by omega
      have hsucc : least c (k + 1) = if cmpL (rot c k) (least c k) < 0 then rot c k else least c k := rfl
      by_cases hc : cmpL (rot c k) (least c k) < 0
      · have hs' : least c (k + 1) = rot c k := by rw [hsucc, if_pos hc]
        have hl1 := rot_len c k
        have hl2 := least_len c k
        have hm1 : ∀ x ∈ rot c k, Wd.isL x = true := fun x hx => hL x (rot_mem hx)
        have hm2 : ∀ x ∈ least c k, Wd.isL x = true := fun x hx => hL x (least_mem c k x hx)
        have hraw := rot_raw c k
        obtain ⟨r, hr⟩ : ∃ r, r = rot c k := ⟨_, rfl⟩
        obtain ⟨m, hm⟩ : ∃ m, m = least c k := ⟨_, rfl⟩
        rw [← hr] at hc hs' hl1 hm1 hraw
        rw [← hm] at hc hl2 hm2
        rw [← hm]
        skip
        have d : cmpL r m < 0 := hc
        have HC := Lib.hid (show ∀ w, _ from fun w => iCmp_any r m (by omega) (by omega) hm1 hm2 w)
        have E := Lib.hid hs'
        have R := Lib.hid hraw
        have H1 := Lib.hid hm
        have H2 := Lib.hid hr
        clear hsucc hs' hl1 hl2 hm1 hm2 hraw hr hm hc
        go_wp2
        go_quiet (fail)
        rw [R.out]
        go_wp2_with (go_at_call 47; refine (HC.out _).mono ?_; rintro e w1 ⟨rfl, hb1⟩; have hB2 := bl_call hb1 (below_drewN hb nq); clear hb1)
        go_roundw
        case rel => exact ⟨k + 1, by omega, by go_num, by rw [E.out], hB2⟩
        case measure => simp [intOf]; omega
      · have hs' : least c (k + 1) = least c k := by rw [hsucc, if_neg hc]
        have hl1 := rot_len c k
        have hl2 := least_len c k
        have hm1 : ∀ x ∈ rot c k, Wd.isL x = true := fun x hx => hL x (rot_mem hx)
        have hm2 : ∀ x ∈ least c k, Wd.isL x = true := fun x hx => hL x (least_mem c k x hx)
        have hraw := rot_raw c k
        obtain ⟨r, hr⟩ : ∃ r, r = rot c k := ⟨_, rfl⟩
        obtain ⟨m, hm⟩ : ∃ m, m = least c k := ⟨_, rfl⟩
        rw [← hr] at hc hl1 hm1 hraw
        rw [← hm] at hc hl2 hm2
        rw [← hm]
        rw [← hm] at hs'
        have d : decide (cmpL r m < 0) = false := by simp; omega
        have HC := Lib.hid (show ∀ w, _ from fun w => iCmp_any r m (by omega) (by omega) hm1 hm2 w)
        have E := Lib.hid hs'
        have R := Lib.hid hraw
        have H1 := Lib.hid hm
        have H2 := Lib.hid hr
        clear hsucc hs' hl1 hl2 hm1 hm2 hraw hr hm hc
        go_wp2
        go_quiet (fail)
        rw [R.out]
        go_wp2_with (go_at_call 47; refine (HC.out _).mono ?_; rintro e w1 ⟨rfl, hb1⟩; have hB2 := bl_call hb1 (below_drewN hb nq); clear hb1)
        go_roundw
        case rel => exact ⟨k + 1, by omega, by go_num, by rw [E.out], hB2⟩
        case measure => simp [intOf]; omega
    · have i1 : decide (k < c.length) = false := by simp; omega
      have i3 : decide ((k : Int) < c.length) = false := by simp; omega
      have hx : least c k = least c c.length := by rw [show k = c.length by omega]
      have E := Lib.hid hx
      clear hx hL
      go_wp2
      go_ret
      exact ⟨by rw [E.out]; rfl, hb⟩



set_option maxHeartbeats 400000 in
theorem iLR_yes (l : List UInt8) (hl : l.length ≤ 1048576) (hv : vld l = true) (w : World) :
    Calls Try.prog 28 #[.string (bs l)] w fun e w' => e = .returned (.tuple #[.string (bs (leastOf l)), .int .i64 0]) ∧ Below w.heap.size w w' := by
  have hB0 := Below.refl w.heap.size w
  have HV := Lib.hid hv
  have h40 := (vld_iff.1 hv).2
  go_enter Try.func28, Try.ntmps28
  go_wp2_with (first
    | ((go_at_call 35); refine (iValid_any l hl _).mono ?_; rintro e w1 ⟨rfl, rfl⟩)
    | ((go_at_call 54); refine (iLeast_any l (by omega) (vld_iff.1 HV.out).1 _).mono ?_; rintro e w1 ⟨rfl, hb1⟩; have hB := bl_call hb1 (by assumption); clear hb1))
  go_ret2
  exact ⟨rfl, by assumption⟩

set_option maxHeartbeats 400000 in
theorem iLR_no (l : List UInt8) (hl : l.length ≤ 1048576) (hv : vld l = false) (w : World) :
    Calls Try.prog 28 #[.string (bs l)] w fun e w' => e = .returned (.tuple #[.string (bs []), .int .i64 1]) ∧ Below w.heap.size w w' := by
  have hB0 := Below.refl w.heap.size w
  go_enter Try.func28, Try.ntmps28
  go_wp2_with (first
    | ((go_at_call 35); refine (iValid_any l hl _).mono ?_; rintro e w1 ⟨rfl, rfl⟩))
  go_ret2
  exact ⟨rfl, by assumption⟩




/-- Are two words conjugate? -/
def conj (u l : List UInt8) : Bool := leastOf u == leastOf l
theorem conj_str (u l : List UInt8) : ((bs (leastOf u)).toList == (bs (leastOf l)).toList) = conj u l := by
  rw [bs_toList, bs_toList]; rfl



set_option maxHeartbeats 400000 in
theorem iAC_no1 (u l : List UInt8) (hu : u.length ≤ 1048576) (hl : l.length ≤ 1048576) (h1 : vld u = false) (w : World) :
    Calls Try.prog 27 #[.string (bs u), .string (bs l)] w fun e w' => e = .returned (.tuple #[.bool false, .int .i64 1]) ∧ Below w.heap.size w w' := by
  have hB0 := Below.refl w.heap.size w
  go_enter Try.func27, Try.ntmps27
  go_wp2_with (first
    | ((go_at_call_of 35 (Value.string (bs u))); refine (iValid_any u hu _).mono ?_; rintro e w1 ⟨rfl, rfl⟩)
    | ((go_at_call_of 35 (Value.string (bs l))); refine (iValid_any l hl _).mono ?_; rintro e w1 ⟨rfl, rfl⟩))
  go_ret2
  exact ⟨rfl, by assumption⟩

set_option maxHeartbeats 400000 in
theorem iAC_no2 (u l : List UInt8) (hu : u.length ≤ 1048576) (hl : l.length ≤ 1048576) (h1 : vld u = true) (h2 : vld l = false) (w : World) :
    Calls Try.prog 27 #[.string (bs u), .string (bs l)] w fun e w' => e = .returned (.tuple #[.bool false, .int .i64 1]) ∧ Below w.heap.size w w' := by
  have hB0 := Below.refl w.heap.size w
  go_enter Try.func27, Try.ntmps27
  go_wp2_with (first
    | ((go_at_call_of 35 (Value.string (bs u))); refine (iValid_any u hu _).mono ?_; rintro e w1 ⟨rfl, rfl⟩)
    | ((go_at_call_of 35 (Value.string (bs l))); refine (iValid_any l hl _).mono ?_; rintro e w1 ⟨rfl, rfl⟩))
  go_ret2
  exact ⟨rfl, by assumption⟩

set_option maxHeartbeats 400000 in
theorem iAC_yes (u l : List UInt8) (hu : u.length ≤ 1048576) (hl : l.length ≤ 1048576) (h1 : vld u = true) (h2 : vld l = true) (w : World) :
    Calls Try.prog 27 #[.string (bs u), .string (bs l)] w fun e w' => e = .returned (.tuple #[.bool (conj u l), .int .i64 0]) ∧ Below w.heap.size w w' := by
  have hB0 := Below.refl w.heap.size w
  have H1 := Lib.hid h1
  have H2 := Lib.hid h2
  have a1 := (vld_iff.1 h1).2
  have a2 := (vld_iff.1 h2).2
  have d := conj_str u l
  go_enter Try.func27, Try.ntmps27
  go_wp2_with (first
    | ((go_at_call_of 35 (Value.string (bs u))); refine (iValid_any u hu _).mono ?_; rintro e w1 ⟨rfl, rfl⟩)
    | ((go_at_call_of 35 (Value.string (bs l))); refine (iValid_any l hl _).mono ?_; rintro e w1 ⟨rfl, rfl⟩)
    | ((go_at_call_of 54 (Value.string (bs u))); refine (iLeast_any u (by omega) (vld_iff.1 H1.out).1 _).mono ?_; rintro e w1 ⟨rfl, hb1⟩; have hB := bl_call hb1 (by assumption); clear hb1)
    | ((go_at_call_of 54 (Value.string (bs l))); refine (iLeast_any l (by omega) (vld_iff.1 H2.out).1 _).mono ?_; rintro e w1 ⟨rfl, hb1⟩; have hB := bl_call hb1 (by assumption); clear hb1))
  go_ret2
  exact ⟨rfl, by assumption⟩





end Go.Proofs.Ytejmbbnhdojcbaa
