/- CompareWords: the walks of both sides and of the law. Conditions: none. -/
import Derived.Test.YtejmbbnhdojcbaaCom
namespace Go.Proofs.Ytejmbbnhdojcbaa
open Go.RowKit
set_option linter.unusedVariables false

theorem first_lno (c : UInt8) : firstIdx (bs letters) c = lno c := by
  have := Wd.allU8 (p := fun c => firstIdx (bs letters) c == lno c) (by decide +kernel) c
  simpa using this
theorem ext_index (c : UInt8) (w : World) : (callFunc 83 #[.string (bs letters), .int .u8 c.toNat]).run Try.prog w = .ok (.value (.int .i64 (lno c))) w := by
  rw [run_callFunc_extern (e := Extern.BytealgIndexByte.indexByte) Try.func83 (by kernel_rfl) (by kernel_rfl) (by kernel_rfl) (by kernel_rfl), run_indexByte_string]
  have e : (c.toNat : Int).toNat.toUInt8 = c := by simp
  rw [e, first_lno]
  rfl
set_option maxHeartbeats 400000 in
theorem place_any (c : UInt8) (w : World) :
    Calls Try.prog 45 #[.int .u8 c.toNat] w fun e w' => e = .returned (.int .i64 (lno c)) ∧ w = w' := by
  have hx := ext_index c
  go_enter Try.func45, Try.ntmps45
  go_wp2
  go_ret
  exact ⟨rfl, rfl⟩

/-- -1, 0 or 1. -/
def cmpI (a b : Int) : Int := if a < b then -1 else if b < a then 1 else 0
set_option maxHeartbeats 400000 in
theorem cmp_any (a b : Int) (w : World) :
    Calls Try.prog 64 #[.int .i64 a, .int .i64 b] w fun e w' => e = .returned (.int .i64 (cmpI a b)) ∧ w = w' := by
  have da : (a == a) = true := by simp
  rcases Int.lt_trichotomy a b with h | h | h
  · have e : cmpI a b = -1 := by simp [cmpI, h]
    have E := Lib.hid e
    clear e
    go_enter Try.func64, Try.ntmps64
    go_wp2
    go_ret
    exact ⟨by rw [E.out]; rfl, rfl⟩
  · subst h
    have e : cmpI a a = 0 := by simp [cmpI]
    have E := Lib.hid e
    clear e
    go_enter Try.func64, Try.ntmps64
    go_wp2
    go_ret
    exact ⟨by rw [E.out]; rfl, rfl⟩
  · have e : cmpI a b = 1 := by simp [cmpI, h]; omega
    have E := Lib.hid e
    have h2 : decide (a < b) = false := by simp; omega
    clear e
    go_enter Try.func64, Try.ntmps64
    go_wp2
    go_ret
    exact ⟨by rw [E.out]; rfl, rfl⟩

/-- The first place at which two texts of one length part. -/
def diffAt (u l : List UInt8) : Nat := cnt (fun n => decide (n < u.length) && (atb u n == atb l n)) 1000 0
/-- The order of two words. -/
def cmpL (u l : List UInt8) : Int :=
  if u.length = l.length then (if diffAt u l = u.length then 0 else cmpI (lno (atb u (diffAt u l))) (lno (atb l (diffAt u l)))) else cmpI u.length l.length
theorem diffAt_of {u l : List UInt8} {k : Nat} (hk : k ≤ u.length) (hu : u.length ≤ 900) (hn : ∀ j, j < k → atb u j = atb l j) (he : k = u.length ∨ atb u k ≠ atb l k) : diffAt u l = k := by
  refine cnt_of 1000 0 k (Nat.zero_le _) (by omega) (fun j _ hj => by simp [hn j hj]; omega) ?_
  rcases he with h | h
  · simp [h]
  · simp [h]
theorem lno_inj {a b : UInt8} (ha : Wd.isL a = true) (hb : Wd.isL b = true) (h : lno a = lno b) : a = b := by
  obtain ⟨a1, a2, _, _⟩ := letter_at a ha
  obtain ⟨b1, b2, _, _⟩ := letter_at b hb
  unfold lno at h
  rw [if_pos a1, if_pos b1] at h
  have : lnoN a = lnoN b := by omega
  rw [← a2, ← b2, this]


set_option maxHeartbeats 1600000 in
theorem iCmp_any (u l : List UInt8) (hu : u.length ≤ 900) (hl : l.length ≤ 900) (hU : ∀ x ∈ u, Wd.isL x = true) (hL : ∀ x ∈ l, Wd.isL x = true) (w : World) :
    Calls Try.prog 47 #[.string (bs u), .string (bs l)] w fun e w' => e = .returned (.int .i64 (cmpL u l)) ∧ Below w.heap.size w w' := by
  by_cases he : u.length = l.length
  · have d0 : ((u.length : Int) != (l.length : Int)) = false := by rw [he]; simp
    have d00 : ((u.length : Int) == (l.length : Int)) = true := by rw [he]; simp
    have HE := Lib.hid he
    clear he
    go_enter Try.func47, Try.ntmps47
    go_wp2
    go_loopw [18] (fun i wr => ∃ k : Nat, k ≤ u.length ∧ i = .int .i64 k ∧ (∀ j, j < k → atb u j = atb l j) ∧ Below w.heap.size w wr) (fun i _ => u.length - (intOf i).toNat)
    case atStart => exact ⟨0, by omega, rfl, fun j hj => by omega, Below.refl _ _⟩
    case round =>
      obtain ⟨k, hk, rfl, hn, hbel⟩ := hrel
      have HN := Lib.hid hn
      have i0 : (0 : Int) ≤ k := by omega
      clear hn
      by_cases g1 : k < u.length
      · have i1 : (k : Int) < u.length := by omega
        have i2 : (k : Int) < l.length := by have := HE.out; omega
        by_cases g3 : atb u k = atb l k
        · have d := byte_eq g3
          have d2 : (((atb u k).toNat : Int) != ((atb l k).toNat : Int)) = false := by rw [g3]; simp
          have HA := Lib.hid g3
          clear g3 hU hL
          go_wp2
          go_quiet (fail)
          go_wp2
          go_roundw
          case rel => exact ⟨k + 1, by omega, by go_num, fun j hj => if h : j = k then h ▸ HA.out else HN.out j (by omega), below_drewN hbel _⟩
          case measure => simp [intOf]; omega
        · have d := byte_ne g3
          have d2 : (((atb u k).toNat : Int) != ((atb l k).toNat : Int)) = true := by rw [bne, d]; rfl
          have hr : cmpL u l = cmpI (lno (atb u k)) (lno (atb l k)) := by
            have e := diffAt_of hk hu HN.out (.inr g3)
            unfold cmpL; rw [if_pos HE.out, e, if_neg (by omega)]
          have E := Lib.hid hr
          clear hr g3 hU hL
          have hsU : ∀ w n, Calls Try.prog 45 #[.int .u8 (atb u k).toNat] (World.drewN w n) fun e w'' => e = .returned (.int .i64 (lno (atb u k))) ∧ w'' = World.drewN w n := fun w n => (place_any (atb u k) _).mono fun _ _ ⟨h1, h2⟩ => ⟨h1, h2.symm⟩
          have hsL : ∀ w n, Calls Try.prog 45 #[.int .u8 (atb l k).toNat] (World.drewN w n) fun e w'' => e = .returned (.int .i64 (lno (atb l k))) ∧ w'' = World.drewN w n := fun w n => (place_any (atb l k) _).mono fun _ _ ⟨h1, h2⟩ => ⟨h1, h2.symm⟩
          have HU := Lib.hid hsU
          have HL := Lib.hid hsL
          have hsC : ∀ a b w n, Calls Try.prog 64 #[.int .i64 a, .int .i64 b] (World.drewN w n) fun e w'' => e = .returned (.int .i64 (cmpI a b)) ∧ w'' = World.drewN w n := fun a b w n => (cmp_any a b _).mono fun _ _ ⟨h1, h2⟩ => ⟨h1, h2.symm⟩
          have HC := Lib.hid hsC
          clear hsU hsL hsC
          go_wp2
          go_quiet (fail)
          obtain ⟨wq, hwq⟩ : ∃ wq, wq = World.drewN wr nq := ⟨_, rfl⟩
          have hbelq : Below w.heap.size w wq := hwq ▸ below_drewN hbel _
          rw [← hwq]
          have HWQ := Lib.hid hwq
          clear hwq hbel
          go_wp2
          go_quiet ((first
            | (go_at_call_of 45 (Value.int IntKind.u8 ↑(atb u k).toNat); exact Calls.quiet_of_same (HU.out _ _))
            | (go_at_call_of 45 (Value.int IntKind.u8 ↑(atb l k).toNat); exact Calls.quiet_of_same (HL.out _ _))
            | (go_at_call 64; exact Calls.quiet_of_same (HC.out _ _ _ _))))
          go_wp2
          go_ret
          exact ⟨by rw [E.out]; rfl, below_drewN hbelq _⟩
      · obtain rfl : k = u.length := by omega
        have hr : cmpL u l = 0 := by
          have e := diffAt_of (Nat.le_refl _) hu HN.out (.inl rfl)
          unfold cmpL; rw [if_pos HE.out, if_pos e]
        have E := Lib.hid hr
        clear hr hU hL
        go_wp2
        go_ret
        exact ⟨by rw [E.out]; rfl, hbel⟩
  · have d0 : ((u.length : Int) != (l.length : Int)) = true := by rw [bne_iff_ne]; omega
    have d00 : ((u.length : Int) == (l.length : Int)) = false := by rw [beq_eq_false_iff_ne]; omega
    have e : cmpL u l = cmpI u.length l.length := by unfold cmpL; rw [if_neg he]
    have E := Lib.hid e
    clear e
    go_enter Try.func47, Try.ntmps47
    go_wp2_with (go_at_call 64; refine (cmp_any _ _ _).mono ?_; rintro e w1 ⟨rfl, rfl⟩)
    go_ret
    exact ⟨by rw [E.out]; rfl, Below.refl _ _⟩




set_option maxHeartbeats 400000 in
theorem iCmp_no1 (u l : List UInt8) (hu : u.length ≤ 1048576) (hl : l.length ≤ 1048576) (h1 : vld u = false) (w : World) :
    Calls Try.prog 20 #[.string (bs u), .string (bs l)] w fun e w' => e = .returned (.tuple #[.int .i64 0, .int .i64 1]) ∧ Below w.heap.size w w' := by
  have hB0 := Below.refl w.heap.size w
  go_enter Try.func20, Try.ntmps20
  go_wp2_with (first
    | ((go_at_call_of 35 (Value.string (bs u))); refine (iValid_any u hu _).mono ?_; rintro e w1 ⟨rfl, rfl⟩)
    | ((go_at_call_of 35 (Value.string (bs l))); refine (iValid_any l hl _).mono ?_; rintro e w1 ⟨rfl, rfl⟩))
  go_ret2
  exact ⟨rfl, by assumption⟩

set_option maxHeartbeats 400000 in
theorem iCmp_no2 (u l : List UInt8) (hu : u.length ≤ 1048576) (hl : l.length ≤ 1048576) (h1 : vld u = true) (h2 : vld l = false) (w : World) :
    Calls Try.prog 20 #[.string (bs u), .string (bs l)] w fun e w' => e = .returned (.tuple #[.int .i64 0, .int .i64 1]) ∧ Below w.heap.size w w' := by
  have hB0 := Below.refl w.heap.size w
  go_enter Try.func20, Try.ntmps20
  go_wp2_with (first
    | ((go_at_call_of 35 (Value.string (bs u))); refine (iValid_any u hu _).mono ?_; rintro e w1 ⟨rfl, rfl⟩)
    | ((go_at_call_of 35 (Value.string (bs l))); refine (iValid_any l hl _).mono ?_; rintro e w1 ⟨rfl, rfl⟩))
  go_ret2
  exact ⟨rfl, by assumption⟩

set_option maxHeartbeats 400000 in
theorem iCmp_yes (u l : List UInt8) (hu : u.length ≤ 1048576) (hl : l.length ≤ 1048576) (h1 : vld u = true) (h2 : vld l = true) (w : World) :
    Calls Try.prog 20 #[.string (bs u), .string (bs l)] w fun e w' => e = .returned (.tuple #[.int .i64 (cmpL u l), .int .i64 0]) ∧ Below w.heap.size w w' := by
  have hB0 := Below.refl w.heap.size w
  have H1 := Lib.hid h1
  have H2 := Lib.hid h2
  go_enter Try.func20, Try.ntmps20
  go_wp2_with (first
    | ((go_at_call_of 35 (Value.string (bs u))); refine (iValid_any u hu _).mono ?_; rintro e w1 ⟨rfl, rfl⟩)
    | ((go_at_call_of 35 (Value.string (bs l))); refine (iValid_any l hl _).mono ?_; rintro e w1 ⟨rfl, rfl⟩)
    | ((go_at_call 47); refine (iCmp_any u l (by have := (vld_iff.1 H1.out).2; omega) (by have := (vld_iff.1 H2.out).2; omega) (vld_iff.1 H1.out).1 (vld_iff.1 H2.out).1 _).mono ?_; rintro e w1 ⟨rfl, hb1⟩; have hB := bl_call hb1 (by assumption); clear hb1))
  go_ret2
  exact ⟨rfl, by assumption⟩





end Go.Proofs.Ytejmbbnhdojcbaa
