/- CommonStart and CyclicCore: the walks of both sides and of the laws. Conditions: none. -/
import Derived.Test.YtejmbbnhdojcbaaSmall
namespace Go.Proofs.Ytejmbbnhdojcbaa
open Go.RowKit
set_option linter.unusedVariables false

/-- The first place from s on at which p fails; at most f places are looked at. -/
def cnt (p : Nat → Bool) : Nat → Nat → Nat
  | 0, n => n
  | f + 1, n => if p n then cnt p f (n + 1) else n
theorem cnt_of {p : Nat → Bool} : ∀ (f s k : Nat), s ≤ k → k < s + f → (∀ j, s ≤ j → j < k → p j = true) → p k = false → cnt p f s = k
  | 0, s, k, h1, h2, _, _ => by omega
  | f + 1, s, k, h1, h2, h3, h4 => by
    unfold cnt
    by_cases e : s = k
    · subst e; simp [h4]
    · rw [if_pos (h3 s (Nat.le_refl _) (by omega))]
      exact cnt_of f (s + 1) k (by omega) (by omega) (fun j hj hk => h3 j (by omega) hk) h4
theorem cnt_spec {p : Nat → Bool} (hb : ∃ k, k < 1000 ∧ p k = false) : (∀ j, j < cnt p 1000 0 → p j = true) ∧ p (cnt p 1000 0) = false := by
  have key : ∀ n, p n = false → ∃ k, k ≤ n ∧ p k = false ∧ ∀ j, j < k → p j = true := by
    intro n
    induction n using Nat.strongRecOn with
    | ind n ih =>
      intro hn
      by_cases h : ∃ j, j < n ∧ p j = false
      · obtain ⟨j, hj, hp⟩ := h
        obtain ⟨k, h1, h2, h3⟩ := ih j hj hp
        exact ⟨k, by omega, h2, h3⟩
      · refine ⟨n, Nat.le_refl _, hn, fun j hj => ?_⟩
        cases hp : p j
        · exact absurd ⟨j, hj, hp⟩ h
        · rfl
  obtain ⟨n, hn, hp⟩ := hb
  obtain ⟨k, h1, h2, h3⟩ := key n hp
  have e := cnt_of (p := p) 1000 0 k (Nat.zero_le _) (by omega) (fun j _ hj => h3 j hj) h2
  rw [e]
  exact ⟨h3, h2⟩

/-- Do two texts have one byte at a place? -/
def alike (u l : List UInt8) (n : Nat) : Bool := decide (n < u.length) && decide (n < l.length) && (atb u n == atb l n)
/-- With how many letters do two texts begin alike? -/
def com (u l : List UInt8) : Nat := cnt (alike u l) 1000 0
theorem alike_out (u l : List UInt8) (n : Nat) (h : u.length ≤ n) : alike u l n = false := by unfold alike; simp; omega
theorem byte_eq {a b : UInt8} (h : a = b) : (((a.toNat : Nat) : Int) == (b.toNat : Int)) = true := by rw [h]; simp
theorem byte_ne {a b : UInt8} (h : ¬ a = b) : (((a.toNat : Nat) : Int) == (b.toNat : Int)) = false := by
  rw [beq_eq_false_iff_ne]; intro e; exact h (UInt8.toNat_inj.1 (by omega))











/-- Does a letter of a word stand opposite to its inverse? -/
def facing (v : List UInt8) (n : Nat) : Bool := decide (2 ≤ (v.length : Int) - 2 * n) && (atb v n == Wd.oth (atb v (v.length - 1 - n)))
/-- How many letters of a reduced word stand in front of its core. -/
def front (v : List UInt8) : Nat := cnt (facing v) 1000 0
def coreOf (l : List UInt8) : List UInt8 := ((Wd.red l).take ((Wd.red l).length - front (Wd.red l))).drop (front (Wd.red l))
def frontOf (l : List UInt8) : List UInt8 := (Wd.red l).take (front (Wd.red l))
@[go_sem] theorem bs_extract (l : List UInt8) (a b : Nat) : (bs l).extract a b = bs ((l.take b).drop a) := by
  apply ByteArray.ext
  simp [bs, ByteArray.data_extract, List.extract_toArray, List.drop_take]


set_option maxHeartbeats 800000 in
theorem iCore_any (l : List UInt8) (hl : l.length ≤ 1000) (hL : ∀ x ∈ l, Wd.isL x = true) (w : World) :
    Calls Try.prog 51 #[.string (bs l)] w fun e w' => e = .returned (.tuple #[.string (bs (coreOf l)), .string (bs (frontOf l))]) ∧ Below w.heap.size w w' := by
  have hl2 : l.length ≤ 1048576 := by omega
  have hB0 := Below.refl w.heap.size w
  have hR := fun w => iRed_any l hl2 w
  have hV := Wd.all_red hL
  have rl := (Wd.red_length l).1
  unfold coreOf frontOf
  generalize Wd.red l = v at *
  have HR := Lib.hid hR
  have HV := Lib.hid hV
  clear hR
  go_enter Try.func51, Try.ntmps51
  go_wp2_with ((go_at_call 53); refine (HR.out _).mono ?_; rintro e w1 ⟨rfl, hb1⟩; have hB := bl_call hb1 (by assumption); clear hb1)
  rename_i wx
  go_loopw [5] (fun i wr => ∃ k : Nat, 2 * k ≤ v.length ∧ i = .int .i64 k ∧ (∀ j, j < k → facing v j = true) ∧ Below w.heap.size w wr) (fun i _ => v.length - (intOf i).toNat)
  case atStart => exact ⟨0, by omega, rfl, fun j hj => by omega, by assumption⟩
  case round =>
    obtain ⟨k, hk, rfl, hn, hbel⟩ := hrel
    have HN := Lib.hid hn
    have fin : facing v k = false → front v = k := fun h => cnt_of 1000 0 k (by omega) (by omega) (fun j _ hj => HN.out j hj) h
    have HF := Lib.hid fin
    have i0 : (0 : Int) ≤ k := by omega
    have i00 : (k : Int) ≤ 1000 := by omega
    have i01 : (v.length : Int) ≤ 1000 := by omega
    clear hn fin
    by_cases g1 : 2 ≤ (v.length : Int) - 2 * k
    · have i1 : (k : Int) < v.length := by omega
      obtain ⟨m, hm⟩ : ∃ m, m = v.length - 1 - k := ⟨_, rfl⟩
      have i3 : (m : Int) < v.length := by omega
      have fc : facing v k = (atb v k == Wd.oth (atb v m)) := by unfold facing; rw [hm]; simp [g1]
      have FC := Lib.hid fc
      have HM := Lib.hid hm
      clear fc hm
      have hsame : ∀ w n, Calls Try.prog 43 #[.int .u8 (atb v m).toNat] (World.drewN w n) fun e w'' => e = .returned (.int .u8 (Wd.oth (atb v m)).toNat) ∧ w'' = World.drewN w n := fun w n => (iOther_any (atb v m) _).mono fun _ _ ⟨h1, h2⟩ => ⟨h1, h2.symm⟩
      have HSame := Lib.hid hsame
      clear hsame hV
      by_cases g3 : atb v k = Wd.oth (atb v m)
      · have d := byte_eq g3
        have ha : facing v k = true := by rw [FC.out]; simp [g3]
        have HA := Lib.hid ha
        clear ha g3
        go_wp2
        have q1 : IntKind.i64.wrap (2 * (k : Int)) = 2 * k := Go.IntWalk.i64_in _ (by omega)
        have q2 : IntKind.i64.wrap ((v.length : Int) - 2 * k) = v.length - 2 * k := Go.IntWalk.i64_in _ (by omega)
        have q3 : IntKind.i64.wrap ((v.length : Int) - 1) = v.length - 1 := Go.IntWalk.i64_in _ (by omega)
        have q4 : IntKind.i64.wrap ((v.length : Int) - 1 - k) = (m : Int) := by have hm := HM.out; rw [show (m : Int) = (v.length : Int) - 1 - k by omega]; exact Go.IntWalk.i64_in _ (by omega)
        go_quiet ((go_at_call 43; exact Calls.quiet_of_same (HSame.out _ _)))
        clear q1 q2 q3 q4
        go_wp2
        go_roundw
        case rel => exact ⟨k + 1, by omega, by go_num, fun j hj => if h : j = k then h ▸ HA.out else HN.out j (by omega), below_drewN hbel _⟩
        case measure => simp [intOf]; omega
      · have d := byte_ne g3
        have he := HF.out (by rw [FC.out]; simp [g3])
        have HE := Lib.hid he
        have b1 : (k : Int) ≤ (v.length : Int) - k := by omega
        have b2 : (v.length : Int) - k ≤ v.length := by omega
        have b3 : ((v.length : Int) - k).toNat = v.length - k := by omega
        clear he g3
        go_wp2
        have q1 : IntKind.i64.wrap (2 * (k : Int)) = 2 * k := Go.IntWalk.i64_in _ (by omega)
        have q2 : IntKind.i64.wrap ((v.length : Int) - 2 * k) = v.length - 2 * k := Go.IntWalk.i64_in _ (by omega)
        have q3 : IntKind.i64.wrap ((v.length : Int) - 1) = v.length - 1 := Go.IntWalk.i64_in _ (by omega)
        have q4 : IntKind.i64.wrap ((v.length : Int) - 1 - k) = (m : Int) := by have hm := HM.out; rw [show (m : Int) = (v.length : Int) - 1 - k by omega]; exact Go.IntWalk.i64_in _ (by omega)
        go_quiet ((go_at_call 43; exact Calls.quiet_of_same (HSame.out _ _)))
        clear q1 q2 q3 q4
        go_wp2
        have q5 : IntKind.i64.wrap ((v.length : Int) - k) = v.length - k := Go.IntWalk.i64_in _ (by omega)
        go_quiet (fail)
        clear q5
        go_wp2
        go_ret2
        exact ⟨by rw [HE.out]; rfl, below_drewN (below_drewN hbel _) _⟩
    · have i1 : decide (2 ≤ (v.length : Int) - 2 * k) = false := by simp; omega
      have he := HF.out (by unfold facing; simp [g1])
      have HE := Lib.hid he
      have b1 : (k : Int) ≤ (v.length : Int) - k := by omega
      have b2 : (v.length : Int) - k ≤ v.length := by omega
      have b3 : ((v.length : Int) - k).toNat = v.length - k := by omega
      clear he g1 hV
      go_wp2
      have q1 : IntKind.i64.wrap (2 * (k : Int)) = 2 * k := Go.IntWalk.i64_in _ (by omega)
      have q2 : IntKind.i64.wrap ((v.length : Int) - 2 * k) = v.length - 2 * k := Go.IntWalk.i64_in _ (by omega)
      go_quiet (fail)
      clear q1 q2
      go_wp2
      have q5 : IntKind.i64.wrap ((v.length : Int) - k) = v.length - k := Go.IntWalk.i64_in _ (by omega)
      go_quiet (fail)
      clear q5
      go_wp2
      go_ret2
      exact ⟨by rw [HE.out]; rfl, below_drewN (below_drewN hbel _) _⟩

end Go.Proofs.Ytejmbbnhdojcbaa
