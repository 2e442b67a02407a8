/- ReducedAt: the walks of both sides and of the law. Conditions: none. -/
import Derived.Test.YtejmbbnhdojcbaaRank
namespace Go.Proofs.Ytejmbbnhdojcbaa
open Go.RowKit
set_option linter.unusedVariables false

/-- May letter x not stand behind a word? -/
def badB (u : List UInt8) (x : Nat) : Bool := decide (u.length ≠ 0) && (atb u (u.length - 1) == Wd.oth (atb letters x))
/-- The search for the next letter: r letters are left from x on; k words are still to be passed, M behind each letter. -/
def pick (M : Int) (u : List UInt8) : Nat → Nat → Int → List UInt8 × Int
  | 0, _, k => (u, k)
  | r + 1, x, k => if badB u x then pick M u r (x + 1) k else if k < M then (u ++ [atb letters x], k) else pick M u r (x + 1) (k - M)
/-- The word with a number: n letters are still to come. -/
def atR (g : Int) (p : Nat) : Nat → List UInt8 × Int → List UInt8 × Int
  | 0, s => s
  | n + 1, s => atR g p n (pick (wy g true n) s.1 p 0 s.2)
theorem pick_end {M : Int} {u : List UInt8} {x : Nat} {k : Int} {R : List UInt8 × Int} {r : Nat} (h : pick M u r x k = R) (hr : r = 0) : R.1 = u ∧ R.2 = k := by
  subst hr; rw [← h]; exact ⟨rfl, rfl⟩
theorem pick_bad {M : Int} {u : List UInt8} {x : Nat} {k : Int} {R : List UInt8 × Int} {r : Nat} (h : pick M u (r + 1) x k = R) (hb : badB u x = true) : pick M u r (x + 1) k = R := by
  unfold pick at h; rwa [if_pos hb] at h
theorem pick_hit {M : Int} {u : List UInt8} {x : Nat} {k : Int} {R : List UInt8 × Int} {r : Nat} (h : pick M u (r + 1) x k = R) (hb : badB u x = false) (hk : k < M) : R.1 = u ++ [atb letters x] ∧ R.2 = k := by
  unfold pick at h; rw [if_neg (by simp [hb]), if_pos hk] at h; rw [← h]; exact ⟨rfl, rfl⟩
theorem pick_next {M : Int} {u : List UInt8} {x : Nat} {k : Int} {R : List UInt8 × Int} {r : Nat} (h : pick M u (r + 1) x k = R) (hb : badB u x = false) (hk : ¬ k < M) : pick M u r (x + 1) (k - M) = R := by
  unfold pick at h; rwa [if_neg (by simp [hb]), if_neg hk] at h
theorem pick_lim {M : Int} {u : List UInt8} (hM : 1 ≤ M) : ∀ (r x : Nat) (k : Int), 0 ≤ k → 0 ≤ (pick M u r x k).2 ∧ (pick M u r x k).2 ≤ k ∧ (pick M u r x k).1.length ≤ u.length + 1
  | 0, _, k, h => by simp [pick]; omega
  | r + 1, x, k, h => by
    unfold pick
    split
    · exact pick_lim hM r (x + 1) k h
    · split
      · simp; omega
      · have := pick_lim (u := u) hM r (x + 1) (k - M) (by omega); omega
theorem let_one' : ∀ x : Nat, x < 8 → (letters.take (x + 1)).drop x = [atb letters x] := by decide +kernel
theorem own_call {w w' : World} {B : Nat} {e : TypeId} {v : Value} {l : List UInt8} (h : Own w B e v l) (hb : Below w.heap.size w w') : Own w' B e v l := by
  refine ⟨⟨h.1.1, ?_⟩, h.2⟩
  rcases h.1.2 with h0 | ⟨g, cap, cur, h1, h2, h3, h4⟩
  · exact .inl h0
  · exact .inr ⟨g, cap, cur, h1, h2, by rw [hb.block _ (Array.getElem?_eq_some_iff.1 h3).1]; exact h3, h4⟩

set_option maxHeartbeats 6400000 in
theorem sAt_yes (g : Int) (p : Nat) (hgp : 2 * g = (p : Int)) (n : Nat) (k : Int) (hg : 1 ≤ g) (hg4 : g ≤ 4) (hn : n ≤ 12) (hk : 0 ≤ k) (hkt : k ≤ wy g false n - 1) (w : World) :
    Calls Try.prog 21 #[.int .i64 g, .int .i64 n, .int .i64 k] w fun e w' => e = .returned (.tuple #[.string (bs (atR g p n ([], k)).1), .int .i64 0]) ∧ Below w.heap.size w w' := by
  have hB0 := Below.refl w.heap.size w
  have i0 : (0 : Int) ≤ n := by omega
  have i12 : (n : Int) ≤ 12 := by omega
  have p8 : p ≤ 8 := by omega
  obtain ⟨t1, t2⟩ := wy_lim (b := false) hg hg4 n hn
  have HT := Lib.hid (show ∀ w, _ from fun w => sWays_any g hg hg4 false n hn w)
  obtain ⟨T, hT⟩ : ∃ T, T = wy g false n := ⟨_, rfl⟩
  rw [← hT] at hkt t1 t2 HT
  clear hT
  go_enter Try.func21, Try.ntmps21
  go_wp2_with (first
    | (go_at_call 48; refine (sCtd_yes g n hg hg4 (by omega) (by omega) _).mono ?_; rintro e w1 ⟨rfl, rfl⟩)
    | (go_at_call 50; refine (HT.out _).mono ?_; rintro e w1 ⟨rfl, rfl⟩)
    | (go_at_call 49; refine (sIn_in k _ _ hk (by omega) _).mono ?_; rintro e w1 ⟨rfl, rfl⟩))
  go_loopw [9, 10, 2] (fun o i q wr => ∃ (m : Nat) (u : List UInt8) (k1 : Int), m ≤ 12 ∧ u.length + m ≤ 12 ∧ 0 ≤ k1 ∧ k1 ≤ 68719476736 ∧ i = .int .i64 ((m : Int) - 1) ∧ o = .string (bs u) ∧ q = .int .i64 k1 ∧ atR g p m (u, k1) = atR g p n ([], k) ∧ Below w.heap.size w wr) (fun _ i _ _ => (intOf i + 1).toNat)
  case atStart => exact ⟨n, [], k, hn, by simp; omega, hk, by omega, rfl, rfl, rfl, rfl, hB0⟩
  case round =>
    obtain ⟨m, u, k1, hm, hum, hk1, hk2, rfl, rfl, rfl, hat, hb⟩ := hrel
    have HAt0 := Lib.hid hat
    clear hat
    cases m with
    | succ m =>
      have e0 : ((m + 1 : Nat) : Int) - 1 = (m : Int) := by omega
      rw [e0]
      clear e0
      have m0 : (0 : Int) ≤ m := by omega
      obtain ⟨q1, q2⟩ := wy_lim (b := true) hg hg4 m (by omega)
      have HW := Lib.hid (show ∀ w, _ from fun w => sWays_any g hg hg4 true m (by omega) w)
      obtain ⟨R, hR⟩ : ∃ R, R = pick (wy g true m) u p 0 k1 := ⟨_, rfl⟩
      have hAt : atR g p m (R.1, R.2) = atR g p n ([], k) := by rw [← HAt0.out, hR]; rfl
      have HAt := Lib.hid hAt
      obtain ⟨M, hM⟩ : ∃ M, M = wy g true m := ⟨_, rfl⟩
      rw [← hM] at HW q1 q2 hR
      have HR0 := Lib.hid hR.symm
      clear hM hR hAt
      have ul : u.length ≤ 12 := by omega
      go_wp2_with (go_at_call 50; refine (HW.out _).mono ?_; rintro e w1 ⟨rfl, rfl⟩)
      go_loopw [9, 12, 2] (fun o i q wr => ∃ (x : Nat) (k2 : Int), x ≤ p ∧ 0 ≤ k2 ∧ k2 ≤ 68719476736 ∧ i = .int .i64 x ∧ o = .string (bs u) ∧ q = .int .i64 k2 ∧ pick M u (p - x) x k2 = R ∧ Below w.heap.size w wr) (fun _ i _ _ => p - (intOf i).toNat)
      case atStart => exact ⟨0, k1, by omega, hk1, hk2, rfl, rfl, rfl, HR0.out, hb⟩
      case round =>
        obtain ⟨x, k2, hx, hk3, hk4, rfl, rfl, rfl, hp, hbx⟩ := hrel
        have HP := Lib.hid hp
        have x0 : (0 : Int) ≤ x := by omega
        clear hp
        by_cases g2 : x < p
        · have x1 : (x : Int) < p := by omega
          have HPx := Lib.hid (show pick M u (p - x - 1 + 1) x k2 = R by rw [show p - x - 1 + 1 = p - x by omega]; exact HP.out)
          obtain ⟨t1, t2⟩ := let_xor x (by omega)
          have t3 := xor_one x (by omega)
          obtain ⟨y, hy⟩ : ∃ y, y = x ^^^ 1 := ⟨_, rfl⟩
          rw [← hy] at t1 t2 t3
          have y1 : (y : Int) < letters.length := by rw [letters_len]; omega
          have y0 : (0 : Int) ≤ y := by omega
          have xl : (x : Int) + 1 ≤ letters.length := by rw [letters_len]; omega
          have T1 := Lib.hid t1
          have L1 := Lib.hid (let_one' x (by omega))
          clear hy t1
          by_cases hu0 : u.length = 0
          · have hbd : badB u x = false := by unfold badB; simp [hu0]
            have d : decide (0 < u.length) = false := by simp [hu0]
            have d' : decide ((0 : Int) < u.length) = false := by simp [hu0]
            have HU0 := Lib.hid hu0
            clear hu0
            by_cases hkM : k2 < M
            · have HP2 := Lib.hid (pick_hit HPx.out hbd hkM)
              clear hbd
              go_wp2
              go_quiet (fail)
              go_wp2
              go_roundw
              case rel => exact ⟨m, u ++ [atb letters x], k2, by omega, by simp; omega, hk3, hk4, by go_num, by rw [← L1.out], rfl, by rw [← HAt.out, ← HP2.out.1, ← HP2.out.2], below_drewN hbx _⟩
              case measure => simp [intOf] <;> omega
            · have HP2 := Lib.hid (pick_next HPx.out hbd hkM)
              clear hbd
              go_wp2
              go_quiet (fail)
              go_wp2
              go_roundw
              case rel => exact ⟨x + 1, k2 - M, by omega, by omega, by omega, by go_num, rfl, rfl, by rw [show p - (x + 1) = p - x - 1 by omega]; exact HP2.out, below_drewN hbx _⟩
              case measure => simp [intOf]; omega
          · have d : 0 < u.length := by omega
            have d' : (0 : Int) < u.length := by omega
            obtain ⟨j, hj⟩ : ∃ j, j = u.length - 1 := ⟨_, rfl⟩
            have ej : (u.length : Int) - 1 = (j : Int) := by omega
            have j1 : (j : Int) < u.length := by omega
            have j0 : (0 : Int) ≤ j := by omega
            by_cases hne : atb u j = Wd.oth (atb letters x)
            · have hbd : badB u x = true := by unfold badB; rw [← hj]; simp [hne, hu0]
              have d2 : (((atb u j).toNat : Int) == ((atb letters y).toNat : Int)) = true := by rw [T1.out, hne]; simp
              have HP2 := Lib.hid (pick_bad HPx.out hbd)
              clear hbd hne hj hu0
              go_wp2
              have q5 : IntKind.i64.wrap ((u.length : Int) - 1) = (j : Int) := by rw [ej]; exact Go.IntWalk.i64_in _ (by omega)
              go_quiet (fail)
              clear q5
              go_wp2
              go_roundw
              case rel => exact ⟨x + 1, k2, by omega, hk3, hk4, by go_num, rfl, rfl, by rw [show p - (x + 1) = p - x - 1 by omega]; exact HP2.out, below_drewN hbx _⟩
              case measure => simp [intOf]; omega
            · have hbd : badB u x = false := by unfold badB; rw [← hj]; simp [hne]
              have d2 : (((atb u j).toNat : Int) == ((atb letters y).toNat : Int)) = false := by
                rw [T1.out, beq_eq_false_iff_ne]; intro h; exact hne (UInt8.toNat_inj.1 (by omega))
              by_cases hkM : k2 < M
              · have HP2 := Lib.hid (pick_hit HPx.out hbd hkM)
                clear hbd hne hj hu0
                go_wp2
                have q5 : IntKind.i64.wrap ((u.length : Int) - 1) = (j : Int) := by rw [ej]; exact Go.IntWalk.i64_in _ (by omega)
                go_quiet (fail)
                clear q5
                go_wp2
                go_roundw
                case rel => exact ⟨m, u ++ [atb letters x], k2, by omega, by simp; omega, hk3, hk4, by go_num, by rw [← L1.out], rfl, by rw [← HAt.out, ← HP2.out.1, ← HP2.out.2], below_drewN hbx _⟩
                case measure => simp [intOf] <;> omega
              · have HP2 := Lib.hid (pick_next HPx.out hbd hkM)
                clear hbd hne hj hu0
                go_wp2
                have q5 : IntKind.i64.wrap ((u.length : Int) - 1) = (j : Int) := by rw [ej]; exact Go.IntWalk.i64_in _ (by omega)
                go_quiet (fail)
                clear q5
                go_wp2
                go_roundw
                case rel => exact ⟨x + 1, k2 - M, by omega, by omega, by omega, by go_num, rfl, rfl, by rw [show p - (x + 1) = p - x - 1 by omega]; exact HP2.out, below_drewN hbx _⟩
                case measure => simp [intOf]; omega
        · have HP2 := Lib.hid (pick_end HP.out (by omega))
          have x2 : ¬ (x : Int) < p := by omega
          go_wp2
          go_roundw
          case rel => exact ⟨m, u, k2, by omega, by omega, hk3, hk4, by go_num, rfl, rfl, by rw [← HAt.out, ← HP2.out.1, ← HP2.out.2], hbx⟩
          case measure => simp [intOf] <;> omega
    | zero =>
      have e0 : ((0 : Nat) : Int) - 1 = -1 := by omega
      rw [e0]
      clear e0
      have E := Lib.hid (show (atR g p n ([], k)).1 = u by rw [← HAt0.out]; rfl)
      go_wp2
      go_ret2
      exact ⟨by rw [E.out]; rfl, hb⟩

set_option maxHeartbeats 6400000 in
theorem iAt_yes (g : Int) (p : Nat) (hgp : 2 * g = (p : Int)) (n : Nat) (k : Int) (hg : 1 ≤ g) (hg4 : g ≤ 4) (hn : n ≤ 12) (hk : 0 ≤ k) (hkt : k ≤ wy g false n - 1) (w : World) :
    Calls Try.prog 16 #[.int .i64 g, .int .i64 n, .int .i64 k] w fun e w' => e = .returned (.tuple #[.string (bs (atR g p n ([], k)).1), .int .i64 0]) ∧ Below w.heap.size w w' := by
  have hB0 := Below.refl w.heap.size w
  have i0 : (0 : Int) ≤ n := by omega
  have i12 : (n : Int) ≤ 12 := by omega
  have p8 : p ≤ 8 := by omega
  have p0 : (0 : Int) ≤ p := by omega
  have p8' : (p : Int) ≤ letters.length := by rw [letters_len]; omega
  have HTL := Lib.hid (show (letters.take p).length = p by rw [List.length_take, letters_len]; omega)
  obtain ⟨t1, t2⟩ := wy_lim (b := false) hg hg4 n hn
  have HT := Lib.hid (show ∀ w, _ from fun w => iWays_any g hg hg4 false n hn w)
  obtain ⟨T, hT⟩ : ∃ T, T = wy g false n := ⟨_, rfl⟩
  rw [← hT] at hkt t1 t2 HT
  clear hT
  go_enter Try.func16, Try.ntmps16
  go_wp2_with (first
    | (go_at_call_of 41 (Value.int IntKind.i64 g); refine (iIn_in g _ _ (by omega) (by omega) _).mono ?_; rintro e w1 ⟨rfl, rfl⟩)
    | (go_at_call_of 41 (Value.int IntKind.i64 (12 : Int)); refine (iIn_in n _ _ (by omega) (by omega) _).mono ?_; rintro e w1 ⟨rfl, rfl⟩)
    | (go_at_call 42; refine (HT.out _).mono ?_; rintro e w1 ⟨rfl, rfl⟩)
    | (go_at_call_of 41 (Value.int IntKind.i64 k); refine (iIn_in k _ _ (by omega) (by omega) _).mono ?_; rintro e w1 ⟨rfl, rfl⟩))
  go_loopw [8, 9, 2] (fun o i q wr => ∃ (m : Nat) (u : List UInt8) (k1 : Int), m ≤ 12 ∧ u.length + m ≤ 12 ∧ 0 ≤ k1 ∧ k1 ≤ 68719476736 ∧ i = .int .i64 ((m : Int) - 1) ∧ q = .int .i64 k1 ∧ atR g p m (u, k1) = atR g p n ([], k) ∧ Own wr w.heap.size 5 o u ∧ Below w.heap.size w wr) (fun _ i _ _ => (intOf i + 1).toNat)
  case atStart => exact ⟨n, [], k, hn, by simp; omega, hk, by omega, rfl, rfl, rfl, own_made w w.heap.size 5 (by omega), below_al (Below.refl _ _) (Nat.le_refl _) _⟩
  case round =>
    obtain ⟨m, u, k1, hm, hum, hk1, hk2, rfl, rfl, hat, hown, hb⟩ := hrel
    have HAt0 := Lib.hid hat
    obtain ⟨gg, cap, hv⟩ := own_shape hown
    subst hv
    have HO := Lib.hid hown
    clear hat hown
    cases m with
    | succ m =>
      have e0 : ((m + 1 : Nat) : Int) - 1 = (m : Int) := by omega
      rw [e0]
      clear e0
      have m0 : (0 : Int) ≤ m := by omega
      obtain ⟨q1, q2⟩ := wy_lim (b := true) hg hg4 m (by omega)
      have HW := Lib.hid (show ∀ w, _ from fun w => iWays_any g hg hg4 true m (by omega) w)
      obtain ⟨R, hR⟩ : ∃ R, R = pick (wy g true m) u p 0 k1 := ⟨_, rfl⟩
      have hAt : atR g p m (R.1, R.2) = atR g p n ([], k) := by rw [← HAt0.out, hR]; rfl
      have HAt := Lib.hid hAt
      obtain ⟨M, hM⟩ : ∃ M, M = wy g true m := ⟨_, rfl⟩
      rw [← hM] at HW q1 q2 hR
      have HR0 := Lib.hid hR.symm
      clear hM hR hAt
      have ul : u.length ≤ 12 := by omega
      go_wp2_with (first
        | (go_at_call 42; refine (HW.out _).mono ?_; rintro e w1 ⟨rfl, rfl⟩)
        | (refine wpList_bytes rfl (.tmp 43) 9 22 rfl 5 Try.underlying9 Try.underlying22 Try.underlying5 (letters.take p) rfl ?_; intro cap2 w2 hb2 hby2; rw [HTL.out]))
      have hbl2 := bl_call hb2 hb
      have hsz := hb.size
      have HO2 := Lib.hid (own_call HO.out hb2)
      obtain ⟨B, hBB⟩ : ∃ B, B = wr.heap.size := ⟨_, rfl⟩
      rw [← hBB] at hby2 ⊢
      have HBY := Lib.hid hby2
      clear hb2 hby2 hBB
      go_loopw [8, 46, 2] (fun o i q wr => ∃ (x : Nat) (k2 : Int), x ≤ p ∧ 0 ≤ k2 ∧ k2 ≤ 68719476736 ∧ i = .int .i64 x ∧ o = .slice (some ⟨gg, 0, none⟩) u.length cap ∧ q = .int .i64 k2 ∧ pick M u (p - x) x k2 = R ∧ Byts wr B (letters.take p) ∧ Own wr w.heap.size 5 (.slice (some ⟨gg, 0, none⟩) u.length cap) u ∧ Below w.heap.size w wr) (fun _ i _ _ => p - (intOf i).toNat)
      case atStart => exact ⟨0, k1, by omega, hk1, hk2, rfl, rfl, rfl, HR0.out, HBY.out, HO2.out, hbl2⟩
      case round =>
        obtain ⟨x, k2, hx, hk3, hk4, rfl, rfl, rfl, hp, hby, hox, hbx⟩ := hrel
        have HP := Lib.hid hp
        have HBX := Lib.hid hby
        have x0 : (0 : Int) ≤ x := by omega
        clear hp
        by_cases g2 : x < p
        · have x1 : (x : Int) < p := by omega
          have hcell := hby.at (j := x) (by rw [HTL.out]; exact g2)
          rw [atb_take g2] at hcell
          have HPx := Lib.hid (show pick M u (p - x - 1 + 1) x k2 = R by rw [show p - x - 1 + 1 = p - x by omega]; exact HP.out)
          have HSame := Lib.hid (show ∀ w n, Calls Try.prog 43 #[.int .u8 (atb letters x).toNat] (World.drewN w n) fun e w'' => e = .returned (.int .u8 (Wd.oth (atb letters x)).toNat) ∧ w'' = World.drewN w n from fun w n => (iOther_any (atb letters x) _).mono fun _ _ ⟨h1, h2⟩ => ⟨h1, h2.symm⟩)
          clear hby
          by_cases hu0 : u.length = 0
          · have hbd : badB u x = false := by unfold badB; simp [hu0]
            have HOX := Lib.hid hox
            have d : decide (0 < u.length) = false := by simp [hu0]
            have d' : decide ((0 : Int) < u.length) = false := by simp [hu0]
            have HU0 := Lib.hid hu0
            clear hu0 hox
            by_cases hkM : k2 < M
            · have HP2 := Lib.hid (pick_hit HPx.out hbd hkM)
              clear hbd
              go_wp2
              go_quiet (fail)
              go_wp2_with (at_builtin; refine wpList_pushByte rfl (.tmp 67) (.tmp 69) 22 rfl w.heap.size 5 Try.underlying22 info_u8 _ _ (atb letters x) _ rfl rfl (own_drewN HOX.out nq) (below_drewN hbx nq) (Nat.le_refl _) rfl (by omega) ?_)
              intro v' w' hO hB
              go_wp2
              go_roundw
              case rel => exact ⟨m, u ++ [atb letters x], k2, by omega, by simp; omega, hk3, hk4, by go_num, rfl, by rw [← HAt.out, ← HP2.out.1, ← HP2.out.2], hO, hB⟩
              case measure => simp [intOf] <;> omega
            · have HP2 := Lib.hid (pick_next HPx.out hbd hkM)
              clear hbd
              go_wp2
              go_quiet (fail)
              go_wp2
              go_roundw
              case rel => exact ⟨x + 1, k2 - M, by omega, by omega, by omega, by go_num, rfl, rfl, by rw [show p - (x + 1) = p - x - 1 by omega]; exact HP2.out, HBX.out, own_drewN HOX.out _, below_drewN hbx _⟩
              case measure => simp [intOf]; omega
          · have d : 0 < u.length := by omega
            have d' : (0 : Int) < u.length := by omega
            obtain ⟨j, hj⟩ : ∃ j, j = u.length - 1 := ⟨_, rfl⟩
            have ej : (u.length : Int) - 1 = (j : Int) := by omega
            have j1 : (j : Int) < u.length := by omega
            have j0 : (0 : Int) ≤ j := by omega
            have hcell2 := own_at hox (k := j) (by omega)
            have hcp := own_cap hox
            have HOX := Lib.hid hox
            clear hox
            by_cases hne : atb u j = Wd.oth (atb letters x)
            · have hbd : badB u x = true := by unfold badB; rw [← hj]; simp [hne, hu0]
              have d2 : (((atb u j).toNat : Int) == ((Wd.oth (atb letters x)).toNat : Int)) = true := by rw [hne]; simp
              have HP2 := Lib.hid (pick_bad HPx.out hbd)
              clear hbd hne hj hu0
              go_wp2
              have q5 : IntKind.i64.wrap ((u.length : Int) - 1) = (j : Int) := by rw [ej]; exact Go.IntWalk.i64_in _ (by omega)
              go_quiet ((go_at_call 43; exact Calls.quiet_of_same (HSame.out _ _)))
              clear q5
              go_wp2
              go_roundw
              case rel => exact ⟨x + 1, k2, by omega, hk3, hk4, by go_num, rfl, rfl, by rw [show p - (x + 1) = p - x - 1 by omega]; exact HP2.out, HBX.out, own_drewN HOX.out _, below_drewN hbx _⟩
              case measure => simp [intOf]; omega
            · have hbd : badB u x = false := by unfold badB; rw [← hj]; simp [hne]
              have d2 : (((atb u j).toNat : Int) == ((Wd.oth (atb letters x)).toNat : Int)) = false := by
                rw [beq_eq_false_iff_ne]; intro h; exact hne (UInt8.toNat_inj.1 (by omega))
              by_cases hkM : k2 < M
              · have HP2 := Lib.hid (pick_hit HPx.out hbd hkM)
                clear hbd hne hj hu0
                go_wp2
                have q5 : IntKind.i64.wrap ((u.length : Int) - 1) = (j : Int) := by rw [ej]; exact Go.IntWalk.i64_in _ (by omega)
                go_quiet ((go_at_call 43; exact Calls.quiet_of_same (HSame.out _ _)))
                clear q5
                go_wp2_with (at_builtin; refine wpList_pushByte rfl (.tmp 67) (.tmp 69) 22 rfl w.heap.size 5 Try.underlying22 info_u8 _ _ (atb letters x) _ rfl rfl (own_drewN HOX.out nq) (below_drewN hbx nq) (Nat.le_refl _) rfl (by omega) ?_)
                intro v' w' hO hB
                go_wp2
                go_roundw
                case rel => exact ⟨m, u ++ [atb letters x], k2, by omega, by simp; omega, hk3, hk4, by go_num, rfl, by rw [← HAt.out, ← HP2.out.1, ← HP2.out.2], hO, hB⟩
                case measure => simp [intOf] <;> omega
              · have HP2 := Lib.hid (pick_next HPx.out hbd hkM)
                clear hbd hne hj hu0
                go_wp2
                have q5 : IntKind.i64.wrap ((u.length : Int) - 1) = (j : Int) := by rw [ej]; exact Go.IntWalk.i64_in _ (by omega)
                go_quiet ((go_at_call 43; exact Calls.quiet_of_same (HSame.out _ _)))
                clear q5
                go_wp2
                go_roundw
                case rel => exact ⟨x + 1, k2 - M, by omega, by omega, by omega, by go_num, rfl, rfl, by rw [show p - (x + 1) = p - x - 1 by omega]; exact HP2.out, HBX.out, own_drewN HOX.out _, below_drewN hbx _⟩
                case measure => simp [intOf]; omega
        · have HP2 := Lib.hid (pick_end HP.out (by omega))
          have x2 : ¬ (x : Int) < p := by omega
          have HOX := Lib.hid hox
          clear hox
          go_wp2
          go_roundw
          case rel => exact ⟨m, u, k2, by omega, by omega, hk3, hk4, by go_num, rfl, by rw [← HAt.out, ← HP2.out.1, ← HP2.out.2], HOX.out, hbx⟩
          case measure => simp [intOf] <;> omega
    | zero =>
      have e0 : ((0 : Nat) : Int) - 1 = -1 := by omega
      rw [e0]
      clear e0
      have E := Lib.hid (show (atR g p n ([], k)).1 = u by rw [← HAt0.out]; rfl)
      go_wp2_with (refine wpList_str rfl (.tmp 75) 22 9 rfl w.heap.size 5 Try.underlying22 Try.underlying5 Try.underlying9 u HO.out ?_)
      go_ret2
      exact ⟨by rw [E.out]; rfl, hb⟩

set_option maxHeartbeats 400000 in
theorem sAt_no (g n k : Int) (h : ctd g n = 2) (w : World) :
    Calls Try.prog 21 #[.int .i64 g, .int .i64 n, .int .i64 k] w fun e w' => e = .returned (.tuple #[.string (bs []), .int .i64 2]) ∧ Below w.heap.size w w' := by
  have HC := Lib.hid (show ∀ w, _ from fun w => sCtd_any g n w)
  rw [h] at HC
  clear h
  go_enter Try.func21, Try.ntmps21
  go_wp2_with (go_at_call 48; refine (HC.out _).mono ?_; rintro e w1 ⟨rfl, rfl⟩)
  go_ret2
  exact ⟨rfl, Below.refl _ _⟩
set_option maxHeartbeats 400000 in
theorem sAt_lo (g : Int) (n : Nat) (k : Int) (hg : 1 ≤ g) (hg4 : g ≤ 4) (hn : n ≤ 12) (hk : k < 0) (w : World) :
    Calls Try.prog 21 #[.int .i64 g, .int .i64 n, .int .i64 k] w fun e w' => e = .returned (.tuple #[.string (bs []), .int .i64 2]) ∧ Below w.heap.size w w' := by
  have i0 : (0 : Int) ≤ n := by omega
  have i12 : (n : Int) ≤ 12 := by omega
  obtain ⟨t1, t2⟩ := wy_lim (b := false) hg hg4 n hn
  have HT := Lib.hid (show ∀ w, _ from fun w => sWays_any g hg hg4 false n hn w)
  obtain ⟨T, hT⟩ : ∃ T, T = wy g false n := ⟨_, rfl⟩
  rw [← hT] at t1 t2 HT
  clear hT
  go_enter Try.func21, Try.ntmps21
  go_wp2_with (first
    | (go_at_call 48; refine (sCtd_yes g n hg hg4 (by omega) (by omega) _).mono ?_; rintro e w1 ⟨rfl, rfl⟩)
    | (go_at_call 50; refine (HT.out _).mono ?_; rintro e w1 ⟨rfl, rfl⟩)
    | (go_at_call 49; refine (sIn_lo k _ _ (by omega) _).mono ?_; rintro e w1 ⟨rfl, rfl⟩))
  go_ret2
  exact ⟨rfl, Below.refl _ _⟩
set_option maxHeartbeats 400000 in
theorem sAt_hi (g : Int) (n : Nat) (k : Int) (hg : 1 ≤ g) (hg4 : g ≤ 4) (hn : n ≤ 12) (hk : 0 ≤ k) (hkt : wy g false n - 1 < k) (w : World) :
    Calls Try.prog 21 #[.int .i64 g, .int .i64 n, .int .i64 k] w fun e w' => e = .returned (.tuple #[.string (bs []), .int .i64 2]) ∧ Below w.heap.size w w' := by
  have i0 : (0 : Int) ≤ n := by omega
  have i12 : (n : Int) ≤ 12 := by omega
  obtain ⟨t1, t2⟩ := wy_lim (b := false) hg hg4 n hn
  have HT := Lib.hid (show ∀ w, _ from fun w => sWays_any g hg hg4 false n hn w)
  obtain ⟨T, hT⟩ : ∃ T, T = wy g false n := ⟨_, rfl⟩
  rw [← hT] at t1 t2 HT hkt
  clear hT
  go_enter Try.func21, Try.ntmps21
  go_wp2_with (first
    | (go_at_call 48; refine (sCtd_yes g n hg hg4 (by omega) (by omega) _).mono ?_; rintro e w1 ⟨rfl, rfl⟩)
    | (go_at_call 50; refine (HT.out _).mono ?_; rintro e w1 ⟨rfl, rfl⟩)
    | (go_at_call 49; refine (sIn_hi k _ _ (by omega) (by omega) _).mono ?_; rintro e w1 ⟨rfl, rfl⟩))
  go_ret2
  exact ⟨rfl, Below.refl _ _⟩
set_option maxHeartbeats 400000 in
theorem iAt_a (g n k : Int) (b : Bool) (hb : (if b then 4 < g else g < 1)) (w : World) :
    Calls Try.prog 16 #[.int .i64 g, .int .i64 n, .int .i64 k] w fun e w' => e = .returned (.tuple #[.string (bs []), .int .i64 2]) ∧ Below w.heap.size w w' := by
  have HI := Lib.hid (show ∀ w, Calls Try.prog 41 #[.int .i64 g, .int .i64 1, .int .i64 4] w fun e w' => e = .returned (.bool false) ∧ w = w' from fun w => by
    cases b
    · exact iIn_lo g 1 4 (by simpa using hb) w
    · exact iIn_hi g 1 4 (by simp at hb; omega) (by simpa using hb) w)
  clear hb
  go_enter Try.func16, Try.ntmps16
  go_wp2_with (go_at_call 41; refine (HI.out _).mono ?_; rintro e w1 ⟨rfl, rfl⟩)
  go_ret2
  exact ⟨rfl, Below.refl _ _⟩
set_option maxHeartbeats 400000 in
theorem iAt_c (g n k : Int) (hg : 1 ≤ g) (hg4 : g ≤ 4) (b : Bool) (hb : (if b then 12 < n else n < 0)) (w : World) :
    Calls Try.prog 16 #[.int .i64 g, .int .i64 n, .int .i64 k] w fun e w' => e = .returned (.tuple #[.string (bs []), .int .i64 2]) ∧ Below w.heap.size w w' := by
  have HI := Lib.hid (show ∀ w, Calls Try.prog 41 #[.int .i64 n, .int .i64 0, .int .i64 12] w fun e w' => e = .returned (.bool false) ∧ w = w' from fun w => by
    cases b
    · exact iIn_lo n 0 12 (by simpa using hb) w
    · exact iIn_hi n 0 12 (by simp at hb; omega) (by simpa using hb) w)
  clear hb
  go_enter Try.func16, Try.ntmps16
  go_wp2_with (first
    | (go_at_call_of 41 (Value.int IntKind.i64 (4 : Int)); refine (iIn_in g _ _ (by omega) (by omega) _).mono ?_; rintro e w1 ⟨rfl, rfl⟩)
    | (go_at_call_of 41 (Value.int IntKind.i64 (12 : Int)); refine (HI.out _).mono ?_; rintro e w1 ⟨rfl, rfl⟩))
  go_ret2
  exact ⟨rfl, Below.refl _ _⟩
set_option maxHeartbeats 400000 in
theorem iAt_e (g : Int) (n : Nat) (k : Int) (hg : 1 ≤ g) (hg4 : g ≤ 4) (hn : n ≤ 12) (b : Bool) (hb : (if b then wy g false n - 1 < k ∧ 0 ≤ k else k < 0)) (w : World) :
    Calls Try.prog 16 #[.int .i64 g, .int .i64 n, .int .i64 k] w fun e w' => e = .returned (.tuple #[.string (bs []), .int .i64 2]) ∧ Below w.heap.size w w' := by
  have i0 : (0 : Int) ≤ n := by omega
  have i12 : (n : Int) ≤ 12 := by omega
  obtain ⟨t1, t2⟩ := wy_lim (b := false) hg hg4 n hn
  have HT := Lib.hid (show ∀ w, _ from fun w => iWays_any g hg hg4 false n hn w)
  obtain ⟨T, hT⟩ : ∃ T, T = wy g false n := ⟨_, rfl⟩
  rw [← hT] at t1 t2 HT hb
  clear hT
  have HI := Lib.hid (show ∀ w, Calls Try.prog 41 #[.int .i64 k, .int .i64 0, .int .i64 (T - 1)] w fun e w' => e = .returned (.bool false) ∧ w = w' from fun w => by
    cases b
    · exact iIn_lo k 0 _ (by simpa using hb) w
    · simp at hb; exact iIn_hi k 0 _ hb.2 hb.1 w)
  clear hb
  go_enter Try.func16, Try.ntmps16
  go_wp2_with (first
    | (go_at_call_of 41 (Value.int IntKind.i64 (4 : Int)); refine (iIn_in g _ _ (by omega) (by omega) _).mono ?_; rintro e w1 ⟨rfl, rfl⟩)
    | (go_at_call_of 41 (Value.int IntKind.i64 (12 : Int)); refine (iIn_in n _ _ (by omega) (by omega) _).mono ?_; rintro e w1 ⟨rfl, rfl⟩)
    | (go_at_call 42; refine (HT.out _).mono ?_; rintro e w1 ⟨rfl, rfl⟩)
    | (go_at_call 41; refine (HI.out _).mono ?_; rintro e w1 ⟨rfl, rfl⟩))
  go_ret2
  exact ⟨rfl, Below.refl _ _⟩
end Go.Proofs.Ytejmbbnhdojcbaa
