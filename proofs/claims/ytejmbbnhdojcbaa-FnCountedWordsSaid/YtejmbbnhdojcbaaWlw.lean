/- FnWords: the walk of the law. Conditions: none. -/
import Derived.Test.YtejmbbnhdojcbaaCat
import Derived.Test.YtejmbbnhdojcbaaWlaw
namespace Go.Proofs.Ytejmbbnhdojcbaa
open Go.RowKit
set_option linter.unusedVariables false

/-- A call's contract at any world. -/
def Gives (f : FuncId) (args : Array Value) (v : Value) : Prop := ∀ w, Calls Try.prog f args w fun e w' => e = .returned v ∧ Below w.heap.size w w'
theorem wrd_vld {gens : Nat} {l : List UInt8} (h : Wrd gens l) (hl : l.length ≤ 40) : vld l = true := vld_iff.2 ⟨wrd_isL h, hl⟩
theorem gives_inv {l : List UInt8} (hv : vld l = true) : Gives 25 #[.string (bs l)] (.tuple #[.string (bs (Wd.inv l)), .int .i64 0]) := fun w => iInvW_yes l (by have := (vld_iff.1 hv).2; omega) hv w
theorem gives_red {l : List UInt8} (hv : vld l = true) : Gives 26 #[.string (bs l)] (.tuple #[.string (bs (Wd.red l)), .int .i64 0]) := fun w => iRedW_yes l (by have := (vld_iff.1 hv).2; omega) hv w
theorem gives_isr {l : List UInt8} (hv : vld l = true) : Gives 18 #[.string (bs l)] (.tuple #[.bool (isRed l), .int .i64 0]) := fun w => iIsR_yes l (by have := (vld_iff.1 hv).2; omega) hv w
theorem gives_join {u l r : List UInt8} (hu : vld u = true) (hl : vld l = true) (hr : Wd.red (u ++ l) = r) (h40 : r.length ≤ 40) : Gives 11 #[.string (bs u), .string (bs l)] (.tuple #[.string (bs r), .int .i64 0]) := fun w => by
  subst hr
  exact iJoin_yes u l (by have := (vld_iff.1 hu).2; omega) (by have := (vld_iff.1 hl).2; omega) hu hl h40 w
theorem vld_red {l : List UInt8} (hv : vld l = true) : vld (Wd.red l) = true := vld_iff.2 ⟨Wd.all_red (vld_iff.1 hv).1, Nat.le_trans (Wd.red_length l).1 (vld_iff.1 hv).2⟩
theorem vld_inv {l : List UInt8} (hv : vld l = true) : vld (Wd.inv l) = true := vld_iff.2 ⟨Wd.all_inv (vld_iff.1 hv).1, by rw [Wd.inv_length]; exact (vld_iff.1 hv).2⟩
theorem vld_app {u l : List UInt8} (hu : vld u = true) (hl : vld l = true) (h : u.length + l.length ≤ 40) : vld (u ++ l) = true := vld_iff.2 ⟨both_all hu hl, by rw [List.length_append]; exact h⟩
theorem gives_pow {l : List UInt8} (hv : vld l = true) (n : Int) (h1 : -1 ≤ n) (h40 : n ≤ 40) (hl : l.length * n.toNat ≤ 40) : Gives 30 #[.string (bs l), .int .i64 n] (.tuple #[.string (bs (Wd.red (powLetters l n))), .int .i64 0]) := fun w => by
  have h8 := (vld_iff.1 hv).2
  by_cases h0 : n < 0
  · obtain rfl : n = -((1 : Nat) : Int) := by omega
    have hr : (Wd.red (Lib.repeatL (Wd.inv l) 1)).length ≤ 40 := by
      have := (Wd.red_length (Lib.repeatL (Wd.inv l) 1)).1
      rw [Lib.repeatL_one, Wd.inv_length] at this
      rw [Lib.repeatL_one]; omega
    have := iPow_neg l (by omega) hv 1 (by omega) (by omega) w
    unfold tl tc at this
    rw [if_pos hr, if_pos hr] at this
    exact this
  · obtain ⟨m, rfl⟩ : ∃ m : Nat, n = m := ⟨n.toNat, by omega⟩
    have hr : (Wd.red (Lib.repeatL l m)).length ≤ 40 := by
      have h1 := (Wd.red_length (Lib.repeatL l m)).1
      rw [Lib.repeatL_length, Nat.mul_comm] at h1
      simp only [Int.toNat_natCast] at hl
      omega
    have := iPow_pos l (by omega) hv m (by omega) w
    unfold tl tc at this
    rw [if_pos hr, if_pos hr] at this
    unfold powLetters
    rw [if_neg h0, Int.toNat_natCast]
    exact this
theorem gives_sum {l : List UInt8} (hv : vld l = true) : Gives 31 #[.string (bs l)] (.tuple #[.agg (mk .i64 (sumTo l l.length)), .int .i64 0]) := fun w => iLet_yes l (by have := (vld_iff.1 hv).2; omega) hv w
theorem pow_len_pos (l : List UInt8) (n : Int) (h0 : 0 ≤ n) : (powLetters l n).length = l.length * n.toNat := by
  unfold powLetters
  rw [if_neg (by omega), Lib.repeatL_length, Nat.mul_comm]
theorem pow_all {l : List UInt8} (h : ∀ x ∈ l, Wd.isL x = true) (n : Int) : ∀ x ∈ powLetters l n, Wd.isL x = true := by
  unfold powLetters
  split
  · exact rep_all (Wd.all_inv h) _
  · exact rep_all h _

/-- What the law's calls give, and what is true of it. -/
theorem words_facts (u v x : List UInt8) (hu : Wrd 4 u) (hv : Wrd 4 v) (hx : Wrd 4 x) (lu : u.length ≤ 8) (lv : v.length ≤ 8) (lx : x.length ≤ 8) :
    ∃ iu uv vx a r : List UInt8, ∃ sx sy sz : List Int, 
      Gives 25 #[.string (bs u)] (.tuple #[.string (bs iu), .int .i64 0]) ∧ Gives 11 #[.string (bs u), .string (bs iu)] (.tuple #[.string (bs []), .int .i64 0]) ∧
      Gives 11 #[.string (bs u), .string (bs v)] (.tuple #[.string (bs uv), .int .i64 0]) ∧ Gives 11 #[.string (bs v), .string (bs x)] (.tuple #[.string (bs vx), .int .i64 0]) ∧
      Gives 11 #[.string (bs uv), .string (bs x)] (.tuple #[.string (bs a), .int .i64 0]) ∧ Gives 11 #[.string (bs u), .string (bs vx)] (.tuple #[.string (bs a), .int .i64 0]) ∧
      Gives 26 #[.string (bs u)] (.tuple #[.string (bs r), .int .i64 0]) ∧ Gives 18 #[.string (bs r)] (.tuple #[.bool true, .int .i64 0]) ∧ r.length ≤ u.length ∧ (u.length - r.length) % 2 = 0 ∧
      Gives 31 #[.string (bs u)] (.tuple #[.agg (mk .i64 sx), .int .i64 0]) ∧ Gives 31 #[.string (bs v)] (.tuple #[.agg (mk .i64 sy), .int .i64 0]) ∧ Gives 31 #[.string (bs uv)] (.tuple #[.agg (mk .i64 sz), .int .i64 0]) ∧
      sx.length = 4 ∧ sy.length = 4 ∧ sz.length = 4 ∧ ∀ j, j < 4 → nth sz j = nth sx j + nth sy j ∧ -100 ≤ nth sz j ∧ nth sz j ≤ 100 := by
  have vu := wrd_vld hu (by omega)
  have vv := wrd_vld hv (by omega)
  have vx := wrd_vld hx (by omega)
  have l1 := (Wd.red_length (u ++ v)).1
  have l2 := (Wd.red_length (v ++ x)).1
  rw [List.length_append] at l1 l2
  have v1 := vld_red (vld_app vu vv (by omega))
  have v2 := vld_red (vld_app vv vx (by omega))
  have l3 := (Wd.red_length (u ++ v ++ x)).1
  rw [List.length_append, List.length_append] at l3
  have hr := Wd.red_length u
  refine ⟨Wd.inv u, Wd.red (u ++ v), Wd.red (v ++ x), Wd.red (u ++ v ++ x), Wd.red u, sumTo u u.length, sumTo v v.length, sumTo (Wd.red (u ++ v)) (Wd.red (u ++ v)).length, gives_inv vu, gives_join vu (vld_inv vu) (Wd.red_inv_right u) (by simp), gives_join vu vv rfl (by omega), gives_join vv vx rfl (by omega),
    gives_join v1 vx (Wd.red_append_left _ _) (by omega), gives_join vu v2 (by rw [Wd.red_append_right, List.append_assoc]) (by omega), gives_red vu, ?_, hr.1, hr.2, gives_sum vu, gives_sum vv, gives_sum v1, sumTo_len _ _, sumTo_len _ _, sumTo_len _ _, fun j hj => ⟨?_, ?_⟩⟩
  · have := gives_isr (vld_red vu)
    rw [show isRed (Wd.red u) = true by simp [isRed, Wd.red_red]] at this
    exact this
  · rw [sumTo_sm _ (vld_iff.1 v1).1 j hj, sumTo_sm _ (vld_iff.1 vu).1 j hj, sumTo_sm _ (vld_iff.1 vv).1 j hj, sm_red _ _ (both_all vu vv), sm_append]
  · have := sumTo_lim (Wd.red (u ++ v)) (Wd.red (u ++ v)).length (Nat.le_refl _) j
    omega
theorem pow_facts (u : List UInt8) (hu : Wrd 4 u) (lu : u.length ≤ 8) (n m : Int) (hn : 0 ≤ n) (hn2 : n ≤ 2) (hm : -1 ≤ m) (hm1 : m ≤ 1) :
    ∃ p q s : List UInt8, Gives 30 #[.string (bs u), .int .i64 n] (.tuple #[.string (bs p), .int .i64 0]) ∧ Gives 30 #[.string (bs u), .int .i64 m] (.tuple #[.string (bs q), .int .i64 0]) ∧
      Gives 11 #[.string (bs p), .string (bs q)] (.tuple #[.string (bs s), .int .i64 0]) ∧ Gives 30 #[.string (bs u), .int .i64 (n + m)] (.tuple #[.string (bs s), .int .i64 0]) := by
  have vu := wrd_vld hu (by omega)
  have b : ∀ k : Int, k ≤ 3 → u.length * k.toNat ≤ 24 := fun k hk => by
    have : u.length * k.toNat ≤ 8 * 3 := Nat.mul_le_mul lu (by omega)
    omega
  have vp : ∀ k : Int, -1 ≤ k → k ≤ 3 → (powLetters u k).length ≤ 24 := fun k h1 h3 => by
    by_cases h0 : 0 ≤ k
    · rw [pow_len_pos u k h0]; exact b k h3
    · obtain rfl : k = -1 := by omega
      show (Lib.repeatL (Wd.inv u) 1).length ≤ 24
      rw [Lib.repeatL_one, Wd.inv_length]; omega
  have vr : ∀ k : Int, -1 ≤ k → k ≤ 3 → vld (Wd.red (powLetters u k)) = true := fun k h1 h3 => vld_red (vld_iff.2 ⟨pow_all (vld_iff.1 vu).1 k, by have := vp k h1 h3; omega⟩)
  refine ⟨_, _, _, gives_pow vu n (by omega) (by omega) (by have := b n (by omega); omega), gives_pow vu m hm (by omega) (by have := b m (by omega); omega), gives_join (vr n (by omega) (by omega)) (vr m hm (by omega)) (pow_join u n m hn hn2 hm hm1) ?_, gives_pow vu (n + m) (by omega) (by omega) (by have := b (n + m) (by omega); omega)⟩
  have h1 := (Wd.red_length (powLetters u (n + m))).1
  have h2 := vp (n + m) (by omega) (by omega)
  omega

theorem name_rel {w X : World} {M : List (Nat × Obj)} (h : St w M X) {G : Prop} (k : ∀ R : World → Prop, R X → (∀ W, R W → St w M W) → (∀ W q, R W → R (W.drewN q)) → G) : G := k (fun W => St w M W) h (fun _ h => h) (fun _ q h => h.drewN q)
theorem St.cellZ {w W : World} {M : List (Nat × Obj)} (h : St w M W) (i : Nat) {g : Nat} {zs : List Int} {t : TypeId} (hi : M[i]? = some (g, .cells (mk .i64 zs) t (0, 0))) (n : Nat) (hz : zs.length = n) (k : Nat) (hk : k < n) : W.cell? ⟨g, k, none⟩ = some (.int .i64 (nth zs k)) := by
  rw [cell_of_row W g k _ _ _ (h.get i hi)]; exact mk_get .i64 zs k (by omega)

/-- The law, when its bytes are too many. -/
theorem both_len_cases (n1 n2 : Nat) : (3000 < n1 ∨ 3000 < n2) ∨ (n1 ≤ 3000 ∧ n2 ≤ 3000) := by omega
set_option maxRecDepth 100000 in
set_option maxHeartbeats 400000 in
theorem wordsBig (A1 A2 : Option Addr) (n1 n2 c1 c2 : Nat) (h : 3000 < n1 ∨ 3000 < n2) (w : World) :
    Calls Try.prog 6 #[.slice A1 n1 c1, .slice A2 n2 c2] w fun e w' => e = .returned (.bool true) ∧ Below w.heap.size w w' := by
  have H := Lib.hid (fun w => long_yes A1 A2 n1 n2 c1 c2 h w)
  clear h
  go_enter Try.func6, Try.ntmps6
  go_wp2_with (go_at_call 7; refine (H.out _).mono ?_; rintro e w1 ⟨rfl, rfl⟩)
  go_ret
  exact ⟨rfl, Below.refl _ _⟩
set_option maxRecDepth 100000 in
set_option maxHeartbeats 6400000 in
theorem wordsLaw (A1 A2 : Option Addr) (c1 c2 : Nat) (l1 l2 : List UInt8) (n1 n2 : Nat) (e1 : l1.length = n1) (e2 : l2.length = n2) (hn1 : n1 ≤ 3000) (hn2 : n2 ≤ 3000) (w : World) (h1 : Byi w A1 c1 l1) (h2 : Byi w A2 c2 l2) :
    Calls Try.prog 6 #[.slice A1 n1 c1, .slice A2 n2 c2] w fun e w' => e = .returned (.bool true) ∧ Below w.heap.size w w' := by
  have S0 := St.zero w
  have H1 := Lib.hid h1
  have H2 := Lib.hid h2
  have HLong := Lib.hid (fun w => long_no A1 A2 n1 n2 c1 c2 hn1 hn2 w)
  have KW1 := Lib.hid (word_n A1 c1 l1 n1 e1 (by omega) 4 8 (by omega) (by omega) (by omega))
  have KW2 := Lib.hid (word_n A2 c2 l2 n2 e2 (by omega) 4 8 (by omega) (by omega) (by omega))
  have KW3 := Lib.hid (fun A c => word_n A c (5 :: l2) (n2 + 1) (by rw [← e2]; rfl) (by omega) 4 8 (by omega) (by omega) (by omega))
  have KA1 := Lib.hid (at_n A1 c1 l1 n1 e1 (by omega) 0 3 (by omega) (by omega) (by omega))
  have KA2 := Lib.hid (at_n A2 c2 l2 n2 e2 (by omega) 0 3 (by omega) (by omega) (by omega))
  have E2 := Lib.hid e2
  have HN2 := Lib.hid hn2
  clear h1 h2 e1 e2 hn1 hn2
  go_enter Try.func6, Try.ntmps6
  go_wp2_with (first
    | (go_at_call 7; refine (HLong.out _).mono ?_; rintro e w1 ⟨rfl, rfl⟩)
    | (go_at_call_of 9 (Value.slice A1 n1 c1); refine (KW1.out _ (H1.out.call (St.below (by assumption)))).mono ?_; rintro e w1 ⟨⟨u, hu, lu, rfl⟩, hb⟩; have HU := Lib.hid hu; have LU := Lib.hid lu; have hS := St.call hb (by assumption); clear hb hu lu)
    | (go_at_call_of 9 (Value.slice A2 n2 c2); refine (KW2.out _ (H2.out.call (St.below (by assumption)))).mono ?_; rintro e w1 ⟨⟨v, hv, lv, rfl⟩, hb⟩; have HV := Lib.hid hv; have LV := Lib.hid lv; have hS := St.call hb (by assumption); clear hb hv lv)
    | (at_builtin; refine wpList_cat_n rfl (.tmp 48) (.tmp 49) rfl 5 5 rfl A2 c2 l2 n2 E2.out HN2.out rfl rfl (H2.out.call (St.below (by assumption))) (St.below (by assumption)) ?_; intro g3 k3 w3 hb3 hbw; have HB3 := Lib.hid hb3; have hS : St w [] w3 := ⟨hbw, fun i g o h => by simp at h⟩; clear hb3 hbw)
    | (go_at_call 9; refine (KW3.out _ _ _ HB3.out).mono ?_; rintro e w1 ⟨⟨x, hx, lx, rfl⟩, hb⟩; have HX := Lib.hid hx; have LX := Lib.hid lx; have hS := St.call hb (by assumption); clear hb hx lx))
  obtain ⟨iu, uv, vx, a, r, sx, sy, sz, k1, k2, k3, k4, k5, k6, k7, k8, hr1, hr2, k9, k10, k11, z1, z2, z3, hsum⟩ := words_facts u v x HU.out HV.out HX.out LU.out LV.out LX.out
  have KF1 := Lib.hid k1
  have KF2 := Lib.hid k2
  have KF3 := Lib.hid k3
  have KF4 := Lib.hid k4
  have KF5 := Lib.hid k5
  have KF6 := Lib.hid k6
  have KF7 := Lib.hid k7
  have KF8 := Lib.hid k8
  have KF9 := Lib.hid k9
  have KF10 := Lib.hid k10
  have KF11 := Lib.hid k11
  have HSum := Lib.hid hsum
  have Z1 := Lib.hid z1
  have Z2 := Lib.hid z2
  have Z3 := Lib.hid z3
  have ls1 : ¬ (u.length : Int) < r.length := by omega
  have ls2 : ((wrap64 ((u.length : Int) - (r.length : Int))).tmod 2 != 0) = false := by
    rw [Go.IntWalk.wrap64_in _ (by have := LU.out; omega), bne_eq_false_iff_eq, show (u.length : Int) - (r.length : Int) = ((u.length - r.length : Nat) : Int) by omega, show (2 : Int) = ((2 : Nat) : Int) from rfl, ← Int.ofNat_tmod, hr2]
    rfl
  have em : (⟨#[]⟩ : ByteArray) = bs [] := rfl
  clear k1 k2 k3 k4 k5 k6 k7 k8 k9 k10 k11 z1 z2 z3 hsum KW1 KW2 KW3 HB3
  have hS0 := hS
  go_wp2_with (first
    | (go_at_call 25; refine (KF1.out _).mono ?_; rintro e w1 ⟨rfl, hb⟩; have hS := St.call hb (by assumption); clear hb)
    | (go_at_call_of 11 (#[Value.string (bs u), Value.string (bs iu)]); refine (KF2.out _).mono ?_; rintro e w1 ⟨rfl, hb⟩; have hS := St.call hb (by assumption); clear hb)
    | (go_at_call_of 11 (#[Value.string (bs u), Value.string (bs v)]); refine (KF3.out _).mono ?_; rintro e w1 ⟨rfl, hb⟩; have hS := St.call hb (by assumption); clear hb)
    | (go_at_call_of 11 (#[Value.string (bs v), Value.string (bs x)]); refine (KF4.out _).mono ?_; rintro e w1 ⟨rfl, hb⟩; have hS := St.call hb (by assumption); clear hb)
    | (go_at_call_of 11 (#[Value.string (bs uv), Value.string (bs x)]); refine (KF5.out _).mono ?_; rintro e w1 ⟨rfl, hb⟩; have hS := St.call hb (by assumption); clear hb)
    | (go_at_call_of 11 (#[Value.string (bs u), Value.string (bs vx)]); refine (KF6.out _).mono ?_; rintro e w1 ⟨rfl, hb⟩; have hS := St.call hb (by assumption); clear hb)
    | (go_at_call 26; refine (KF7.out _).mono ?_; rintro e w1 ⟨rfl, hb⟩; have hS := St.call hb (by assumption); clear hb)
    | (go_at_call 18; refine (KF8.out _).mono ?_; rintro e w1 ⟨rfl, hb⟩; have hS := St.call hb (by assumption); clear hb)
    | (go_at_call_of 14 (Value.slice A1 n1 c1); refine (KA1.out _ (H1.out.call (St.below (by assumption)))).mono ?_; rintro e w1 ⟨⟨n, hn, rfl⟩, rfl⟩; have HNn := Lib.hid hn; clear hn)
    | (go_at_call_of 14 (Value.slice A2 n2 c2); refine (KA2.out _ (H2.out.call (St.below (by assumption)))).mono ?_; rintro e w1 ⟨⟨m, hm, rfl⟩, rfl⟩; have HMm := Lib.hid hm; clear hm))
  obtain ⟨M, hM⟩ : ∃ M : Int, M = (m : Int) - 1 := ⟨_, rfl⟩
  rw [← hM]
  obtain ⟨p, q, s, p1, p2, p3, p4⟩ := pow_facts u HU.out LU.out n M (by omega) (by have := HNn.out; omega) (by omega) (by have := HMm.out; omega)
  have HMM := Lib.hid hM
  have HMl := Lib.hid (show -1 ≤ M ∧ M ≤ 1 by have := HMm.out; omega)
  have HNl := Lib.hid (show (0 : Int) ≤ n ∧ (n : Int) ≤ 2 by have := HNn.out; omega)
  have wn : IntKind.i64.wrap ((n : Int) + M) = n + M := Go.IntWalk.i64_in _ (by have := HMl.out; have := HNl.out; omega)
  have wn2 : wrap64 ((n : Int) + M) = n + M := Go.IntWalk.wrap64_in _ (by have := HMl.out; have := HNl.out; omega)
  have wM : wrap64 M = M := Go.IntWalk.wrap64_in _ (by have := HMl.out; omega)
  rw [wM]
  have P1 := Lib.hid p1
  have P2 := Lib.hid p2
  have P3 := Lib.hid p3
  have P4 := Lib.hid p4
  clear hM p1 p2 p3 p4
  have hj := info_A4 sx Z1.out
  have hj2 := info_A4 sy Z2.out
  have hj3 := info_A4 sz Z3.out
  have hsz : ∀ zs : List Int, zs.length = 4 → (mk .i64 [0, 0, 0, 0]).size = (mk .i64 zs).size := fun zs h => by rw [mk_size, mk_size, h]; rfl
  have sk1 := Lib.hid (hsz sx Z1.out)
  have sk2 := Lib.hid (hsz sy Z2.out)
  have sk3 := Lib.hid (hsz sz Z3.out)
  clear hsz
  have lit4 : (#[Value.int IntKind.i64 0, Value.int IntKind.i64 0, Value.int IntKind.i64 0, Value.int IntKind.i64 0] : Array Value) = mk .i64 [0, 0, 0, 0] := rfl
  go_wp2_with (first
    | (go_at_call_of 30 (#[Value.string (bs u), Value.int IntKind.i64 (n : Int)]); refine (P1.out _).mono ?_; rintro e w1 ⟨rfl, hb⟩; have hS := St.call hb (by assumption); clear hb)
    | (go_at_call_of 30 (#[Value.string (bs u), Value.int IntKind.i64 M]); refine (P2.out _).mono ?_; rintro e w1 ⟨rfl, hb⟩; have hS := St.call hb (by assumption); clear hb)
    | (go_at_call_of 11 (#[Value.string (bs p), Value.string (bs q)]); refine (P3.out _).mono ?_; rintro e w1 ⟨rfl, hb⟩; have hS := St.call hb (by assumption); clear hb)
    | (go_at_call_of 30 (#[Value.string (bs u), Value.int IntKind.i64 ((n : Int) + M)]); refine (P4.out _).mono ?_; rintro e w1 ⟨rfl, hb⟩; have hS := St.call hb (by assumption); clear hb)
    | (go_at_call_of 31 (#[Value.string (bs u)]); refine (KF9.out _).mono ?_; rintro e w1 ⟨rfl, hb⟩; have hS := St.call hb (by assumption); clear hb)
    | (go_at_call_of 31 (#[Value.string (bs v)]); refine (KF10.out _).mono ?_; rintro e w1 ⟨rfl, hb⟩; have hS := St.call hb (by assumption); clear hb)
    | (go_at_call_of 31 (#[Value.string (bs uv)]); refine (KF11.out _).mono ?_; rintro e w1 ⟨rfl, hb⟩; have hS := St.call hb (by assumption); clear hb)
    | (refine wpList_store_row rfl 54 (.tmp 34) (.tmp 209) rfl _ (mk .i64 sx) rfl rfl 54 (mk .i64 [0, 0, 0, 0]) (one_first _ _) hj sk1.out (mk_one _ _) ?_; have hS := St.fresh (by assumption) (mk .i64 [0, 0, 0, 0]) (mk .i64 sx) 54)
    | (refine wpList_store_row rfl 54 (.tmp 36) (.tmp 214) rfl _ (mk .i64 sy) rfl rfl 54 (mk .i64 [0, 0, 0, 0]) (one_first _ _) hj2 sk2.out (mk_one _ _) ?_; have hS := St.fresh (by assumption) (mk .i64 [0, 0, 0, 0]) (mk .i64 sy) 54)
    | (refine wpList_store_row rfl 54 (.tmp 38) (.tmp 219) rfl _ (mk .i64 sz) rfl rfl 54 (mk .i64 [0, 0, 0, 0]) (one_first _ _) hj3 sk3.out (mk_one _ _) ?_; have hS := St.fresh (by assumption) (mk .i64 [0, 0, 0, 0]) (mk .i64 sz) 54))
  refine name_rel hS ?_
  intro R hRX hR hRd
  have HR := Lib.hid hR
  have HRd := Lib.hid hRd
  have HRX := Lib.hid hRX
  clear hR hRd hRX hj hj2 hj3
  go_loopw [40] (fun i wr => ∃ k : Nat, k ≤ 4 ∧ i = .int .i64 k ∧ R wr) (fun i _ => 4 - (intOf i).toNat)
  case atStart => exact ⟨0, by omega, rfl, HRX.out⟩
  case round =>
    obtain ⟨k, hk, rfl, hr⟩ := hrel
    have HRr := Lib.hid hr
    have i0 : (0 : Int) ≤ k := by omega
    by_cases hlt : k < 4
    · have i1 : (k : Int) < 4 := by omega
      have q1 := (HR.out _ hr).cellZ 0 rfl 4 Z1.out k hlt
      have q2 := (HR.out _ hr).cellZ 1 rfl 4 Z2.out k hlt
      have q3 := (HR.out _ hr).cellZ 2 rfl 4 Z3.out k hlt
      have hsk := HSum.out k hlt
      rw [hsk.1] at q3
      obtain ⟨xa, hxa⟩ : ∃ z, z = nth sx k := ⟨_, rfl⟩
      obtain ⟨yb, hyb⟩ : ∃ z, z = nth sy k := ⟨_, rfl⟩
      rw [← hxa] at q1
      rw [← hyb] at q2
      rw [← hxa, ← hyb] at q3 hsk
      have wz : IntKind.i64.wrap (xa + yb) = xa + yb := Go.IntWalk.i64_in _ (by omega)
      have wz2 : wrap64 (xa + yb) = xa + yb := Go.IntWalk.wrap64_in _ (by omega)
      clear hxa hyb hsk hr
      go_wp2
      go_quiet (fail)
      go_wp2
      go_roundw
      case rel => exact ⟨k + 1, by omega, by go_num, HRd.out _ _ HRr.out⟩
      case measure => simp [intOf]; omega
    · obtain rfl : k = 4 := by omega
      go_wp2
      go_ret
      exact ⟨by rfl, St.below (HR.out _ HRr.out)⟩
theorem wordsWalk (A1 : Option Addr) (n1 c1 : Nat) (l1 : List UInt8) (A2 : Option Addr) (n2 c2 : Nat) (l2 : List UInt8) (w : World) (h1 : l1.length = n1 ∧ l1.length ≤ 9223372036854775807 ∧ Byi w A1 c1 l1) (h2 : l2.length = n2 ∧ l2.length ≤ 9223372036854775807 ∧ Byi w A2 c2 l2) :
    Calls Try.prog 6 #[.slice A1 n1 c1, .slice A2 n2 c2] w fun e w' => e = .returned (.bool true) ∧ Below w.heap.size w w' := by
  rcases both_len_cases n1 n2 with h | ⟨a, b⟩
  · exact wordsBig A1 A2 n1 n2 c1 c2 h w
  · exact wordsLaw A1 A2 c1 c2 l1 l2 n1 n2 h1.1 h2.1 a b w h1.2.2 h2.2.2
end Go.Proofs.Ytejmbbnhdojcbaa
