/- FnCountedWords: the walk of the law. Conditions: none. -/
import Derived.Test.YtejmbbnhdojcbaaKlaw
import Derived.Test.YtejmbbnhdojcbaaClw
namespace Go.Proofs.Ytejmbbnhdojcbaa
open Go.RowKit
set_option linter.unusedVariables false

theorem run_eql_wc (w : World) (xs ys : List Int) (hx : xs.length = 16) (hy : ys.length = 16) : (binOp .eql 43 (.agg (mk .u8 xs)) (.agg (mk .u8 ys))).run Try.prog w = .ok (.bool (xs == ys)) w := by
  rw [run_eql_struct, show (10000 : Nat) = 9998 + 2 from rfl, run_eq_ints w 9998 43 5 16 .u8 Try.underlying43 Try.underlying5 szU8 xs ys hx hy]
  rfl
theorem gives_code {l : List UInt8} (hv : vld l = true) : Gives 22 #[.string (bs l)] (.tuple #[.agg (mk .u8 (codeTo l (3 * l.length))), .int .i64 0]) := fun w => iCode_yes l (by have := (vld_iff.1 hv).2; omega) hv w
theorem gives_woc {l : List UInt8} (hv : vld l = true) : Gives 23 #[.agg (mk .u8 (codeTo l (3 * l.length)))] (.tuple #[.string (bs l), .int .i64 0]) := fun w => by
  obtain ⟨hL, h40⟩ := vld_iff.1 hv
  obtain ⟨h1, h2, h3, h4⟩ := code_back l h40 hL
  have := iWoc_yes (codeTo l (3 * l.length)) (codeTo_len _ _) h1 l.length h2 h40 w
  rwa [h3, h4] at this
theorem gives_at {g : Int} {p n : Nat} (hgp : 2 * g = (p : Int)) (hg : 1 ≤ g) (hg4 : g ≤ 4) {l : List UInt8} (hn : l.length = n) (h12 : n ≤ 12) (h : Rw p none l) {k : Int} (hk : rk g none l = k) :
    Gives 16 #[.int .i64 g, .int .i64 n, .int .i64 k] (.tuple #[.string (bs l), .int .i64 0]) ∧ Gives 21 #[.int .i64 g, .int .i64 n, .int .i64 k] (.tuple #[.string (bs l), .int .i64 0]) := by
  subst hn hk
  have hs : Gs p none := fun a e => by cases e
  obtain ⟨h1, h2⟩ := rk_lim hgp hg hg4 l none hs h
  have e := at_word hgp hg hg4 l [] hs h
  have e1 : (atR g p l.length ([], rk g none l)).1 = l := by
    have : atR g p l.length ([], rk g (lst []) l) = ([] ++ l, 0) := e
    rw [show lst [] = none from rfl] at this
    rw [this]; rfl
  have h3 : rk g none l < wy g false l.length := h2
  constructor
  · intro w
    have := iAt_yes g p hgp l.length (rk g none l) hg hg4 h12 h1 (by omega) w
    rwa [e1] at this
  · intro w
    have := sAt_yes g p hgp l.length (rk g none l) hg hg4 h12 h1 (by omega) w
    rwa [e1] at this
theorem rw_vld {p : Nat} {l : List UInt8} {s : Option UInt8} (h : Rw p s l) (hl : l.length ≤ 40) : vld l = true := vld_iff.2 ⟨fun x hx => (rw_all l s h x hx).1, hl⟩

/-- What the law's calls give, and what is true of it. -/
theorem count_facts (g : Int) (n : Nat) (k cn : Int) (hg : 1 ≤ g) (hg4 : g ≤ 4) (hn : n ≤ 8) (hc : cn = wy g false n) (h0 : 0 ≤ k) (h1 : k < cn) :
    ∃ wd nx : List UInt8, ∃ zs : List Int,
      Gives 16 #[.int .i64 g, .int .i64 n, .int .i64 k] (.tuple #[.string (bs wd), .int .i64 0]) ∧ Gives 17 #[.int .i64 g, .string (bs wd)] (.tuple #[.int .i64 k, .int .i64 0]) ∧
      Gives 18 #[.string (bs wd)] (.tuple #[.bool true, .int .i64 0]) ∧ Gives 19 #[.int .i64 g, .string (bs wd)] (.tuple #[.string (bs nx), .int .i64 0]) ∧
      Gives 16 #[.int .i64 g, .int .i64 n, .int .i64 cn] (.tuple #[.string (bs []), .int .i64 2]) ∧ Gives 20 #[.string (bs wd), .string (bs nx)] (.tuple #[.int .i64 (-1), .int .i64 0]) ∧
      wd.length = n ∧ Gives 22 #[.string (bs wd)] (.tuple #[.agg (mk .u8 zs), .int .i64 0]) ∧ Gives 23 #[.agg (mk .u8 zs)] (.tuple #[.string (bs wd), .int .i64 0]) ∧ zs.length = 16 ∧
      (∀ u : List UInt8, vld u = true → ∃ ys, ys.length = 16 ∧ Gives 22 #[.string (bs u)] (.tuple #[.agg (mk .u8 ys), .int .i64 0]) ∧ (ys == zs) = (u == wd)) ∧
      ((k + 1 ≠ cn ∧ Gives 21 #[.int .i64 g, .int .i64 n, .int .i64 (k + 1)] (.tuple #[.string (bs nx), .int .i64 0])) ∨
        (k + 1 = cn ∧ Gives 21 #[.int .i64 g, .int .i64 n, .int .i64 (k + 1)] (.tuple #[.string (bs []), .int .i64 2]) ∧ Gives 21 #[.int .i64 g, .int .i64 ((n : Int) + 1), .int .i64 0] (.tuple #[.string (bs nx), .int .i64 0]))) := by
  obtain ⟨p, hgp⟩ : ∃ p : Nat, 2 * g = (p : Int) := ⟨(2 * g).toNat, by omega⟩
  have hs : Gs p none := fun a e => by cases e
  subst hc
  obtain ⟨wd, w1, w2, w3⟩ := rk_ex hgp hg hg4 n none k hs h0 h1
  obtain ⟨nx, a1, a2, a3, a4, a5⟩ := next_word hgp hg hg4 w2 (by omega)
  have vw := rw_vld w2 (by omega)
  have nl : nx.length ≤ 9 := by rcases a5 with h | h <;> omega
  have vn := rw_vld a4 (by omega)
  obtain ⟨hL, h40⟩ := vld_iff.1 vw
  refine ⟨wd, nx, codeTo wd (3 * wd.length), (gives_at hgp hg hg4 w1 (by omega) w2 w3).1, fun w => ?_, ?_, fun w => iNext_yes g p hgp wd (by omega) vw hg hg4 (rw_gok hgp w2) (rw_isr w2) nx 0 a1 a2 w, fun w => iAt_e g n _ hg hg4 (by omega) true (by simp; omega) w, fun w => ?_, w1, gives_code vw, gives_woc vw, codeTo_len _ _, fun u vu => ?_, ?_⟩
  · have := iRank_yes g wd (by omega) vw hg hg4 (rw_gok hgp w2) (rw_isr w2) (by omega) w
    rwa [rank_rk, w3] at this
  · have := gives_isr vw
    rwa [rw_isr w2] at this
  · have := iCmp_yes wd nx (by omega) (by omega) vw vn w
    rwa [a3] at this
  · obtain ⟨uL, u40⟩ := vld_iff.1 vu
    refine ⟨codeTo u (3 * u.length), codeTo_len _ _, gives_code vu, ?_⟩
    by_cases e : u = wd
    · subst e; simp
    · rw [beq_eq_false_iff_ne.2 e, beq_eq_false_iff_ne]
      exact fun h => e (code_inj u40 uL h40 hL h)
  · rcases a5 with ⟨b1, b2⟩ | ⟨b1, b2, b3⟩
    · refine .inl ⟨?_, (gives_at hgp hg hg4 (by omega) (by omega) a4 (by omega)).2⟩
      have := (rk_lim hgp hg hg4 nx none hs a4).2
      have e : wy g (none : Option UInt8).isSome nx.length = wy g false n := by rw [b1, w1]; rfl
      rw [e] at this
      omega
    · refine .inr ⟨by rw [← w3, b3, w1], fun w => sAt_hi g n (k + 1) hg hg4 (by omega) (by omega) (by rw [← w3, b3, w1]; omega) w, ?_⟩
      exact (gives_at hgp hg hg4 (n := n + 1) (by omega) (by omega) a4 b2).2

set_option maxRecDepth 100000 in
set_option maxHeartbeats 400000 in
theorem countBig (A1 A2 : Option Addr) (n1 n2 c1 c2 : Nat) (h : 3000 < n1 ∨ 3000 < n2) (w : World) :
    Calls Try.prog 4 #[.slice A1 n1 c1, .slice A2 n2 c2] w fun e w' => e = .returned (.bool true) ∧ Below w.heap.size w w' := by
  have H := Lib.hid (fun w => long_yes A1 A2 n1 n2 c1 c2 h w)
  clear h
  go_enter Try.func4, Try.ntmps4
  go_wp2_with (go_at_call 7; refine (H.out _).mono ?_; rintro e w1 ⟨rfl, rfl⟩)
  go_ret
  exact ⟨rfl, Below.refl _ _⟩
set_option maxRecDepth 100000 in
set_option maxHeartbeats 6400000 in
theorem countLaw (A1 A2 : Option Addr) (c1 c2 : Nat) (l1 l2 : List UInt8) (n1 n2 : Nat) (e1 : l1.length = n1) (e2 : l2.length = n2) (hn1 : n1 ≤ 3000) (hn2 : n2 ≤ 3000) (w : World) (h1 : Byi w A1 c1 l1) (h2 : Byi w A2 c2 l2) :
    Calls Try.prog 4 #[.slice A1 n1 c1, .slice A2 n2 c2] w fun e w' => e = .returned (.bool true) ∧ Below w.heap.size w w' := by
  have S0 := St.zero w
  have H1 := Lib.hid h1
  have H2 := Lib.hid h2
  have HLong := Lib.hid (fun w => long_no A1 A2 n1 n2 c1 c2 hn1 hn2 w)
  have KG := Lib.hid (at_n A1 c1 l1 n1 e1 (by omega) 0 4 (by omega) (by omega) (by omega))
  have KN := Lib.hid (at_n A1 c1 l1 n1 e1 (by omega) 1 9 (by omega) (by omega) (by omega))
  have K0 := Lib.hid (at_n A2 c2 l2 n2 e2 (by omega) 0 256 (by omega) (by omega) (by omega))
  have K1 := Lib.hid (at_n A2 c2 l2 n2 e2 (by omega) 1 256 (by omega) (by omega) (by omega))
  have K2 := Lib.hid (at_n A2 c2 l2 n2 e2 (by omega) 2 256 (by omega) (by omega) (by omega))
  have KW := Lib.hid (word_n A2 c2 l2 n2 e2 (by omega) 4 9 (by omega) (by omega) (by omega))
  clear h1 h2 e1 e2 hn1 hn2
  go_enter Try.func4, Try.ntmps4
  go_wp2_with (first
    | (go_at_call 7; refine (HLong.out _).mono ?_; rintro e w1 ⟨rfl, rfl⟩)
    | (go_at_call_of 14 (Value.int IntKind.i64 4); refine (KG.out _ (H1.out.call (St.below (by assumption)))).mono ?_; rintro e w1 ⟨⟨x, hx, rfl⟩, rfl⟩)
    | (go_at_call_of 14 (Value.int IntKind.i64 9); refine (KN.out _ (H1.out.call (St.below (by assumption)))).mono ?_; rintro e w1 ⟨⟨n, hn, rfl⟩, rfl⟩))
  obtain ⟨g, hgx⟩ : ∃ g : Int, g = 1 + (x : Int) := ⟨_, rfl⟩
  rw [← hgx]
  have hg : 1 ≤ g := by omega
  have hg4 : g ≤ 4 := by omega
  obtain ⟨cn, hcn⟩ : ∃ cn : Int, cn = wy g false n := ⟨_, rfl⟩
  have hlim := wy_lim (b := false) hg hg4 n (by omega)
  have KC := Lib.hid (show ∀ w, _ from fun w => iCnt_yes g n hg hg4 (by omega) w)
  rw [← hcn] at hlim KC
  have HCn := Lib.hid hcn
  have q1 : ¬ cn < 1 := by omega
  have q2 : (cn == 0) = false := by rw [beq_eq_false_iff_ne]; omega
  have HG := Lib.hid hg
  have HG4 := Lib.hid hg4
  have HN := Lib.hid hn
  clear hgx hcn KG KN hx hg hg4 hn
  go_wp2_with (first
    | (go_at_call 15; refine (KC.out _).mono ?_; rintro e w1 ⟨rfl, rfl⟩)
    | (go_at_call_of 14 (Value.int IntKind.i64 0); refine (K0.out _ (H2.out.call (St.below (by assumption)))).mono ?_; rintro e w1 ⟨⟨x0, hx0, rfl⟩, rfl⟩)
    | (go_at_call_of 14 (Value.int IntKind.i64 1); refine (K1.out _ (H2.out.call (St.below (by assumption)))).mono ?_; rintro e w1 ⟨⟨x1, hx1, rfl⟩, rfl⟩)
    | (go_at_call_of 14 (Value.int IntKind.i64 2); refine (K2.out _ (H2.out.call (St.below (by assumption)))).mono ?_; rintro e w1 ⟨⟨x2, hx2, rfl⟩, rfl⟩))
  obtain ⟨k, hk⟩ : ∃ k : Int, k = ((x0 : Int) * 65536 + x1 * 256 + x2) % cn := ⟨_, rfl⟩
  rw [← hk]
  have hk0 : 0 ≤ k := by rw [hk]; exact Int.emod_nonneg _ (by omega)
  have hk1 : k < cn := by rw [hk]; exact Int.emod_lt_of_pos _ (by omega)
  clear hk hx0 hx1 hx2 K0 K1 K2 KC
  obtain ⟨wd, nx, zs, f1, f2, f3, f4, f5, f6, wl', f7, f8, z16', fu, hcase⟩ := count_facts g n k cn HG.out HG4.out (by have := HN.out; omega) HCn.out hk0 hk1
  have F1 := Lib.hid f1
  have F2 := Lib.hid f2
  have F3 := Lib.hid f3
  have F4 := Lib.hid f4
  have F5 := Lib.hid f5
  have F6 := Lib.hid f6
  have F7 := Lib.hid f7
  have F8 := Lib.hid f8
  have FU := Lib.hid fu
  have Z16 := Lib.hid z16'
  have hj := info_WC zs z16'
  have hsz : ∀ ys : List Int, ys.length = 16 → (mk .u8 z16).size = (mk .u8 ys).size := fun ys h => by rw [mk_size, mk_size, h]; rfl
  have sk := Lib.hid (hsz zs z16')
  have lw : ((wd.length : Int) != (n : Int)) = false := by rw [wl']; simp
  have Z := lit0w
  have wk : wrap64 (k + 1) = k + 1 := Go.IntWalk.wrap64_in _ (by omega)
  have n8 : n ≤ 8 := by have := HN.out; omega
  have wn : wrap64 ((n : Int) + 1) = n + 1 := Go.IntWalk.wrap64_in _ (by omega)
  clear f1 f2 f3 f4 f5 f6 f7 f8 fu z16' wl'
  rcases hcase with ⟨hne, d1⟩ | ⟨heq1, d1, d2⟩
  · have D1 := Lib.hid d1
    have t1 : (k + 1 == cn) = false := by rw [beq_eq_false_iff_ne]; exact hne
    clear d1 hne
    go_wp2_with (first
      | (go_at_call_of 16 (#[Value.int IntKind.i64 g, Value.int IntKind.i64 (n : Int), Value.int IntKind.i64 k]); refine (F1.out _).mono ?_; rintro e w1 ⟨rfl, hb⟩; have hS := St.call hb (by assumption); clear hb)
      | (go_at_call 17; refine (F2.out _).mono ?_; rintro e w1 ⟨rfl, hb⟩; have hS := St.call hb (by assumption); clear hb)
      | (go_at_call 18; refine (F3.out _).mono ?_; rintro e w1 ⟨rfl, hb⟩; have hS := St.call hb (by assumption); clear hb)
      | (go_at_call 19; refine (F4.out _).mono ?_; rintro e w1 ⟨rfl, hb⟩; have hS := St.call hb (by assumption); clear hb)
      | (go_at_call_of 16 (#[Value.int IntKind.i64 g, Value.int IntKind.i64 (n : Int), Value.int IntKind.i64 cn]); refine (F5.out _).mono ?_; rintro e w1 ⟨rfl, hb⟩; have hS := St.call hb (by assumption); clear hb)
      | (go_at_call 20; refine (F6.out _).mono ?_; rintro e w1 ⟨rfl, hb⟩; have hS := St.call hb (by assumption); clear hb)
      | (go_at_call_of 21 (Value.int IntKind.i64 (n : Int)); refine (D1.out _).mono ?_; rintro e w1 ⟨rfl, hb⟩; have hS := St.call hb (by assumption); clear hb)
      | (go_at_call_of 22 (#[Value.string (bs wd)]); refine (F7.out _).mono ?_; rintro e w1 ⟨rfl, hb⟩; have hS := St.call hb (by assumption); clear hb)
      | (go_at_call 23; refine (F8.out _).mono ?_; rintro e w1 ⟨rfl, hb⟩; have hS := St.call hb (by assumption); clear hb)
      | (go_at_call 9; refine (KW.out _ (H2.out.call (St.below (by assumption)))).mono ?_; rintro e w1 ⟨⟨u, hu, lu, rfl⟩, hb⟩; have hS := St.call hb (by assumption); obtain ⟨ys, y1, y2, y3⟩ := FU.out u (wrd_vld hu (Nat.le_trans lu (by decide))); have Y2 := Lib.hid y2; have Y1 := Lib.hid y1; have hjy := info_WC ys y1; have sky := Lib.hid (hsz ys y1); have heq := (fun w => run_eql_wc w ys zs y1 Z16.out); have hst : ((bs u).toList == (bs wd).toList) = (u == wd) := (by rw [bs_toList, bs_toList]); rw [y3] at heq; generalize (u == wd) = bb at heq hst; clear hb y1 y2 y3 hu lu)
      | (go_at_call_of 22 (#[Value.string (bs u)]); refine (Y2.out _).mono ?_; rintro e w1 ⟨rfl, hb⟩; have hS := St.call hb (by assumption); clear hb)
      | (refine wpList_store_row rfl 43 (.tmp 24) (.tmp 171) rfl _ (mk .u8 zs) rfl rfl 43 (mk .u8 z16) (one_first _ _) hj sk.out (mk_one _ _) ?_; have hS := St.fresh (by assumption) (mk .u8 z16) (mk .u8 zs) 43)
      | (refine wpList_store_row rfl 43 (.tmp 29) (.tmp 183) rfl _ (mk .u8 ys) rfl rfl 43 (mk .u8 z16) (one_first _ _) hjy sky.out (mk_one _ _) ?_; have hS := St.fresh (by assumption) (mk .u8 z16) (mk .u8 ys) 43)
      | (refine wpList_load_row rfl 43 (.tmp 24) rfl _ rfl 43 (mk .u8 zs) (0, 0) _ (St.get (by assumption) 0 rfl) Try.underlying43 rfl hj ?_)
      | (refine wpList_load_row rfl 43 (.tmp 29) rfl _ rfl 43 (mk .u8 ys) (0, 0) _ (St.get (by assumption) 1 rfl) Try.underlying43 rfl hjy ?_))
    go_ret
    exact ⟨by rfl, St.below (by assumption)⟩
  · have D1 := Lib.hid d1
    have D2 := Lib.hid d2
    have t1 : (k + 1 == cn) = true := by rw [beq_iff_eq]; exact heq1
    clear d1 d2 heq1
    go_wp2_with (first
      | (go_at_call_of 16 (#[Value.int IntKind.i64 g, Value.int IntKind.i64 (n : Int), Value.int IntKind.i64 k]); refine (F1.out _).mono ?_; rintro e w1 ⟨rfl, hb⟩; have hS := St.call hb (by assumption); clear hb)
      | (go_at_call 17; refine (F2.out _).mono ?_; rintro e w1 ⟨rfl, hb⟩; have hS := St.call hb (by assumption); clear hb)
      | (go_at_call 18; refine (F3.out _).mono ?_; rintro e w1 ⟨rfl, hb⟩; have hS := St.call hb (by assumption); clear hb)
      | (go_at_call 19; refine (F4.out _).mono ?_; rintro e w1 ⟨rfl, hb⟩; have hS := St.call hb (by assumption); clear hb)
      | (go_at_call_of 16 (#[Value.int IntKind.i64 g, Value.int IntKind.i64 (n : Int), Value.int IntKind.i64 cn]); refine (F5.out _).mono ?_; rintro e w1 ⟨rfl, hb⟩; have hS := St.call hb (by assumption); clear hb)
      | (go_at_call 20; refine (F6.out _).mono ?_; rintro e w1 ⟨rfl, hb⟩; have hS := St.call hb (by assumption); clear hb)
      | (go_at_call_of 21 (Value.int IntKind.i64 (n : Int)); refine (D1.out _).mono ?_; rintro e w1 ⟨rfl, hb⟩; have hS := St.call hb (by assumption); clear hb)
      | (go_at_call 21; refine (D2.out _).mono ?_; rintro e w1 ⟨rfl, hb⟩; have hS := St.call hb (by assumption); clear hb)
      | (go_at_call_of 22 (#[Value.string (bs wd)]); refine (F7.out _).mono ?_; rintro e w1 ⟨rfl, hb⟩; have hS := St.call hb (by assumption); clear hb)
      | (go_at_call 23; refine (F8.out _).mono ?_; rintro e w1 ⟨rfl, hb⟩; have hS := St.call hb (by assumption); clear hb)
      | (go_at_call 9; refine (KW.out _ (H2.out.call (St.below (by assumption)))).mono ?_; rintro e w1 ⟨⟨u, hu, lu, rfl⟩, hb⟩; have hS := St.call hb (by assumption); obtain ⟨ys, y1, y2, y3⟩ := FU.out u (wrd_vld hu (Nat.le_trans lu (by decide))); have Y2 := Lib.hid y2; have Y1 := Lib.hid y1; have hjy := info_WC ys y1; have sky := Lib.hid (hsz ys y1); have heq := (fun w => run_eql_wc w ys zs y1 Z16.out); have hst : ((bs u).toList == (bs wd).toList) = (u == wd) := (by rw [bs_toList, bs_toList]); rw [y3] at heq; generalize (u == wd) = bb at heq hst; clear hb y1 y2 y3 hu lu)
      | (go_at_call_of 22 (#[Value.string (bs u)]); refine (Y2.out _).mono ?_; rintro e w1 ⟨rfl, hb⟩; have hS := St.call hb (by assumption); clear hb)
      | (refine wpList_store_row rfl 43 (.tmp 24) (.tmp 171) rfl _ (mk .u8 zs) rfl rfl 43 (mk .u8 z16) (one_first _ _) hj sk.out (mk_one _ _) ?_; have hS := St.fresh (by assumption) (mk .u8 z16) (mk .u8 zs) 43)
      | (refine wpList_store_row rfl 43 (.tmp 29) (.tmp 183) rfl _ (mk .u8 ys) rfl rfl 43 (mk .u8 z16) (one_first _ _) hjy sky.out (mk_one _ _) ?_; have hS := St.fresh (by assumption) (mk .u8 z16) (mk .u8 ys) 43)
      | (refine wpList_load_row rfl 43 (.tmp 24) rfl _ rfl 43 (mk .u8 zs) (0, 0) _ (St.get (by assumption) 0 rfl) Try.underlying43 rfl hj ?_)
      | (refine wpList_load_row rfl 43 (.tmp 29) rfl _ rfl 43 (mk .u8 ys) (0, 0) _ (St.get (by assumption) 1 rfl) Try.underlying43 rfl hjy ?_))
    go_ret
    exact ⟨by rfl, St.below (by assumption)⟩
theorem countWalk (A1 : Option Addr) (n1 c1 : Nat) (l1 : List UInt8) (A2 : Option Addr) (n2 c2 : Nat) (l2 : List UInt8) (w : World) (h1 : l1.length = n1 ∧ l1.length ≤ 9223372036854775807 ∧ Byi w A1 c1 l1) (h2 : l2.length = n2 ∧ l2.length ≤ 9223372036854775807 ∧ Byi w A2 c2 l2) :
    Calls Try.prog 4 #[.slice A1 n1 c1, .slice A2 n2 c2] w fun e w' => e = .returned (.bool true) ∧ Below w.heap.size w w' := by
  rcases both_len_cases n1 n2 with h | ⟨a, b⟩
  · exact countBig A1 A2 n1 n2 c1 c2 h w
  · exact countLaw A1 A2 c1 c2 l1 l2 n1 n2 h1.1 h2.1 a b w h1.2.2 h2.2.2
end Go.Proofs.Ytejmbbnhdojcbaa
