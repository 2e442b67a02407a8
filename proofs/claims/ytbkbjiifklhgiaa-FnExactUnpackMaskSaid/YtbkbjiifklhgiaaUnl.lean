/- UnpackMask: the walk of the law. Conditions: none. -/
import Derived.Test.YtbkbjiifklhgiaaUnw
namespace Go.Proofs.Ytbkbjiifklhgiaa
open Go.RowKit
set_option linter.unusedVariables false

set_option maxHeartbeats 1600000 in
theorem eqB_big (g1 g2 n c1 c2 S1 S2 : Nat) (f : Nat → Int) (hn : n ≤ 1048576) (w : World) (h1 : MB w g1 5 S1 n (fun j => .int .u8 (f j))) (h2 : MB w g2 5 S2 n (fun j => .int .u8 (f j))) :
    Calls Try.prog 44 #[.slice (some ⟨g1, 0, none⟩) n c1, .slice (some ⟨g2, 0, none⟩) n c2] w fun e w' => e = .returned (.bool true) ∧ Below w.heap.size w w' := by
  have H1 := Lib.hid h1
  have H2 := Lib.hid h2
  clear h1 h2
  go_enter Try.func44, Try.ntmps44
  go_wp2
  go_loopw [5] (fun i wr => ∃ j : Nat, j ≤ n ∧ i = .int .i64 j ∧ ∃ d, wr = w.drewN d) (fun i _ => n - (intOf i).toNat)
  case atStart => exact ⟨0, by omega, rfl, 0, rfl⟩
  case round =>
    obtain ⟨j, hj, rfl, dd, rfl⟩ := hrel
    by_cases hlt : j < n
    · have i0 : (0 : Int) ≤ j := by omega
      have i1 : (j : Int) < n := by omega
      have hc : w.cell? ⟨g1, j, none⟩ = some (.int .u8 (f j)) := H1.out.cell hlt
      have hc2 : w.cell? ⟨g2, j, none⟩ = some (.int .u8 (f j)) := H2.out.cell hlt
      go_wp2
      go_quiet (fail)
      go_wp2
      go_roundw
      case rel => exact ⟨j + 1, by omega, by go_num, dd + nq, rfl⟩
      case measure => simp [intOf]; omega
    · obtain rfl : j = n := by omega
      go_wp2
      go_ret
      exact ⟨by rfl, below_drewN (Below.refl _ _) _⟩
theorem St.mbB {w w' : World} {M : List (Nat × Obj)} (h : St w M w') (i : Nat) {g n : Nat} {f : Nat → Int} {cur : Array Value} (hi : M[i]? = some (g, .cells cur 5 (0, 0))) (h1 : cur.size = n) (h2 : ∀ j, j < n → cur[j]? = some (.int .u8 (f j))) : MB w' g 5 n n (fun j => .int .u8 (f j)) :=
  ⟨cur, h.get i hi, h1, Nat.le_refl _, h2⟩
theorem bys_of {w : World} {g S n : Nat} {l : List UInt8} (hl : l.length = n) (h : MB w g 5 S n (fun j => .int .u8 (bt l j))) : Bys w (some ⟨g, 0, none⟩) l := by
  subst hl; exact h.bys

set_option maxRecDepth 100000 in
set_option maxHeartbeats 3200000 in
theorem unLaw (A : Option Addr) (n cap : Nat) (l : List UInt8) (hl : l.length = n) (rs : List Int) (c : Int) (hn : n ≤ 1048576) (hr : rs.length = 16)
    (hs : ∀ (A : Option Addr) (c' : Nat) w, Bys w A l → Calls Try.prog 63 #[.slice A n c'] w fun e w' => e = .returned (.tuple #[.agg (mk rs), .int .i64 c]) ∧ Below w.heap.size w w')
    (hm : ∀ (A : Option Addr) (c' : Nat) w, Bys w A l → Calls Try.prog 65 #[.slice A n c'] w fun e w' => e = .returned (.tuple #[.agg (mk rs), .int .i64 c]) ∧ Below w.heap.size w w') (w : World) (h : Bys w A l) :
    Calls Try.prog 18 #[.slice A n cap] w fun e w' => e = .returned (.bool true) ∧ Below w.heap.size w w' := by
  have S0 := St.zero w
  have Z := lit0
  have H := Lib.hid h
  have hj := infoSize26 rs hr
  have hk := mk_same rs hr
  have hR := Lib.hid hr
  have KS := Lib.hid hs
  have KI := Lib.hid hm
  have HL := Lib.hid hl
  have d : ¬ (1048576 : Int) < n := by omega
  have ht : ∀ (A : Option Addr) (c : Nat) (w : World), Bys w A l → Calls Try.prog 64 #[.slice A n c] w fun e w' => ∃ g cur, e = .returned (.slice (some ⟨g, 0, none⟩) n n) ∧ w.heap.size ≤ g ∧ w'.heap[g]? = some (.cells cur 5 (0, 0)) ∧ cur.size = n ∧ (∀ j, j < n → cur[j]? = some (.int .u8 (bt l j))) ∧ Below w.heap.size w w' := by
    subst hl
    exact fun A c w h => toBys_any A c l hn w h
  have HT := Lib.hid ht
  clear hs hm h hr hl ht
  go_enter Try.func18, Try.ntmps18
  go_wp2_with (first
      | (go_at_call 64; have _t := c1; clear _t; refine (HT.out _ _ _ (H.out.call (St.below (by assumption)))).mono ?_; rintro e w1 ⟨g2, c2, rfl, hg, k1, k2, k3, hb⟩; have s2 := Lib.hid k2; have t2 := Lib.hid k3; have hS := St.add (by assumption) hb hg k1; clear hg hb k1 k2 k3)
      | (go_at_call 64; have _t := c0; clear _t; refine (HT.out _ _ _ (H.out.call (St.below (by assumption)))).mono ?_; rintro e w1 ⟨g1, c1, rfl, hg, k1, k2, k3, hb⟩; have s1 := Lib.hid k2; have t1 := Lib.hid k3; have hS := St.add (by assumption) hb hg k1; clear hg hb k1 k2 k3)
      | (go_at_call 64; refine (HT.out _ _ _ (H.out.call (St.below (by assumption)))).mono ?_; rintro e w1 ⟨g0, c0, rfl, hg, k1, k2, k3, hb⟩; have s0 := Lib.hid k2; have t0 := Lib.hid k3; have hS := St.add (by assumption) hb hg k1; clear hg hb k1 k2 k3)
      | (go_at_call 63; refine (KS.out _ _ _ (bys_of HL.out (St.mbB (by assumption) 0 rfl s0.out t0.out))).mono ?_; rintro e w1 ⟨rfl, hb⟩; have hS := St.call hb (by assumption); clear hb)
      | (go_at_call 65; refine (KI.out _ _ _ (bys_of HL.out (St.mbB (by assumption) 2 rfl s1.out t1.out))).mono ?_; rintro e w1 ⟨rfl, hb⟩; have hS := St.call hb (by assumption); clear hb)
      | (go_at_call 44; refine (eqB_big _ _ _ _ _ _ _ (bt l) hn _ (St.mbB (by assumption) 2 rfl s1.out t1.out) (St.mbB (by assumption) 4 rfl s2.out t2.out)).mono ?_; rintro e w1 ⟨rfl, hb⟩; have hS := St.call hb (by assumption); clear hb)
      | (refine wpList_store_row rfl 26 (.tmp 3) (.tmp 15) rfl _ (mk rs) rfl rfl 26 (mk zs0) (one_first _ _) hj hk (mk_one _) ?_; have hS := St.fresh (by assumption) (mk zs0) (mk rs) 26)
      | (refine wpList_store_row rfl 26 (.tmp 6) (.tmp 22) rfl _ (mk rs) rfl rfl 26 (mk zs0) (one_first _ _) hj hk (mk_one _) ?_; have hS := St.fresh (by assumption) (mk zs0) (mk rs) 26)
      | (go_at_call 24; refine (eqMask_any rs hR.out _).mono ?_; rintro e w1 ⟨rfl, hb⟩; have hS := St.call hb (by assumption); clear hb)
      | (refine wpList_load_row rfl 26 (.tmp 6) rfl _ rfl 26 (mk rs) (0, 0) _ (St.get (by assumption) 3 rfl) Try.underlying26 rfl hj ?_)
      | (refine wpList_load_row rfl 26 (.tmp 3) rfl _ rfl 26 (mk rs) (0, 0) _ (St.get (by assumption) 1 rfl) Try.underlying26 rfl hj ?_))
  go_ret
  exact ⟨rfl, St.below (by assumption)⟩

set_option maxHeartbeats 400000 in
theorem unBig (A : Option Addr) (n cap : Nat) (hn : 1048576 < n) (w : World) :
    Calls Try.prog 18 #[.slice A n cap] w fun e w' => e = .returned (.bool true) ∧ Below w.heap.size w w' := by
  have d : (1048576 : Int) < n := by omega
  clear hn
  go_enter Try.func18, Try.ntmps18
  go_wp2
  go_ret
  exact ⟨rfl, Below.refl _ _⟩
theorem unWalk (A : Option Addr) (n cap : Nat) (l : List UInt8) (w : World) (h : l.length = n ∧ l.length ≤ 9223372036854775807 ∧ Bys w A l) :
    Calls Try.prog 18 #[.slice A n cap] w fun e w' => e = .returned (.bool true) ∧ Below w.heap.size w w' := by
  obtain ⟨hl, _, hb⟩ := h
  subst hl
  by_cases h1 : l.length ≤ 1048576
  · have key : ∀ rs c, Res l rs c → Calls Try.prog 18 #[.slice A l.length cap] w fun e w' => e = .returned (.bool true) ∧ Below w.heap.size w w' := fun rs c hR =>
      unLaw A l.length cap l rfl rs c h1 (res_len hR)
        (fun A c' w a => (sUn A c' l h1 w a).mono fun e w' ⟨⟨zs, c2, he, hr⟩, hb⟩ => by obtain ⟨rfl, rfl⟩ := res_one hr hR; exact ⟨he, hb⟩)
        (fun A c' w a => (iUn A c' l h1 w a).mono fun e w' ⟨⟨zs, c2, he, hr⟩, hb⟩ => by obtain ⟨rfl, rfl⟩ := res_one hr hR; exact ⟨he, hb⟩) w hb
    by_cases hg : ∃ z0, Good l z0
    · obtain ⟨z0, hz⟩ := hg
      exact key z0 0 (.inl ⟨rfl, hz⟩)
    · exact key zs0 5 (.inr ⟨rfl, rfl, fun z0 hz => hg ⟨z0, hz⟩⟩)
  · exact unBig A l.length cap (by omega) w
end Go.Proofs.Ytbkbjiifklhgiaa
