/- MaskOf: the walk of the law. Conditions: none. -/
import Derived.Test.YtbkbjiifklhgiaaMof
import Derived.Deep.RegionHeld3
namespace Go.Proofs.Ytbkbjiifklhgiaa
open Go.RowKit
set_option linter.unusedVariables false

theorem St.add {w w1 w2 : World} {M : List (Nat × Obj)} (h : St w M w1) (hb : Below w1.heap.size w1 w2) {g : Nat} {o : Obj} (hg : w1.heap.size ≤ g) (ho : w2.heap[g]? = some o) : St w (M ++ [(g, o)]) w2 := by
  have hc := St.call hb h
  refine ⟨hc.1, fun i g' x hi => ?_⟩
  rw [List.getElem?_append] at hi
  split at hi
  · exact hc.2 i g' x hi
  · have e : i - M.length = 0 := by
      have := (List.getElem?_eq_some_iff.1 hi).1
      simp at this; omega
    rw [e] at hi
    simp at hi
    obtain ⟨rfl, rfl⟩ := hi
    exact ⟨Nat.le_trans h.1.size hg, ho⟩

set_option maxHeartbeats 400000 in
theorem szP_yes (A : Option Addr) (n c : Nat) (hn : n ≤ 1048576) (w : World) : Calls Try.prog 54 #[.slice A n c, .int .i64 1048576] w fun e w' => e = .returned (.int .i64 (1048576 - (n : Int))) ∧ w = w' := by
  have q : IntKind.i64.wrap (1048576 - (n : Int)) = 1048576 - (n : Int) := Go.IntWalk.i64_in _ (by omega)
  have d : ¬ (1048576 - (n : Int)) < 0 := by omega
  go_enter Try.func54, Try.ntmps54
  go_wp2
  go_ret
  exact ⟨rfl, rfl⟩
set_option maxHeartbeats 400000 in
theorem szP_no (A : Option Addr) (n c : Nat) (hn : 1048576 < n) (hm : n ≤ 9223372036854775807) (w : World) : Calls Try.prog 54 #[.slice A n c, .int .i64 1048576] w fun e w' => e = .returned (.int .i64 (-1)) ∧ w = w' := by
  have q : IntKind.i64.wrap (1048576 - (n : Int)) = 1048576 - (n : Int) := Go.IntWalk.i64_in _ (by omega)
  have d : (1048576 - (n : Int)) < 0 := by omega
  go_enter Try.func54, Try.ntmps54
  go_wp2
  go_ret
  exact ⟨rfl, rfl⟩

theorem toPrs_ex (A : Option Addr) (n c : Nat) (f : Nat → Int) (hn : n ≤ 1048576) (w : World) (h : Prs w A n f) :
    Calls Try.prog 56 #[.slice A n c] w fun e w' => ∃ g cur, e = .returned (.slice (some ⟨g, 0, none⟩) n n) ∧ w.heap.size ≤ g ∧ w'.heap[g]? = some (.cells cur 35 (0, 0)) ∧ cur.size = n * 2 ∧ (∀ j, j < n * 2 → cur[j]? = some (.int .i32 (f j))) ∧ Below w.heap.size w w' :=
  (toPrs_any A n c f hn w h).mono fun e w' ⟨h1, ⟨cur, k1, k2, k3, k4⟩, h3⟩ => ⟨_, cur, h1, Nat.le_refl _, k1, k2, k4, h3⟩
theorem St.mb {w w' : World} {M : List (Nat × Obj)} (h : St w M w') (i : Nat) {g n : Nat} {f : Nat → Int} {cur : Array Value} (hi : M[i]? = some (g, .cells cur 35 (0, 0))) (h1 : cur.size = n * 2) (h2 : ∀ j, j < n * 2 → cur[j]? = some (.int .i32 (f j))) : MB w' g 35 (n * 2) (n * 2) (fun j => .int .i32 (f j)) :=
  ⟨cur, h.get i hi, h1, Nat.le_refl _, h2⟩

set_option maxHeartbeats 1600000 in
theorem eqC_big (g1 g2 n c1 c2 S1 S2 : Nat) (f : Nat → Int) (hn : n ≤ 1048576) (w : World) (h1 : MB w g1 35 S1 (n * 2) (fun j => .int .i32 (f j))) (h2 : MB w g2 35 S2 (n * 2) (fun j => .int .i32 (f j))) :
    Calls Try.prog 49 #[.slice (some ⟨g1, 0, none⟩) n c1, .slice (some ⟨g2, 0, none⟩) n c2] w fun e w' => e = .returned (.bool true) ∧ Below w.heap.size w w' := by
  have H1 := Lib.hid h1
  have H2 := Lib.hid h2
  clear h1 h2
  go_enter Try.func49, Try.ntmps49
  go_wp2
  go_loopw [5] (fun i wr => ∃ j : Nat, j ≤ n ∧ i = .int .i64 j ∧ Below w.heap.size w wr) (fun i _ => n - (intOf i).toNat)
  case atStart => exact ⟨0, by omega, rfl, Below.refl _ _⟩
  case round =>
    obtain ⟨j, hj, rfl, hb⟩ := hrel
    by_cases hlt : j < n
    · have i0 : (0 : Int) ≤ j := by omega
      have i1 : (j : Int) < n := by omega
      have m1 := H1.out.below hb H1.out.lt
      have m2 := H2.out.below hb H2.out.lt
      have l1 := m1.lt
      have l2 := m2.lt
      have ca : wr.cell? ⟨g1, j * 2, none⟩ = some (.int .i32 (f (j * 2))) := m1.cell (by omega)
      have cb : wr.cell? ⟨g1, j * 2 + 1, none⟩ = some (.int .i32 (f (j * 2 + 1))) := m1.cell (by omega)
      have cc : wr.cell? ⟨g2, j * 2, none⟩ = some (.int .i32 (f (j * 2))) := m2.cell (by omega)
      have cd : wr.cell? ⟨g2, j * 2 + 1, none⟩ = some (.int .i32 (f (j * 2 + 1))) := m2.cell (by omega)
      obtain ⟨za, hza⟩ : ∃ z, z = f (j * 2) := ⟨_, rfl⟩
      obtain ⟨zb, hzb⟩ : ∃ z, z = f (j * 2 + 1) := ⟨_, rfl⟩
      rw [← hza] at ca cc
      rw [← hzb] at cb cd
      clear hza hzb m1 m2
      go_wp2
      go_region_held3 (fun w' => w'.cell? ⟨g1, j * 2, none⟩ = some (.int .i32 za) ∧ w'.cell? ⟨g1, j * 2 + 1, none⟩ = some (.int .i32 zb) ∧ w'.cell? ⟨g2, j * 2, none⟩ = some (.int .i32 za) ∧ w'.cell? ⟨g2, j * 2 + 1, none⟩ = some (.int .i32 zb) ∧ (g1 < w'.heap.size ∧ g1 < w'.heap.size ∧ g2 < w'.heap.size ∧ g2 < w'.heap.size) ∧ Below w.heap.size w w') (first | assumption | exact ⟨ca, cb, cc, cd, ⟨l1, l1, l2, l2⟩, hb⟩ | exact ⟨ca, cb, cc, cd, ⟨l1, l1, l2, l2⟩, hb.drew⟩)
        (first
          | (go_at_call 84; refine (eq2_any za zb _).mono ?_; rintro e w1 ⟨rfl, hb1⟩; have hK1 := hold2 (a := ⟨g1, j * 2, none⟩) (b := ⟨g1, j * 2 + 1, none⟩) (c := ⟨g2, j * 2, none⟩) (d := ⟨g2, j * 2 + 1, none⟩) (by assumption) hb1))
      have hbF := hK1.2.2.2.2.2
      clear hK1
      go_wp2
      go_roundw
      case rel => exact ⟨j + 1, by omega, by go_num, hbF⟩
      case measure => simp [intOf]; omega
    · obtain rfl : j = n := by omega
      go_wp2
      go_ret
      exact ⟨by rfl, hb⟩

set_option maxRecDepth 100000 in
set_option maxHeartbeats 3200000 in
theorem mofLaw (A : Option Addr) (n cap : Nat) (f : Nat → Int) (rs : List Int) (c : Int) (hn : n ≤ 1048576) (hr : rs.length = 16)
    (hs : ∀ (A : Option Addr) (c' : Nat) w, Prs w A n f → Calls Try.prog 55 #[.slice A n c'] w fun e w' => e = .returned (.tuple #[.agg (mk rs), .int .i64 c]) ∧ Below w.heap.size w w')
    (hm : ∀ (A : Option Addr) (c' : Nat) w, Prs w A n f → Calls Try.prog 57 #[.slice A n c'] w fun e w' => e = .returned (.tuple #[.agg (mk rs), .int .i64 c]) ∧ Below w.heap.size w w') (w : World) (h : Prs w A n f) :
    Calls Try.prog 16 #[.slice A n cap] w fun e w' => e = .returned (.bool true) ∧ Below w.heap.size w w' := by
  have S0 := St.zero w
  have Z := lit0
  have H := Lib.hid h
  have hj := infoSize26 rs hr
  have hk := mk_same rs hr
  have hR := Lib.hid hr
  have KS := Lib.hid hs
  have KI := Lib.hid hm
  have d : ¬ (1048576 - (n : Int)) < 0 := by omega
  have HZ := Lib.hid (fun w => szP_yes A n cap hn w)
  clear hs hm h hr
  go_enter Try.func16, Try.ntmps16
  go_wp2_with (first
      | (go_at_call 54; refine (HZ.out _).mono ?_; rintro e w1 ⟨rfl, rfl⟩)
      | (go_at_call 56; have _t := c1; clear _t; refine (toPrs_ex _ _ _ f hn _ (H.out.below (Nat.le_refl _) (St.below (by assumption)))).mono ?_; rintro e w1 ⟨g2, c2, rfl, hg, k1, k2, k3, hb⟩; have s2 := Lib.hid k2; have t2 := Lib.hid k3; have hS := St.add (by assumption) hb hg k1; clear hg hb k1 k2 k3)
      | (go_at_call 56; have _t := c0; clear _t; refine (toPrs_ex _ _ _ f hn _ (H.out.below (Nat.le_refl _) (St.below (by assumption)))).mono ?_; rintro e w1 ⟨g1, c1, rfl, hg, k1, k2, k3, hb⟩; have s1 := Lib.hid k2; have t1 := Lib.hid k3; have hS := St.add (by assumption) hb hg k1; clear hg hb k1 k2 k3)
      | (go_at_call 56; refine (toPrs_ex _ _ _ f hn _ (H.out.below (Nat.le_refl _) (St.below (by assumption)))).mono ?_; rintro e w1 ⟨g0, c0, rfl, hg, k1, k2, k3, hb⟩; have s0 := Lib.hid k2; have t0 := Lib.hid k3; have hS := St.add (by assumption) hb hg k1; clear hg hb k1 k2 k3)
      | (go_at_call 55; refine (KS.out _ _ _ (MB.prs (St.mb (by assumption) 0 rfl s0.out t0.out))).mono ?_; rintro e w1 ⟨rfl, hb⟩; have hS := St.call hb (by assumption); clear hb)
      | (go_at_call 57; refine (KI.out _ _ _ (MB.prs (St.mb (by assumption) 2 rfl s1.out t1.out))).mono ?_; rintro e w1 ⟨rfl, hb⟩; have hS := St.call hb (by assumption); clear hb)
      | (go_at_call 49; refine (eqC_big _ _ _ _ _ _ _ f hn _ (St.mb (by assumption) 2 rfl s1.out t1.out) (St.mb (by assumption) 4 rfl s2.out t2.out)).mono ?_; rintro e w1 ⟨rfl, hb⟩; have hS := St.call hb (by assumption); clear hb)
      | (refine wpList_store_row rfl 26 (.tmp 4) (.tmp 18) rfl _ (mk rs) rfl rfl 26 (mk zs0) (one_first _ _) hj hk (mk_one _) ?_; have hS := St.fresh (by assumption) (mk zs0) (mk rs) 26)
      | (refine wpList_store_row rfl 26 (.tmp 7) (.tmp 25) rfl _ (mk rs) rfl rfl 26 (mk zs0) (one_first _ _) hj hk (mk_one _) ?_; have hS := St.fresh (by assumption) (mk zs0) (mk rs) 26)
      | (go_at_call 24; refine (eqMask_any rs hR.out _).mono ?_; rintro e w1 ⟨rfl, hb⟩; have hS := St.call hb (by assumption); clear hb)
      | (refine wpList_load_row rfl 26 (.tmp 7) rfl _ rfl 26 (mk rs) (0, 0) _ (St.get (by assumption) 3 rfl) Try.underlying26 rfl hj ?_)
      | (refine wpList_load_row rfl 26 (.tmp 4) rfl _ rfl 26 (mk rs) (0, 0) _ (St.get (by assumption) 1 rfl) Try.underlying26 rfl hj ?_))
  go_ret
  exact ⟨rfl, St.below (by assumption)⟩

theorem first_no {p : Nat → Bool} : ∀ n, (∀ j, j < n → p j = true) ∨ ∃ k, k < n ∧ (∀ j, j < k → p j = true) ∧ p k = false
  | 0 => .inl fun j hj => by omega
  | n + 1 => by
    rcases first_no (p := p) n with h | ⟨k, hk, h1, h2⟩
    · cases hp : p n
      · exact .inr ⟨n, by omega, h, hp⟩
      · exact .inl fun j hj => if e : j = n then e ▸ hp else h j (by omega)
    · exact .inr ⟨k, by omega, h1, h2⟩
set_option maxHeartbeats 400000 in
theorem mofBig (A : Option Addr) (n cap : Nat) (hn : 1048576 < n) (hm : n ≤ 9223372036854775807) (w : World) :
    Calls Try.prog 16 #[.slice A n cap] w fun e w' => e = .returned (.bool true) ∧ Below w.heap.size w w' := by
  have HZ := Lib.hid (fun w => szP_no A n cap hn hm w)
  clear hn hm
  go_enter Try.func16, Try.ntmps16
  go_wp2_with (go_at_call 54; refine (HZ.out _).mono ?_; rintro e w1 ⟨rfl, rfl⟩)
  go_ret
  exact ⟨rfl, Below.refl _ _⟩
theorem mofWalk (A : Option Addr) (n cap : Nat) (f : Nat → Int) (w : World) (h : n ≤ 9223372036854775807 ∧ Prs w A n f ∧ ∀ j, j < n * 2 → (Lit.int .i32 (f j)).wf = true) :
    Calls Try.prog 16 #[.slice A n cap] w fun e w' => e = .returned (.bool true) ∧ Below w.heap.size w w' := by
  obtain ⟨hm, hp, hw⟩ := h
  by_cases h1 : n ≤ 1048576
  · by_cases h2 : n ≤ 1024
    · rcases first_no (p := fun k => inB (f (k * 2)) && inB (f (k * 2 + 1))) n with hok | ⟨K, hK, hlo, hbad⟩
      · have hok' : ∀ k, k < n → inB (f (k * 2)) = true ∧ inB (f (k * 2 + 1)) = true := fun k hk => by simpa using hok k hk
        exact mofLaw A n cap f (mo f n) 0 h1 (mo_len f n) (fun A c w a => sMof A n c f h2 hok' w a) (fun A c w a => iMof A n c f h2 hok' w a) w hp
      · have hlo' : ∀ k, k < K → inB (f (k * 2)) = true ∧ inB (f (k * 2 + 1)) = true := fun k hk => by simpa using hlo k hk
        exact mofLaw A n cap f zs0 2 h1 rfl (fun A c w a => sMof_bad A n c f h2 K hK hlo' hbad hw w a) (fun A c w a => iMof_bad A n c f h2 K hK hlo' hbad hw w a) w hp
    · exact mofLaw A n cap f zs0 3 h1 rfl (fun A c w a => sMof_big A n c (by omega) w) (fun A c w a => iMof_big A n c (by omega) w) w hp
  · exact mofBig A n cap (by omega) hm w

end Go.Proofs.Ytbkbjiifklhgiaa
