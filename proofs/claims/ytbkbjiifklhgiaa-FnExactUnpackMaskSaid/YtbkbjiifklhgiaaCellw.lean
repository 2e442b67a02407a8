/- CellsOf: the walk of the law. Conditions: none. -/
import Derived.Test.YtbkbjiifklhgiaaMark
import Derived.Deep.RegionHeld3
namespace Go.Proofs.Ytbkbjiifklhgiaa
open Go.RowKit
set_option linter.unusedVariables false

theorem hold2 {w w1 w2 : World} {a b c d : Addr} {u v x y : Value} (h : w1.cell? a = some u ∧ w1.cell? b = some v ∧ w1.cell? c = some x ∧ w1.cell? d = some y ∧ (a.block < w1.heap.size ∧ b.block < w1.heap.size ∧ c.block < w1.heap.size ∧ d.block < w1.heap.size) ∧ Below w.heap.size w w1) (hb : Below w1.heap.size w1 w2) :
    w2.cell? a = some u ∧ w2.cell? b = some v ∧ w2.cell? c = some x ∧ w2.cell? d = some y ∧ (a.block < w2.heap.size ∧ b.block < w2.heap.size ∧ c.block < w2.heap.size ∧ d.block < w2.heap.size) ∧ Below w.heap.size w w2 := by
  obtain ⟨h1, h2, h3, h4, ⟨h5, h6, h7, h8⟩, h9⟩ := h
  exact ⟨(hb.cell h5).trans h1, (hb.cell h6).trans h2, (hb.cell h7).trans h3, (hb.cell h8).trans h4, ⟨Nat.lt_of_lt_of_le h5 hb.size, Nat.lt_of_lt_of_le h6 hb.size, Nat.lt_of_lt_of_le h7 hb.size, Nat.lt_of_lt_of_le h8 hb.size⟩, h9.trans (hb.mono h9.size)⟩
/-- The numbers of cells, one behind the other. -/
def pr (l : List (Nat × Nat)) (j : Nat) : Int := if j % 2 = 0 then ((l.getD (j / 2) (0, 0)).1 : Int) else ((l.getD (j / 2) (0, 0)).2 : Int)
theorem pairVals_at : ∀ (l : List (Nat × Nat)) (j : Nat), j < l.length * 2 → (pairVals l)[j]? = some (.int .i32 (pr l j))
  | [], j, h => by simp at h
  | c :: l, 0, h => rfl
  | c :: l, 1, h => rfl
  | c :: l, j + 2, h => by
    have ih := pairVals_at l j (by simp at h; omega)
    show ((.int .i32 c.1 :: .int .i32 c.2 :: pairVals l) : List Value)[j + 2]? = _
    simp only [List.getElem?_cons_succ, ih]
    unfold pr
    have e1 : (j + 2) % 2 = j % 2 := by omega
    have e2 : (j + 2) / 2 = j / 2 + 1 := by omega
    rw [e1, e2]; simp
theorem cells_mb {w : World} {B : Nat} {v : Value} {l : List (Nat × Nat)} (h : Cells w B v l) : ∃ g cap, v = .slice (some ⟨g, 0, none⟩) l.length cap ∧ B ≤ g ∧ MB w g 35 (cap * 2) (l.length * 2) (fun j => .int .i32 (pr l j)) := by
  obtain ⟨g, cap, h1, h2, h3⟩ := row_mb h
  refine ⟨g, cap, h1, h2, h3.less (Nat.le_refl _) (fun j hj => ?_)⟩
  rw [List.getD_eq_getElem?_getD, pairVals_at l j hj]; rfl

set_option maxHeartbeats 800000 in
theorem eq2_any (a b : Int) (w : World) :
    Calls Try.prog 84 #[.agg #[.int .i32 a, .int .i32 b], .agg #[.int .i32 a, .int .i32 b]] w fun e w' => e = .returned (.bool true) ∧ Below w.heap.size w w' := by
  have hg : ∀ k, k < 2 → (#[Value.int .i32 a, .int .i32 b] : Array Value)[k]? = some (.int .i32 (if k = 0 then a else b)) := fun k h => by
    match k, h with
    | 0, _ => rfl
    | 1, _ => rfl
  have HG := Lib.hid hg
  obtain ⟨cs, hcs⟩ : ∃ cs, cs = (#[Value.int .i32 a, .int .i32 b] : Array Value) := ⟨_, rfl⟩
  rw [← hcs] at HG ⊢
  clear hg hcs
  go_enter Try.func84, Try.ntmps84
  go_wp2
  go_loopw [5] (fun i wr => ∃ k : Nat, k ≤ 2 ∧ i = .int .i64 k ∧ ∃ n, wr = ((w.alloc (.cells cs 35)).alloc (.cells cs 35)).drewN n) (fun i _ => 2 - (intOf i).toNat)
  case atStart => exact ⟨0, by omega, rfl, 0, rfl⟩
  case round =>
    obtain ⟨k, hk, rfl, n, rfl⟩ := hrel
    by_cases hlt : k < 2
    · have g1 := HG.out k hlt
      obtain ⟨z, hz⟩ : ∃ z : Int, z = if k = 0 then a else b := ⟨_, rfl⟩
      rw [← hz] at g1
      have i1 : (0 : Int) ≤ (k : Int) := by omega
      have i2 : (k : Int) < 2 := by omega
      clear hz
      go_wp2
      go_quiet (fail)
      go_wp2
      go_roundw
      case rel => exact ⟨k + 1, by omega, by go_num, n + nq, rfl⟩
      case measure => simp [intOf]; omega
    · obtain rfl : k = 2 := by omega
      go_wp2
      go_ret
      refine ⟨rfl, ?_⟩
      exact below_drewN (below_al (below_al (Below.refl _ _) (Nat.le_refl _) _) (Nat.le_refl _) _) _

set_option maxHeartbeats 1600000 in
theorem eqC_any (g1 g2 n c1 c2 S1 S2 : Nat) (f : Nat → Int) (hn : n ≤ 1000000) (w : World) (h1 : MB w g1 35 S1 (n * 2) (fun j => .int .i32 (f j))) (h2 : MB w g2 35 S2 (n * 2) (fun j => .int .i32 (f j))) :
    Calls Try.prog 49 #[.slice (some ⟨g1, 0, none⟩) n c1, .slice (some ⟨g2, 0, none⟩) n c2] w fun e w' => e = .returned (.bool true) ∧ Below w.heap.size w w' := by
  have H1 := Lib.hid h1
  have H2 := Lib.hid h2
  clear h1 h2
  go_enter Try.func49, Try.ntmps49
  go_wp2
  go_loopw [5] (fun i wr => ∃ j : Nat, j ≤ n ∧ i = .int .i64 j ∧ Below w.heap.size w wr) (fun i _ => n - (intOf i).toNat)
  case atStart => exact ⟨0, by omega, rfl, Below.refl _ _⟩
  case round =>
    obtain ⟨j, hj, rfl, hb⟩ := hrel
    by_cases hlt : j < n
    · have i0 : (0 : Int) ≤ j := by omega
      have i1 : (j : Int) < n := by omega
      have m1 := H1.out.below hb H1.out.lt
      have m2 := H2.out.below hb H2.out.lt
      have l1 := m1.lt
      have l2 := m2.lt
      have ca : wr.cell? ⟨g1, j * 2, none⟩ = some (.int .i32 (f (j * 2))) := m1.cell (by omega)
      have cb : wr.cell? ⟨g1, j * 2 + 1, none⟩ = some (.int .i32 (f (j * 2 + 1))) := m1.cell (by omega)
      have cc : wr.cell? ⟨g2, j * 2, none⟩ = some (.int .i32 (f (j * 2))) := m2.cell (by omega)
      have cd : wr.cell? ⟨g2, j * 2 + 1, none⟩ = some (.int .i32 (f (j * 2 + 1))) := m2.cell (by omega)
      obtain ⟨za, hza⟩ : ∃ z, z = f (j * 2) := ⟨_, rfl⟩
      obtain ⟨zb, hzb⟩ : ∃ z, z = f (j * 2 + 1) := ⟨_, rfl⟩
      rw [← hza] at ca cc
      rw [← hzb] at cb cd
      clear hza hzb m1 m2
      go_wp2
      go_region_held3 (fun w' => w'.cell? ⟨g1, j * 2, none⟩ = some (.int .i32 za) ∧ w'.cell? ⟨g1, j * 2 + 1, none⟩ = some (.int .i32 zb) ∧ w'.cell? ⟨g2, j * 2, none⟩ = some (.int .i32 za) ∧ w'.cell? ⟨g2, j * 2 + 1, none⟩ = some (.int .i32 zb) ∧ (g1 < w'.heap.size ∧ g1 < w'.heap.size ∧ g2 < w'.heap.size ∧ g2 < w'.heap.size) ∧ Below w.heap.size w w') (first | assumption | exact ⟨ca, cb, cc, cd, ⟨l1, l1, l2, l2⟩, hb⟩ | exact ⟨ca, cb, cc, cd, ⟨l1, l1, l2, l2⟩, hb.drew⟩)
        (first
          | (go_at_call 84; refine (eq2_any za zb _).mono ?_; rintro e w1 ⟨rfl, hb1⟩; have hK1 := hold2 (a := ⟨g1, j * 2, none⟩) (b := ⟨g1, j * 2 + 1, none⟩) (c := ⟨g2, j * 2, none⟩) (d := ⟨g2, j * 2 + 1, none⟩) (by assumption) hb1))
      have hbF := hK1.2.2.2.2.2
      clear hK1
      go_wp2
      go_roundw
      case rel => exact ⟨j + 1, by omega, by go_num, hbF⟩
      case measure => simp [intOf]; omega
    · obtain rfl : j = n := by omega
      go_wp2
      go_ret
      exact ⟨by rfl, hb⟩

def f32 (k j : Nat) : Value := .int .i32 ((k : Int) + j)
set_option maxHeartbeats 1600000 in
theorem markC_any (g n cap S : Nat) (f : Nat → Value) (hn : n ≤ 1000000) (w : World) (h : MB w g 35 S (n * 2) f) :
    Calls Try.prog 50 #[.slice (some ⟨g, 0, none⟩) n cap, .int .i64 1] w fun e w' => e = .returned (.int .i64 (1 + ((n * 2 : Nat) : Int))) ∧ MB w' g 35 S (n * 2) (f32 1) ∧ Below g w w' := by
  have hS := h.get
  have H := Lib.hid h
  clear h
  go_enter Try.func50, Try.ntmps50
  go_wp2
  go_loopw [1, 5] (fun q i wr => ∃ j : Nat, j ≤ n ∧ i = .int .i64 j ∧ q = .int .i64 (1 + ((j * 2 : Nat) : Int)) ∧ MB wr g 35 S (j * 2) (f32 1) ∧ Below g w wr) (fun _ i _ => n - (intOf i).toNat)
  case atStart => exact ⟨0, by omega, rfl, rfl, H.out.zero _, Below.refl _ _⟩
  case round =>
    obtain ⟨j, hj, rfl, rfl, hm, hb⟩ := hrel
    obtain ⟨wo, rfl⟩ : ∃ wo : World, wo = wr := ⟨_, rfl⟩
    by_cases hlt : j < n
    · have i0 : (0 : Int) ≤ j := by omega
      have i1 : (j : Int) < n := by omega
      have HM := Lib.hid hm
      clear hm
      go_wp2
      go_loopw [1, 6] (fun q i wr => ∃ x : Nat, x ≤ 2 ∧ i = .int .i64 x ∧ q = .int .i64 (1 + ((j * 2 + x : Nat) : Int)) ∧ MB wr g 35 S (j * 2 + x) (f32 1) ∧ Below g w wr) (fun _ i _ => 2 - (intOf i).toNat)
      case atStart => exact ⟨0, by omega, rfl, rfl, HM.out, hb⟩
      case round =>
        obtain ⟨x, hx, rfl, rfl, hm, hbx⟩ := hrel
        by_cases hlx : x < 2
        · have x0 : (0 : Int) ≤ x := by omega
          have x1 : (x : Int) < 2 := by omega
          obtain ⟨v, hc⟩ := hm.some_ (j := j * 2 + x) (by omega)
          have hf := hm.free (j * 2 + x)
          have HMx := Lib.hid hm
          obtain ⟨t, ht⟩ : ∃ t, t = j * 2 + x := ⟨_, rfl⟩
          rw [← ht] at HMx hc hf ⊢
          have HT := Lib.hid ht
          have t1 : (t : Int) ≤ 2000001 := by omega
          have t0 : (0 : Int) ≤ t := by omega
          have et : j * 2 + x = t := ht.symm
          clear hm ht
          go_wp2
          go_roundw
          case rel => exact ⟨x + 1, by omega, by go_num, by have := HT.out; congr 1 <;> omega, by have := HMx.out.put (by have := HT.out; omega); rw [show j * 2 + (x + 1) = t + 1 by (have := HT.out; omega)]; exact this, hbx.setCell (Nat.le_refl _) _⟩
          case measure => simp [intOf]; omega
        · obtain rfl : x = 2 := by omega
          go_wp2
          go_roundw
          case rel => exact ⟨j + 1, by omega, by go_num, by congr 1 <;> omega, by rw [show (j + 1) * 2 = j * 2 + 2 by omega]; exact hm, hbx⟩
          case measure => simp [intOf]; omega
    · obtain rfl : j = n := by omega
      go_wp2
      go_ret
      exact ⟨by rfl, hm, hb⟩
set_option maxHeartbeats 1600000 in
theorem heldC_any (g n cap S : Nat) (hn : n ≤ 1000000) (w : World) (h : MB w g 35 S (n * 2) (f32 1)) :
    Calls Try.prog 51 #[.slice (some ⟨g, 0, none⟩) n cap, .int .i64 1] w fun e w' => e = .returned (.int .i64 (1 + ((n * 2 : Nat) : Int))) ∧ Below w.heap.size w w' := by
  have H := Lib.hid h
  clear h
  go_enter Try.func51, Try.ntmps51
  go_wp2
  go_loopw [1, 5] (fun q i wr => ∃ j : Nat, j ≤ n ∧ i = .int .i64 j ∧ q = .int .i64 (1 + ((j * 2 : Nat) : Int)) ∧ ∃ d, wr = w.drewN d) (fun _ i _ => n - (intOf i).toNat)
  case atStart => exact ⟨0, by omega, rfl, rfl, 0, rfl⟩
  case round =>
    obtain ⟨j, hj, rfl, rfl, dd, rfl⟩ := hrel
    by_cases hlt : j < n
    · have i0 : (0 : Int) ≤ j := by omega
      have i1 : (j : Int) < n := by omega
      go_wp2
      go_loopw [1, 6] (fun q i wr => ∃ x : Nat, x ≤ 2 ∧ i = .int .i64 x ∧ q = .int .i64 (1 + ((j * 2 + x : Nat) : Int)) ∧ ∃ d, wr = w.drewN d) (fun _ i _ => 2 - (intOf i).toNat)
      case atStart => exact ⟨0, by omega, rfl, rfl, dd, rfl⟩
      case round =>
        obtain ⟨x, hx, rfl, rfl, d2, rfl⟩ := hrel
        by_cases hlx : x < 2
        · have x0 : (0 : Int) ≤ x := by omega
          have x1 : (x : Int) < 2 := by omega
          have hc : w.cell? ⟨g, j * 2 + x, none⟩ = some (.int .i32 ((1 : Int) + ((j * 2 + x : Nat) : Int))) := H.out.cell (by omega)
          obtain ⟨t, ht⟩ : ∃ t, t = j * 2 + x := ⟨_, rfl⟩
          rw [← ht] at hc ⊢
          have HT := Lib.hid ht
          have t1 : (t : Int) ≤ 2000001 := by omega
          have t0 : (0 : Int) ≤ t := by omega
          have et : j * 2 + x = t := ht.symm
          clear ht
          go_wp2
          go_roundw
          case rel => exact ⟨x + 1, by omega, by go_num, by have := HT.out; congr 1 <;> omega, d2, rfl⟩
          case measure => simp [intOf]; omega
        · obtain rfl : x = 2 := by omega
          go_wp2
          go_roundw
          case rel => exact ⟨j + 1, by omega, by go_num, by congr 1 <;> omega, d2, rfl⟩
          case measure => simp [intOf]; omega
    · obtain rfl : j = n := by omega
      go_wp2
      go_ret
      exact ⟨by rfl, below_drewN (Below.refl _ _) _⟩

theorem sCellsM (zs : List Int) (hz : zs.length = 16) (w : World) :
    Calls Try.prog 47 #[.agg (mk zs)] w fun e w' => ∃ g cap, e = .returned (.slice (some ⟨g, 0, none⟩) (cellsTo zs 16).length cap) ∧ w.heap.size ≤ g ∧ MB w' g 35 (cap * 2) ((cellsTo zs 16).length * 2) (fun j => .int .i32 (pr (cellsTo zs 16) j)) ∧ Below w.heap.size w w' := by
  refine (sCells zs hz w).mono ?_
  rintro e w' ⟨v, rfl, ho, hb⟩
  obtain ⟨g, cap, rfl, hg, hm⟩ := cells_mb ho
  exact ⟨g, cap, rfl, by omega, hm, hb⟩
theorem iCellsM (zs : List Int) (hz : zs.length = 16) (w : World) :
    Calls Try.prog 48 #[.agg (mk zs)] w fun e w' => ∃ g cap, e = .returned (.slice (some ⟨g, 0, none⟩) (cellsTo zs 16).length cap) ∧ w.heap.size ≤ g ∧ MB w' g 35 (cap * 2) ((cellsTo zs 16).length * 2) (fun j => .int .i32 (pr (cellsTo zs 16) j)) ∧ Below w.heap.size w w' := by
  refine (iCells zs hz w).mono ?_
  rintro e w' ⟨v, rfl, ho, hb⟩
  obtain ⟨g, cap, rfl, hg, hm⟩ := cells_mb ho
  exact ⟨g, cap, rfl, by omega, hm, hb⟩

set_option maxHeartbeats 1600000 in
theorem cellsWalk (zs : List Int) (w : World) (hz : zs.length = 16) (hw : ∀ z ∈ zs, (Lit.int .u16 z).wf = true) :
    Calls Try.prog 14 #[.agg (zs.map (Value.int .u16)).toArray] w fun e w' => e = .returned (.bool true) ∧ Below w.heap.size w w' := by
  show Calls Try.prog 14 #[.agg (mk zs)] w _
  have S0 := Ms.zero (w.alloc (.cells (mk zs) 23))
  have hi := infoSize23 zs hz
  have hlen : (cellsTo zs 16).length ≤ 16 * 16 := cellsTo_len zs 16
  have KS := Lib.hid (show ∀ w, _ from fun w => sCellsM zs hz w)
  have KI := Lib.hid (show ∀ w, _ from fun w => iCellsM zs hz w)
  generalize cellsTo zs 16 = l at *
  obtain ⟨n, hnl⟩ : ∃ n, n = l.length := ⟨_, rfl⟩
  rw [← hnl] at hlen KS KI
  have nn : n ≤ 1000000 := by omega
  clear hnl
  go_enter Try.func14, Try.ntmps14
  go_wp2_with (first
      | (refine wpList_load_row rfl 23 (.tmp 1) rfl w.heap.size rfl 23 (mk zs) (0, 0) _ (Ms.box (by assumption)) Try.underlying23 rfl hi ?_)
      | (go_at_call 20; refine (toMask_any zs hz _).mono ?_; rintro e w1 ⟨rfl, hb⟩; have hS := Ms.call hb (by assumption); clear hb)
      | (go_at_call 47; refine (KS.out _).mono ?_; rintro e w1 ⟨g0, c0, rfl, hg, hm, hb⟩; have hS := Ms.add (by assumption) hb hg hm; clear hb hg hm)
      | (go_at_call 48; refine (KI.out _).mono ?_; rintro e w1 ⟨g1, c1, rfl, hg, hm, hb⟩; have hlt := Nat.lt_of_lt_of_le (Ms.lt (by assumption) 0 rfl) hg; have hS := Ms.add (by assumption) hb hg hm; clear hb hg hm)
      | (go_at_call 49; refine (eqC_any _ _ _ _ _ _ _ (pr l) nn _ (Ms.at (by assumption) 1 rfl) (Ms.at (by assumption) 0 rfl)).mono ?_; rintro e w1 ⟨rfl, hb⟩; have hS := Ms.call hb (by assumption); clear hb)
      | (go_at_call 49; refine (eqC_any _ _ _ _ _ _ _ (pr l) nn _ (Ms.at (by assumption) 2 rfl) (Ms.at (by assumption) 0 rfl)).mono ?_; rintro e w1 ⟨rfl, hb⟩; have hS := Ms.call hb (by assumption); clear hb)
      | (go_at_call 50; refine (markC_any _ _ _ _ _ nn _ (Ms.at (by assumption) 1 rfl)).mono ?_; rintro e w1 ⟨rfl, hm, hb⟩; have hS := Ms.mark2 (by assumption) (by assumption) hb hm; clear hb hm)
      | (go_at_call 51; refine (heldC_any _ _ _ _ nn _ (Ms.at (by assumption) 1 rfl)).mono ?_; rintro e w1 ⟨rfl, hb⟩; have hS := Ms.call hb (by assumption); clear hb))
  go_ret
  exact ⟨rfl, Ms.end_ (by assumption)⟩
end Go.Proofs.Ytbkbjiifklhgiaa
