/- JoinMasks, MeetMasks, MinusMasks: row by row; the walks of both sides. Conditions: none. -/
import Derived.Test.YtbkbjiifklhgiaaOpen
import Derived.RegionTactic
import Derived.ChangeAlike
import Derived.BigRegion
import Derived.Deep.RegionWith
import Derived.Deep.DeepCutAuto
import Derived.Deep.Cut
namespace Go.Proofs.Ytbkbjiifklhgiaa
open Go.RowKit

/-- Row by row, up to row k; the rest xs it was. -/
def zipTo (f : Int → Int → Int) (xs ys : List Int) (k : Nat) : List Int := (List.zipWith f xs ys).take k ++ xs.drop k
theorem zipTo_len (f : Int → Int → Int) (xs ys : List Int) (ha : xs.length = 16) (hb : ys.length = 16) (k : Nat) (hk : k ≤ 16) : (zipTo f xs ys k).length = 16 := by
  simp [zipTo, ha, hb]; omega
theorem zipTo_nth (f : Int → Int → Int) (xs ys : List Int) (ha : xs.length = 16) (hb : ys.length = 16) (k : Nat) (hk : k < 16) : nth (zipTo f xs ys k) k = nth xs k := by
  simp [nth, zipTo, List.getElem?_append, ha, hb, show min k 16 = k by omega]
theorem zipTo_set (f : Int → Int → Int) (xs ys : List Int) (ha : xs.length = 16) (hb : ys.length = 16) (k : Nat) (hk : k < 16) :
    (zipTo f xs ys k).set k (f (nth xs k) (nth ys k)) = zipTo f xs ys (k + 1) := by
  have h1 : xs.drop k = nth xs k :: xs.drop (k + 1) := by rw [List.drop_eq_getElem_cons (by omega)]; simp [nth, List.getElem?_eq_getElem (show k < xs.length by omega)]
  have h2 : (List.zipWith f xs ys).take (k + 1) = (List.zipWith f xs ys).take k ++ [f (nth xs k) (nth ys k)] := by
    rw [List.take_succ_eq_append_getElem (by simp; omega)]; simp [nth, List.getElem?_eq_getElem (show k < xs.length by omega), List.getElem?_eq_getElem (show k < ys.length by omega)]
  unfold zipTo
  rw [h1, h2, List.set_append_right _ _ (by simp; omega)]
  simp [show k - min k (min xs.length ys.length) = 0 by omega]
theorem zipTo_all (f : Int → Int → Int) (xs ys : List Int) (ha : xs.length = 16) (hb : ys.length = 16) : zipTo f xs ys 16 = List.zipWith f xs ys := by
  simp [zipTo, ha, hb, List.take_of_length_le, List.drop_eq_nil_iff.2]
theorem zipTo_zero (f : Int → Int → Int) (xs ys : List Int) : zipTo f xs ys 0 = xs := by simp [zipTo]

theorem set3 (w : World) (c : Array Value) (t : TypeId) (o1 o2 : Obj) (n k : Nat) (v : Value) :
    ((((w.alloc (.cells c t)).alloc o1).alloc o2).drewN n).setCell ⟨w.heap.size, k, none⟩ v = (((w.alloc (.cells (c.setIfInBounds k v) t)).alloc o1).alloc o2).drewN n := by
  show ((((w.alloc (.cells c t)).alloc o1).alloc o2).setCell ⟨w.heap.size, k, none⟩ v).drewN n = _
  rw [World.setCell_alloc_past _ _ _ _ (by simp; omega), World.setCell_alloc_past _ _ _ _ (by simp), World.setCell_alloc_at _ _ _ _ _ rfl]
theorem three (w : World) (a b c : Obj) (n : Nat) : ((((w.alloc a).alloc b).alloc c).drewN n).heap[w.heap.size]? = some a ∧ ((((w.alloc a).alloc b).alloc c).drewN n).heap[w.heap.size + 1]? = some b ∧ ((((w.alloc a).alloc b).alloc c).drewN n).heap[w.heap.size + 1 + 1]? = some c := by
  simp only [World.drewN, heap_al, size_al]
  exact ⟨by rw [if_neg (by omega), if_neg (by omega)]; simp, by rw [if_neg (by omega)]; simp, by simp⟩

set_option maxHeartbeats 400000 in
theorem sJoin (xs ys : List Int) (ha : xs.length = 16) (hb : ys.length = 16) (w : World) :
    Calls Try.prog 22 #[.agg (mk xs), .agg (mk ys)] w fun e w' => e = .returned (.agg (mk (List.zipWith (bits .or .u16) xs ys))) ∧ Below w.heap.size w w' := by
  go_enter Try.func22, Try.ntmps22
  go_wp2
  go_loopw [5] (fun i wr => ∃ k : Nat, k ≤ 16 ∧ i = .int .i64 k ∧ ∃ n, wr = (((w.alloc (.cells (mk (zipTo (bits .or .u16) xs ys k)) 26)).alloc (.cells (mk ys) 26)).alloc (.cells (mk zs0) 26)).drewN n) (fun i _ => 16 - (intOf i).toNat)
  case atStart => exact ⟨0, by omega, rfl, 0, by rw [zipTo_zero]; rfl⟩
  case round =>
    obtain ⟨k, hk, rfl, n, rfl⟩ := hrel
    by_cases hlt : k < 16
    · have g1 := mk_get (zipTo (bits .or .u16) xs ys k) k (by rw [zipTo_len _ xs ys ha hb k hk]; omega)
      rw [zipTo_nth _ xs ys ha hb k hlt] at g1
      have g2 := mk_get ys k (by omega)
      have i1 : (0 : Int) ≤ (k : Int) := by omega
      have i2 : (k : Int) < 16 := by omega
      go_wp2
      go_region
      go_wp2
      go_roundw
      case rel => exact ⟨k + 1, by omega, by go_num, n + 1, by rw [← zipTo_set _ xs ys ha hb k hlt, ← mk_set]; exact set3 _ _ _ _ _ _ _ _⟩
      case measure => simp [intOf]; omega
    · obtain rfl : k = 16 := by omega
      obtain ⟨rs, hrs⟩ : ∃ rs, rs = zipTo (bits .or .u16) xs ys 16 := ⟨_, rfl⟩
      have s1 : rs.length = 16 := by rw [hrs]; exact zipTo_len _ xs ys ha hb 16 (by omega)
      have s2 : (mk rs).size = 16 := by rw [mk_size, s1]
      rw [← hrs]
      have H := Lib.hid hrs
      clear hrs
      have hi := infoSize26 rs s1
      go_wp2_with (first | (refine wpList_load_row rfl 26 (.tmp 2) rfl w.heap.size rfl 26 (mk rs) (0, 0) _ ?h1 Try.underlying26 rfl hi ?_) | (refine wpList_store_row rfl 26 (.tmp 4) (.tmp 18) rfl (w.heap.size + 1 + 1) (mk rs) rfl rfl 26 (mk zs0) ?h3 hi ?h5 (mk_one _) ?_))
      case h1 => exact (three w _ _ _ _).1
      case h3 => exact (three w _ _ _ _).2.2
      case h5 => rw [s2]; rfl
      refine bodyPost_ret (results_cell_row rfl _ _ (w.heap.size + 1 + 1) 26 (mk rs) (0, 0) _ rfl (setRow_heap _ _ (mk zs0) _ _ _ (three w _ _ _ _).2.2) Try.underlying26 rfl hi) rfl ⟨by rw [H.out, zipTo_all _ xs ys ha hb], ?_⟩
      exact below_setRow (below_drewN (below_al (below_al (below_al (Below.refl _ _) (Nat.le_refl _) _) (Nat.le_refl _) _) (Nat.le_refl _) _) _) (by omega) _

set_option maxHeartbeats 400000 in
theorem iJoinF (a b : Int) (w : World) : Calls Try.prog 70 #[.int .u16 a, .int .u16 b] w fun e w' => e = .returned (.int .u16 (bits .or .u16 a b)) ∧ w = w' := by
  go_enter Try.func70, Try.ntmps70
  go_wp2
  go_ret
  exact ⟨rfl, rfl⟩

set_option maxHeartbeats 400000 in
theorem iJoinR (xs ys : List Int) (ha : xs.length = 16) (hb : ys.length = 16) (w : World) :
    Calls Try.prog 69 #[.agg (mk xs), .agg (mk ys), .func (.func 70) #[] #[]] w fun e w' => e = .returned (.agg (mk (List.zipWith (bits .or .u16) xs ys))) ∧ Below w.heap.size w w' := by
  go_enter Try.func69, Try.ntmps69
  go_wp2
  go_loopw [8] (fun i wr => ∃ k : Nat, k ≤ 16 ∧ i = .int .i64 k ∧ ∃ n, wr = (((w.alloc (.cells (mk (zipTo (bits .or .u16) xs ys k)) 26)).alloc (.cells (mk ys) 26)).alloc (.cells (mk zs0) 26)).drewN n) (fun i _ => 16 - (intOf i).toNat)
  case atStart => exact ⟨0, by omega, rfl, 0, by rw [zipTo_zero]; rfl⟩
  case round =>
    obtain ⟨k, hk, rfl, n, rfl⟩ := hrel
    by_cases hlt : k < 16
    · have g1 := mk_get (zipTo (bits .or .u16) xs ys k) k (by rw [zipTo_len _ xs ys ha hb k hk]; omega)
      rw [zipTo_nth _ xs ys ha hb k hlt] at g1
      have g2 := mk_get ys k (by omega)
      have i1 : (0 : Int) ≤ (k : Int) := by omega
      have i2 : (k : Int) < 16 := by omega
      go_wp2
      go_region_with ((go_at_call 70; refine (iJoinF _ _ _).mono ?_; rintro e w1 ⟨rfl, rfl⟩))
      all_goals
        go_wp2
        go_roundw
        case rel => exact ⟨k + 1, by omega, by go_num, n + 1, by rw [← zipTo_set _ xs ys ha hb k hlt, ← mk_set]; exact set3 _ _ _ _ _ _ _ _⟩
        case measure => simp [intOf]; omega
    · obtain rfl : k = 16 := by omega
      obtain ⟨rs, hrs⟩ : ∃ rs, rs = zipTo (bits .or .u16) xs ys 16 := ⟨_, rfl⟩
      have s1 : rs.length = 16 := by rw [hrs]; exact zipTo_len _ xs ys ha hb 16 (by omega)
      have s2 : (mk rs).size = 16 := by rw [mk_size, s1]
      rw [← hrs]
      have H := Lib.hid hrs
      clear hrs
      have hi := infoSize26 rs s1
      go_wp2_with (first | (refine wpList_load_row rfl 26 (.tmp 3) rfl w.heap.size rfl 26 (mk rs) (0, 0) _ ?h1 Try.underlying26 rfl hi ?_) | (refine wpList_store_row rfl 26 (.tmp 6) (.tmp 22) rfl (w.heap.size + 1 + 1) (mk rs) rfl rfl 26 (mk zs0) ?h3 hi ?h5 (mk_one _) ?_))
      case h1 => exact (three w _ _ _ _).1
      case h3 => exact (three w _ _ _ _).2.2
      case h5 => rw [s2]; rfl
      refine bodyPost_ret (results_cell_row rfl _ _ (w.heap.size + 1 + 1) 26 (mk rs) (0, 0) _ rfl (setRow_heap _ _ (mk zs0) _ _ _ (three w _ _ _ _).2.2) Try.underlying26 rfl hi) rfl ⟨by rw [H.out, zipTo_all _ xs ys ha hb], ?_⟩
      exact below_setRow (below_drewN (below_al (below_al (below_al (Below.refl _ _) (Nat.le_refl _) _) (Nat.le_refl _) _) (Nat.le_refl _) _) _) (by omega) _

set_option maxHeartbeats 400000 in
theorem iJoin (xs ys : List Int) (ha : xs.length = 16) (hb : ys.length = 16) (w : World) :
    Calls Try.prog 23 #[.agg (mk xs), .agg (mk ys)] w fun e w' => e = .returned (.agg (mk (List.zipWith (bits .or .u16) xs ys))) ∧ Below w.heap.size w w' := by
  have S0 := St.three w (.cells (mk xs) 26) (.cells (mk ys) 26) (.cells (mk zs0) 26)
  have hi := infoSize26 xs ha
  have hj := infoSize26 ys hb
  obtain ⟨rs, hrs⟩ : ∃ rs, rs = List.zipWith (bits .or .u16) xs ys := ⟨_, rfl⟩
  have s1 : rs.length = 16 := by rw [hrs]; simp [ha, hb]
  have s2 : (mk zs0).size = (mk rs).size := by rw [mk_size, mk_size, s1]; rfl
  have hk := infoSize26 rs s1
  have HR := iJoinR xs ys ha hb
  rw [← hrs] at HR ⊢
  have H := Lib.hid HR
  clear hrs HR
  go_enter Try.func23, Try.ntmps23
  go_wp2_with (first
    | (refine wpList_load_row rfl 26 (.tmp 2) rfl w.heap.size rfl 26 (mk xs) (0, 0) _ (St.get (by assumption) 0 rfl) Try.underlying26 rfl hi ?_)
    | (refine wpList_load_row rfl 26 (.tmp 3) rfl (w.heap.size + 1) rfl 26 (mk ys) (0, 0) _ (St.get (by assumption) 1 rfl) Try.underlying26 rfl hj ?_)
    | (go_at_call 69; refine (H.out _).mono ?_; rintro e w1 ⟨rfl, hb1⟩; have hS := St.call hb1 (by assumption); clear hb1)
    | (refine wpList_store_row rfl 26 (.tmp 4) (.tmp 7) rfl (w.heap.size + 1 + 1) (mk rs) rfl rfl 26 (mk zs0) (St.get (by assumption) 2 rfl) hk s2 (mk_one _) ?_))
  refine bodyPost_ret (results_cell_row rfl _ _ (w.heap.size + 1 + 1) 26 (mk rs) (0, 0) _ rfl (setRow_heap _ _ (mk zs0) _ _ _ (St.get (by assumption) 2 rfl)) Try.underlying26 rfl hk) rfl ⟨rfl, ?_⟩
  exact below_setRow (St.below (by assumption)) (by omega) _

set_option maxHeartbeats 400000 in
theorem sMeet (xs ys : List Int) (ha : xs.length = 16) (hb : ys.length = 16) (w : World) :
    Calls Try.prog 25 #[.agg (mk xs), .agg (mk ys)] w fun e w' => e = .returned (.agg (mk (List.zipWith (bits .and .u16) xs ys))) ∧ Below w.heap.size w w' := by
  go_enter Try.func25, Try.ntmps25
  go_wp2
  go_loopw [5] (fun i wr => ∃ k : Nat, k ≤ 16 ∧ i = .int .i64 k ∧ ∃ n, wr = (((w.alloc (.cells (mk (zipTo (bits .and .u16) xs ys k)) 26)).alloc (.cells (mk ys) 26)).alloc (.cells (mk zs0) 26)).drewN n) (fun i _ => 16 - (intOf i).toNat)
  case atStart => exact ⟨0, by omega, rfl, 0, by rw [zipTo_zero]; rfl⟩
  case round =>
    obtain ⟨k, hk, rfl, n, rfl⟩ := hrel
    by_cases hlt : k < 16
    · have g1 := mk_get (zipTo (bits .and .u16) xs ys k) k (by rw [zipTo_len _ xs ys ha hb k hk]; omega)
      rw [zipTo_nth _ xs ys ha hb k hlt] at g1
      have g2 := mk_get ys k (by omega)
      have i1 : (0 : Int) ≤ (k : Int) := by omega
      have i2 : (k : Int) < 16 := by omega
      go_wp2
      go_region
      go_wp2
      go_roundw
      case rel => exact ⟨k + 1, by omega, by go_num, n + 1, by rw [← zipTo_set _ xs ys ha hb k hlt, ← mk_set]; exact set3 _ _ _ _ _ _ _ _⟩
      case measure => simp [intOf]; omega
    · obtain rfl : k = 16 := by omega
      obtain ⟨rs, hrs⟩ : ∃ rs, rs = zipTo (bits .and .u16) xs ys 16 := ⟨_, rfl⟩
      have s1 : rs.length = 16 := by rw [hrs]; exact zipTo_len _ xs ys ha hb 16 (by omega)
      have s2 : (mk rs).size = 16 := by rw [mk_size, s1]
      rw [← hrs]
      have H := Lib.hid hrs
      clear hrs
      have hi := infoSize26 rs s1
      go_wp2_with (first | (refine wpList_load_row rfl 26 (.tmp 2) rfl w.heap.size rfl 26 (mk rs) (0, 0) _ ?h1 Try.underlying26 rfl hi ?_) | (refine wpList_store_row rfl 26 (.tmp 4) (.tmp 18) rfl (w.heap.size + 1 + 1) (mk rs) rfl rfl 26 (mk zs0) ?h3 hi ?h5 (mk_one _) ?_))
      case h1 => exact (three w _ _ _ _).1
      case h3 => exact (three w _ _ _ _).2.2
      case h5 => rw [s2]; rfl
      refine bodyPost_ret (results_cell_row rfl _ _ (w.heap.size + 1 + 1) 26 (mk rs) (0, 0) _ rfl (setRow_heap _ _ (mk zs0) _ _ _ (three w _ _ _ _).2.2) Try.underlying26 rfl hi) rfl ⟨by rw [H.out, zipTo_all _ xs ys ha hb], ?_⟩
      exact below_setRow (below_drewN (below_al (below_al (below_al (Below.refl _ _) (Nat.le_refl _) _) (Nat.le_refl _) _) (Nat.le_refl _) _) _) (by omega) _

set_option maxHeartbeats 400000 in
theorem iMeetF (a b : Int) (w : World) : Calls Try.prog 71 #[.int .u16 a, .int .u16 b] w fun e w' => e = .returned (.int .u16 (bits .and .u16 a b)) ∧ w = w' := by
  go_enter Try.func71, Try.ntmps71
  go_wp2
  go_ret
  exact ⟨rfl, rfl⟩

set_option maxHeartbeats 400000 in
theorem iMeetR (xs ys : List Int) (ha : xs.length = 16) (hb : ys.length = 16) (w : World) :
    Calls Try.prog 69 #[.agg (mk xs), .agg (mk ys), .func (.func 71) #[] #[]] w fun e w' => e = .returned (.agg (mk (List.zipWith (bits .and .u16) xs ys))) ∧ Below w.heap.size w w' := by
  go_enter Try.func69, Try.ntmps69
  go_wp2
  go_loopw [8] (fun i wr => ∃ k : Nat, k ≤ 16 ∧ i = .int .i64 k ∧ ∃ n, wr = (((w.alloc (.cells (mk (zipTo (bits .and .u16) xs ys k)) 26)).alloc (.cells (mk ys) 26)).alloc (.cells (mk zs0) 26)).drewN n) (fun i _ => 16 - (intOf i).toNat)
  case atStart => exact ⟨0, by omega, rfl, 0, by rw [zipTo_zero]; rfl⟩
  case round =>
    obtain ⟨k, hk, rfl, n, rfl⟩ := hrel
    by_cases hlt : k < 16
    · have g1 := mk_get (zipTo (bits .and .u16) xs ys k) k (by rw [zipTo_len _ xs ys ha hb k hk]; omega)
      rw [zipTo_nth _ xs ys ha hb k hlt] at g1
      have g2 := mk_get ys k (by omega)
      have i1 : (0 : Int) ≤ (k : Int) := by omega
      have i2 : (k : Int) < 16 := by omega
      go_wp2
      go_region_with ((go_at_call 71; refine (iMeetF _ _ _).mono ?_; rintro e w1 ⟨rfl, rfl⟩))
      all_goals
        go_wp2
        go_roundw
        case rel => exact ⟨k + 1, by omega, by go_num, n + 1, by rw [← zipTo_set _ xs ys ha hb k hlt, ← mk_set]; exact set3 _ _ _ _ _ _ _ _⟩
        case measure => simp [intOf]; omega
    · obtain rfl : k = 16 := by omega
      obtain ⟨rs, hrs⟩ : ∃ rs, rs = zipTo (bits .and .u16) xs ys 16 := ⟨_, rfl⟩
      have s1 : rs.length = 16 := by rw [hrs]; exact zipTo_len _ xs ys ha hb 16 (by omega)
      have s2 : (mk rs).size = 16 := by rw [mk_size, s1]
      rw [← hrs]
      have H := Lib.hid hrs
      clear hrs
      have hi := infoSize26 rs s1
      go_wp2_with (first | (refine wpList_load_row rfl 26 (.tmp 3) rfl w.heap.size rfl 26 (mk rs) (0, 0) _ ?h1 Try.underlying26 rfl hi ?_) | (refine wpList_store_row rfl 26 (.tmp 6) (.tmp 22) rfl (w.heap.size + 1 + 1) (mk rs) rfl rfl 26 (mk zs0) ?h3 hi ?h5 (mk_one _) ?_))
      case h1 => exact (three w _ _ _ _).1
      case h3 => exact (three w _ _ _ _).2.2
      case h5 => rw [s2]; rfl
      refine bodyPost_ret (results_cell_row rfl _ _ (w.heap.size + 1 + 1) 26 (mk rs) (0, 0) _ rfl (setRow_heap _ _ (mk zs0) _ _ _ (three w _ _ _ _).2.2) Try.underlying26 rfl hi) rfl ⟨by rw [H.out, zipTo_all _ xs ys ha hb], ?_⟩
      exact below_setRow (below_drewN (below_al (below_al (below_al (Below.refl _ _) (Nat.le_refl _) _) (Nat.le_refl _) _) (Nat.le_refl _) _) _) (by omega) _

set_option maxHeartbeats 400000 in
theorem iMeet (xs ys : List Int) (ha : xs.length = 16) (hb : ys.length = 16) (w : World) :
    Calls Try.prog 26 #[.agg (mk xs), .agg (mk ys)] w fun e w' => e = .returned (.agg (mk (List.zipWith (bits .and .u16) xs ys))) ∧ Below w.heap.size w w' := by
  have S0 := St.three w (.cells (mk xs) 26) (.cells (mk ys) 26) (.cells (mk zs0) 26)
  have hi := infoSize26 xs ha
  have hj := infoSize26 ys hb
  obtain ⟨rs, hrs⟩ : ∃ rs, rs = List.zipWith (bits .and .u16) xs ys := ⟨_, rfl⟩
  have s1 : rs.length = 16 := by rw [hrs]; simp [ha, hb]
  have s2 : (mk zs0).size = (mk rs).size := by rw [mk_size, mk_size, s1]; rfl
  have hk := infoSize26 rs s1
  have HR := iMeetR xs ys ha hb
  rw [← hrs] at HR ⊢
  have H := Lib.hid HR
  clear hrs HR
  go_enter Try.func26, Try.ntmps26
  go_wp2_with (first
    | (refine wpList_load_row rfl 26 (.tmp 2) rfl w.heap.size rfl 26 (mk xs) (0, 0) _ (St.get (by assumption) 0 rfl) Try.underlying26 rfl hi ?_)
    | (refine wpList_load_row rfl 26 (.tmp 3) rfl (w.heap.size + 1) rfl 26 (mk ys) (0, 0) _ (St.get (by assumption) 1 rfl) Try.underlying26 rfl hj ?_)
    | (go_at_call 69; refine (H.out _).mono ?_; rintro e w1 ⟨rfl, hb1⟩; have hS := St.call hb1 (by assumption); clear hb1)
    | (refine wpList_store_row rfl 26 (.tmp 4) (.tmp 7) rfl (w.heap.size + 1 + 1) (mk rs) rfl rfl 26 (mk zs0) (St.get (by assumption) 2 rfl) hk s2 (mk_one _) ?_))
  refine bodyPost_ret (results_cell_row rfl _ _ (w.heap.size + 1 + 1) 26 (mk rs) (0, 0) _ rfl (setRow_heap _ _ (mk zs0) _ _ _ (St.get (by assumption) 2 rfl)) Try.underlying26 rfl hk) rfl ⟨rfl, ?_⟩
  exact below_setRow (St.below (by assumption)) (by omega) _

set_option maxHeartbeats 400000 in
theorem sMinus (xs ys : List Int) (ha : xs.length = 16) (hb : ys.length = 16) (w : World) :
    Calls Try.prog 27 #[.agg (mk xs), .agg (mk ys)] w fun e w' => e = .returned (.agg (mk (List.zipWith (bits .andNot .u16) xs ys))) ∧ Below w.heap.size w w' := by
  go_enter Try.func27, Try.ntmps27
  go_wp2
  go_loopw [5] (fun i wr => ∃ k : Nat, k ≤ 16 ∧ i = .int .i64 k ∧ ∃ n, wr = (((w.alloc (.cells (mk (zipTo (bits .andNot .u16) xs ys k)) 26)).alloc (.cells (mk ys) 26)).alloc (.cells (mk zs0) 26)).drewN n) (fun i _ => 16 - (intOf i).toNat)
  case atStart => exact ⟨0, by omega, rfl, 0, by rw [zipTo_zero]; rfl⟩
  case round =>
    obtain ⟨k, hk, rfl, n, rfl⟩ := hrel
    by_cases hlt : k < 16
    · have g1 := mk_get (zipTo (bits .andNot .u16) xs ys k) k (by rw [zipTo_len _ xs ys ha hb k hk]; omega)
      rw [zipTo_nth _ xs ys ha hb k hlt] at g1
      have g2 := mk_get ys k (by omega)
      have i1 : (0 : Int) ≤ (k : Int) := by omega
      have i2 : (k : Int) < 16 := by omega
      go_wp2
      go_region
      go_wp2
      go_roundw
      case rel => exact ⟨k + 1, by omega, by go_num, n + 1, by rw [← zipTo_set _ xs ys ha hb k hlt, ← mk_set]; exact set3 _ _ _ _ _ _ _ _⟩
      case measure => simp [intOf]; omega
    · obtain rfl : k = 16 := by omega
      obtain ⟨rs, hrs⟩ : ∃ rs, rs = zipTo (bits .andNot .u16) xs ys 16 := ⟨_, rfl⟩
      have s1 : rs.length = 16 := by rw [hrs]; exact zipTo_len _ xs ys ha hb 16 (by omega)
      have s2 : (mk rs).size = 16 := by rw [mk_size, s1]
      rw [← hrs]
      have H := Lib.hid hrs
      clear hrs
      have hi := infoSize26 rs s1
      go_wp2_with (first | (refine wpList_load_row rfl 26 (.tmp 2) rfl w.heap.size rfl 26 (mk rs) (0, 0) _ ?h1 Try.underlying26 rfl hi ?_) | (refine wpList_store_row rfl 26 (.tmp 4) (.tmp 18) rfl (w.heap.size + 1 + 1) (mk rs) rfl rfl 26 (mk zs0) ?h3 hi ?h5 (mk_one _) ?_))
      case h1 => exact (three w _ _ _ _).1
      case h3 => exact (three w _ _ _ _).2.2
      case h5 => rw [s2]; rfl
      refine bodyPost_ret (results_cell_row rfl _ _ (w.heap.size + 1 + 1) 26 (mk rs) (0, 0) _ rfl (setRow_heap _ _ (mk zs0) _ _ _ (three w _ _ _ _).2.2) Try.underlying26 rfl hi) rfl ⟨by rw [H.out, zipTo_all _ xs ys ha hb], ?_⟩
      exact below_setRow (below_drewN (below_al (below_al (below_al (Below.refl _ _) (Nat.le_refl _) _) (Nat.le_refl _) _) (Nat.le_refl _) _) _) (by omega) _

set_option maxHeartbeats 400000 in
theorem iMinusF (a b : Int) (w : World) : Calls Try.prog 72 #[.int .u16 a, .int .u16 b] w fun e w' => e = .returned (.int .u16 (bits .andNot .u16 a b)) ∧ w = w' := by
  go_enter Try.func72, Try.ntmps72
  go_wp2
  go_ret
  exact ⟨rfl, rfl⟩

set_option maxHeartbeats 400000 in
theorem iMinusR (xs ys : List Int) (ha : xs.length = 16) (hb : ys.length = 16) (w : World) :
    Calls Try.prog 69 #[.agg (mk xs), .agg (mk ys), .func (.func 72) #[] #[]] w fun e w' => e = .returned (.agg (mk (List.zipWith (bits .andNot .u16) xs ys))) ∧ Below w.heap.size w w' := by
  go_enter Try.func69, Try.ntmps69
  go_wp2
  go_loopw [8] (fun i wr => ∃ k : Nat, k ≤ 16 ∧ i = .int .i64 k ∧ ∃ n, wr = (((w.alloc (.cells (mk (zipTo (bits .andNot .u16) xs ys k)) 26)).alloc (.cells (mk ys) 26)).alloc (.cells (mk zs0) 26)).drewN n) (fun i _ => 16 - (intOf i).toNat)
  case atStart => exact ⟨0, by omega, rfl, 0, by rw [zipTo_zero]; rfl⟩
  case round =>
    obtain ⟨k, hk, rfl, n, rfl⟩ := hrel
    by_cases hlt : k < 16
    · have g1 := mk_get (zipTo (bits .andNot .u16) xs ys k) k (by rw [zipTo_len _ xs ys ha hb k hk]; omega)
      rw [zipTo_nth _ xs ys ha hb k hlt] at g1
      have g2 := mk_get ys k (by omega)
      have i1 : (0 : Int) ≤ (k : Int) := by omega
      have i2 : (k : Int) < 16 := by omega
      go_wp2
      go_region_with ((go_at_call 72; refine (iMinusF _ _ _).mono ?_; rintro e w1 ⟨rfl, rfl⟩))
      all_goals
        go_wp2
        go_roundw
        case rel => exact ⟨k + 1, by omega, by go_num, n + 1, by rw [← zipTo_set _ xs ys ha hb k hlt, ← mk_set]; exact set3 _ _ _ _ _ _ _ _⟩
        case measure => simp [intOf]; omega
    · obtain rfl : k = 16 := by omega
      obtain ⟨rs, hrs⟩ : ∃ rs, rs = zipTo (bits .andNot .u16) xs ys 16 := ⟨_, rfl⟩
      have s1 : rs.length = 16 := by rw [hrs]; exact zipTo_len _ xs ys ha hb 16 (by omega)
      have s2 : (mk rs).size = 16 := by rw [mk_size, s1]
      rw [← hrs]
      have H := Lib.hid hrs
      clear hrs
      have hi := infoSize26 rs s1
      go_wp2_with (first | (refine wpList_load_row rfl 26 (.tmp 3) rfl w.heap.size rfl 26 (mk rs) (0, 0) _ ?h1 Try.underlying26 rfl hi ?_) | (refine wpList_store_row rfl 26 (.tmp 6) (.tmp 22) rfl (w.heap.size + 1 + 1) (mk rs) rfl rfl 26 (mk zs0) ?h3 hi ?h5 (mk_one _) ?_))
      case h1 => exact (three w _ _ _ _).1
      case h3 => exact (three w _ _ _ _).2.2
      case h5 => rw [s2]; rfl
      refine bodyPost_ret (results_cell_row rfl _ _ (w.heap.size + 1 + 1) 26 (mk rs) (0, 0) _ rfl (setRow_heap _ _ (mk zs0) _ _ _ (three w _ _ _ _).2.2) Try.underlying26 rfl hi) rfl ⟨by rw [H.out, zipTo_all _ xs ys ha hb], ?_⟩
      exact below_setRow (below_drewN (below_al (below_al (below_al (Below.refl _ _) (Nat.le_refl _) _) (Nat.le_refl _) _) (Nat.le_refl _) _) _) (by omega) _

set_option maxHeartbeats 400000 in
theorem iMinus (xs ys : List Int) (ha : xs.length = 16) (hb : ys.length = 16) (w : World) :
    Calls Try.prog 28 #[.agg (mk xs), .agg (mk ys)] w fun e w' => e = .returned (.agg (mk (List.zipWith (bits .andNot .u16) xs ys))) ∧ Below w.heap.size w w' := by
  have S0 := St.three w (.cells (mk xs) 26) (.cells (mk ys) 26) (.cells (mk zs0) 26)
  have hi := infoSize26 xs ha
  have hj := infoSize26 ys hb
  obtain ⟨rs, hrs⟩ : ∃ rs, rs = List.zipWith (bits .andNot .u16) xs ys := ⟨_, rfl⟩
  have s1 : rs.length = 16 := by rw [hrs]; simp [ha, hb]
  have s2 : (mk zs0).size = (mk rs).size := by rw [mk_size, mk_size, s1]; rfl
  have hk := infoSize26 rs s1
  have HR := iMinusR xs ys ha hb
  rw [← hrs] at HR ⊢
  have H := Lib.hid HR
  clear hrs HR
  go_enter Try.func28, Try.ntmps28
  go_wp2_with (first
    | (refine wpList_load_row rfl 26 (.tmp 2) rfl w.heap.size rfl 26 (mk xs) (0, 0) _ (St.get (by assumption) 0 rfl) Try.underlying26 rfl hi ?_)
    | (refine wpList_load_row rfl 26 (.tmp 3) rfl (w.heap.size + 1) rfl 26 (mk ys) (0, 0) _ (St.get (by assumption) 1 rfl) Try.underlying26 rfl hj ?_)
    | (go_at_call 69; refine (H.out _).mono ?_; rintro e w1 ⟨rfl, hb1⟩; have hS := St.call hb1 (by assumption); clear hb1)
    | (refine wpList_store_row rfl 26 (.tmp 4) (.tmp 7) rfl (w.heap.size + 1 + 1) (mk rs) rfl rfl 26 (mk zs0) (St.get (by assumption) 2 rfl) hk s2 (mk_one _) ?_))
  refine bodyPost_ret (results_cell_row rfl _ _ (w.heap.size + 1 + 1) 26 (mk rs) (0, 0) _ rfl (setRow_heap _ _ (mk zs0) _ _ _ (St.get (by assumption) 2 rfl)) Try.underlying26 rfl hk) rfl ⟨rfl, ?_⟩
  exact below_setRow (St.below (by assumption)) (by omega) _

end Go.Proofs.Ytbkbjiifklhgiaa
