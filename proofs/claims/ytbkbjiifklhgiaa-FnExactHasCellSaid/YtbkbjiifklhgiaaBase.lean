/- The base of the proofs over masks: rows of sixteen numbers as values, and the walks of the copies and comparisons of masks. Conditions: none. -/
import Derived.Test.YtbkbjiifklhgiaaRows
import Derived.WalkKit
import Derived.WalkSpells
import Derived.WalkLawsBesides
import Derived.ProofKit
import Derived.OpenShut
import Derived.Lib.Hide
import Derived.Deep.WholeRow
import Derived.Laws.CopyOwn
import Derived.Deep.QuietTactic
import Derived.BigQuiet
namespace Go.Proofs.Ytbkbjiifklhgiaa
open Go.RowKit

/-- The number at a place; a name that the walk does not open. -/
def nth (zs : List Int) (k : Nat) : Int := zs.getD k 0
/-- Numbers as the cells of a row of uint16. -/
def mk (zs : List Int) : Array Value := (zs.map (Value.int .u16)).toArray
theorem mk_size (zs : List Int) : (mk zs).size = zs.length := by simp [mk]
theorem mk_get (zs : List Int) (k : Nat) (h : k < zs.length) : (mk zs)[k]? = some (.int .u16 (nth zs k)) := by
  simp [mk, nth, List.getElem?_eq_getElem h]
theorem mk_set (zs : List Int) (k : Nat) (z : Int) : (mk zs).setIfInBounds k (.int .u16 z) = mk (zs.set k z) := by
  simp [mk, List.map_set]
theorem mk_one (zs : List Int) : (mk zs).all (·.oneCell') = true := by
  simp [mk, Value.oneCell']
theorem info23 : (Try.prog.info? 23).map (·.size) = some 16 := by kernel_rfl
theorem info26 : (Try.prog.info? 26).map (·.size) = some 16 := by kernel_rfl

def zs0 : List Int := List.replicate 16 0
/-- After k copies: the first k of zs, and zeros. -/
def upto (zs : List Int) (k : Nat) : List Int := zs.take k ++ List.replicate (16 - k) 0
theorem upto_len (zs : List Int) (hz : zs.length = 16) (k : Nat) (hk : k ≤ 16) : (upto zs k).length = 16 := by simp [upto, hz]; omega
theorem upto_set (zs : List Int) (hz : zs.length = 16) (k : Nat) (hk : k < 16) : (upto zs k).set k (nth zs k) = upto zs (k + 1) := by
  have h1 : List.replicate (16 - k) (0 : Int) = 0 :: List.replicate (16 - (k + 1)) 0 := by
    rw [show 16 - k = (16 - (k + 1)) + 1 by omega, List.replicate_succ]
  have h2 : zs.take (k + 1) = zs.take k ++ [nth zs k] := by
    rw [List.take_succ_eq_append_getElem (by omega)]; simp [nth, List.getElem?_eq_getElem (show k < zs.length by omega)]
  unfold upto
  rw [h1, h2, List.set_append_right _ _ (by simp; omega)]
  simp [show k - min k zs.length = 0 by omega]
theorem upto_all (zs : List Int) (hz : zs.length = 16) : upto zs 16 = zs := by simp [upto, ← hz]

theorem heap_al (w : World) (o : Obj) (i : Nat) : (w.alloc o).heap[i]? = if i = w.heap.size then some o else w.heap[i]? := by
  show (w.heap.push o)[i]? = _
  rw [Array.getElem?_push]

theorem size_al (w : World) (o : Obj) : (w.alloc o).heap.size = w.heap.size + 1 := by simp
theorem below_al {B : Nat} {a w : World} (h : Below B a w) (hB : B ≤ a.heap.size) (o : Obj) : Below B a (w.alloc o) := h.alloc (Nat.le_trans hB h.size) o

/-- The world w' has, above all that w had, the blocks L; what w had is as it was. -/
def St (w : World) (L : List Obj) (w' : World) : Prop := Below w.heap.size w w' ∧ ∀ i o, L[i]? = some o → w'.heap[w.heap.size + i]? = some o
theorem St.zero (w : World) : St w [] w := ⟨Below.refl _ _, fun i o h => by simp at h⟩
theorem St.one (w : World) (a : Obj) : St w [a] (w.alloc a) := by
  refine ⟨below_al (Below.refl _ _) (Nat.le_refl _) _, fun i o h => ?_⟩
  match i, h with
  | 0, h => simp at h; subst h; simp only [heap_al]; simp
  | i + 1, h => simp at h
theorem St.two (w : World) (a b : Obj) : St w [a, b] ((w.alloc a).alloc b) := by
  refine ⟨below_al (below_al (Below.refl _ _) (Nat.le_refl _) _) (Nat.le_refl _) _, fun i o h => ?_⟩
  match i, h with
  | 0, h => simp at h; subst h; simp only [heap_al, size_al]; simp
  | 1, h => simp at h; subst h; simp only [heap_al, size_al]; simp
  | i + 2, h => simp at h
theorem St.call {w w1 w2 : World} {L : List Obj} (hb : Below w1.heap.size w1 w2) (h : St w L w1) : St w L w2 := by
  refine ⟨h.1.trans (hb.mono h.1.size), fun i o hi => ?_⟩
  have := h.2 i o hi
  rw [hb.block _ (Array.getElem?_eq_some_iff.1 this).1]
  exact this
theorem St.get {w w' : World} {L : List Obj} (h : St w L w') (i : Nat) {o : Obj} (hi : L[i]? = some o) : w'.heap[w.heap.size + i]? = some o := h.2 i o hi
theorem St.below {w w' : World} {L : List Obj} (h : St w L w') : Below w.heap.size w w' := h.1
theorem infoSize23 (zs : List Int) (hz : zs.length = 16) : (Try.prog.info? 23).map (·.size) = some (mk zs).size := by rw [mk_size, hz]; exact info23
theorem infoSize26 (zs : List Int) (hz : zs.length = 16) : (Try.prog.info? 26).map (·.size) = some (mk zs).size := by rw [mk_size, hz]; exact info26

set_option maxHeartbeats 400000 in
theorem toMask_any (zs : List Int) (hz : zs.length = 16) (w : World) :
    Calls Try.prog 20 #[.agg (mk zs)] w fun e w' => e = .returned (.agg (mk zs)) ∧ Below w.heap.size w w' := by
  go_enter Try.func20, Try.ntmps20
  go_wp2
  go_loopw [4] (fun i wr => ∃ k : Nat, k ≤ 16 ∧ i = .int .i64 k ∧ wr = ((w.alloc (.cells (mk zs) 23)).alloc (.cells (mk zs0) 26)).alloc (.cells (mk (upto zs k)) 26)) (fun i _ => 16 - (intOf i).toNat)
  case atStart => exact ⟨0, by omega, rfl, rfl⟩
  case round =>
    obtain ⟨k, hk, rfl, rfl⟩ := hrel
    by_cases hlt : k < 16
    · have g1 := mk_get zs k (by omega)
      have g2 := mk_get (upto zs k) k (by rw [upto_len zs hz k hk]; omega)
      go_wp2
      go_roundw
      case rel => exact ⟨k + 1, by omega, by go_num, by rw [← upto_set zs hz k hlt, ← mk_set]⟩
      case measure => simp [intOf]; omega
    · obtain rfl : k = 16 := by omega
      have s1 : (mk (upto zs 16)).size = 16 := by rw [mk_size, upto_len zs hz 16 hk]
      go_wp2_with (first | (refine wpList_load_row rfl 26 (.tmp 3) rfl (w.heap.size + 1 + 1) rfl 26 (mk (upto zs 16)) (0, 0) _ ?h1 Try.underlying26 rfl ?h2 ?_) | (refine wpList_store_row rfl 26 (.tmp 2) (.tmp 14) rfl (w.heap.size + 1) (mk (upto zs 16)) rfl rfl 26 (mk zs0) ?h3 ?h4 ?h5 ?h6 ?_))
      case h1 => simp only [heap_al, size_al]; simp
      case h2 => rw [s1]; exact info26
      case h3 => simp only [heap_al, size_al]; simp
      case h4 => rw [s1]; exact info26
      case h5 => rw [s1]; rfl
      case h6 => exact mk_one _
      rw [upto_all zs hz] at *
      refine bodyPost_ret (results_cell_row rfl _ _ (w.heap.size + 1) 26 (mk zs) (0, 0) _ rfl (setRow_heap _ _ (mk zs0) _ _ _ (by simp only [heap_al, size_al]; simp)) Try.underlying26 rfl (by rw [s1]; exact info26)) rfl ⟨rfl, ?_⟩
      exact below_setRow (below_al (below_al (below_al (Below.refl _ _) (Nat.le_refl _) _) (Nat.le_refl _) _) (Nat.le_refl _) _) (by omega) _

set_option maxHeartbeats 400000 in
theorem eqMask_any (zs : List Int) (hz : zs.length = 16) (w : World) :
    Calls Try.prog 24 #[.agg (mk zs), .agg (mk zs)] w fun e w' => e = .returned (.bool true) ∧ Below w.heap.size w w' := by
  go_enter Try.func24, Try.ntmps24
  go_wp2
  go_loopw [5] (fun i wr => ∃ k : Nat, k ≤ 16 ∧ i = .int .i64 k ∧ ∃ n, wr = ((w.alloc (.cells (mk zs) 26)).alloc (.cells (mk zs) 26)).drewN n) (fun i _ => 16 - (intOf i).toNat)
  case atStart => exact ⟨0, by omega, rfl, 0, rfl⟩
  case round =>
    obtain ⟨k, hk, rfl, n, rfl⟩ := hrel
    by_cases hlt : k < 16
    · have g1 := mk_get zs k (by omega)
      have i1 : (0 : Int) ≤ (k : Int) := by omega
      have i2 : (k : Int) < 16 := by omega
      go_wp2
      go_quiet (fail)
      go_wp2
      go_roundw
      case rel => exact ⟨k + 1, by omega, by go_num, n + nq, rfl⟩
      case measure => simp [intOf]; omega
    · obtain rfl : k = 16 := by omega
      go_wp2
      go_ret
      refine ⟨rfl, ?_⟩
      exact below_drewN (below_al (below_al (Below.refl _ _) (Nat.le_refl _) _) (Nat.le_refl _) _) _

end Go.Proofs.Ytbkbjiifklhgiaa
