/- The base of the proofs over masks: rows of sixteen numbers as values, and the walks of the copies and comparisons of masks. Conditions: none. -/
import Derived.Test.YtbkbjiifklhgiaaRows
import Derived.WalkKit
import Derived.WalkSpells
import Derived.WalkLawsBesides
import Derived.ProofKit
import Derived.OpenShut
import Derived.Lib.Hide
import Derived.Deep.WholeRow
import Derived.Laws.CopyOwn
import Derived.Laws.ResultCell
import Derived.Deep.QuietTactic
import Derived.BigQuiet
namespace Go.Proofs.Ytbkbjiifklhgiaa
open Go.RowKit

/-- The number at a place; a name that the walk does not open. -/
def nth (zs : List Int) (k : Nat) : Int := zs.getD k 0
/-- Numbers as the cells of a row of uint16. -/
def mk (zs : List Int) : Array Value := (zs.map (Value.int .u16)).toArray
theorem mk_size (zs : List Int) : (mk zs).size = zs.length := by simp [mk]
theorem mk_get (zs : List Int) (k : Nat) (h : k < zs.length) : (mk zs)[k]? = some (.int .u16 (nth zs k)) := by
  simp [mk, nth, List.getElem?_eq_getElem h]
theorem mk_set (zs : List Int) (k : Nat) (z : Int) : (mk zs).setIfInBounds k (.int .u16 z) = mk (zs.set k z) := by
  simp [mk, List.map_set]
theorem mk_got (zs : List Int) (k : Nat) (z : Int) (h : k < zs.length) : (mk (zs.set k z))[k]? = some (.int .u16 z) := by
  simp [mk, h]
theorem mk_one (zs : List Int) : (mk zs).all (·.oneCell') = true := by
  simp [mk, Value.oneCell']
theorem info23 : (Try.prog.info? 23).map (·.size) = some 16 := by kernel_rfl
theorem info26 : (Try.prog.info? 26).map (·.size) = some 16 := by kernel_rfl

def zs0 : List Int := List.replicate 16 0
/-- After k copies: the first k of zs, and zeros. -/
def upto (zs : List Int) (k : Nat) : List Int := zs.take k ++ List.replicate (16 - k) 0
theorem upto_len (zs : List Int) (hz : zs.length = 16) (k : Nat) (hk : k ≤ 16) : (upto zs k).length = 16 := by simp [upto, hz]; omega
theorem upto_set (zs : List Int) (hz : zs.length = 16) (k : Nat) (hk : k < 16) : (upto zs k).set k (nth zs k) = upto zs (k + 1) := by
  have h1 : List.replicate (16 - k) (0 : Int) = 0 :: List.replicate (16 - (k + 1)) 0 := by
    rw [show 16 - k = (16 - (k + 1)) + 1 by omega, List.replicate_succ]
  have h2 : zs.take (k + 1) = zs.take k ++ [nth zs k] := by
    rw [List.take_succ_eq_append_getElem (by omega)]; simp [nth, List.getElem?_eq_getElem (show k < zs.length by omega)]
  unfold upto
  rw [h1, h2, List.set_append_right _ _ (by simp; omega)]
  simp [show k - min k zs.length = 0 by omega]
theorem upto_all (zs : List Int) (hz : zs.length = 16) : upto zs 16 = zs := by simp [upto, ← hz]

theorem lit0 : (#[Value.int IntKind.u16 0, Value.int IntKind.u16 0, Value.int IntKind.u16 0, Value.int IntKind.u16 0, Value.int IntKind.u16 0, Value.int IntKind.u16 0, Value.int IntKind.u16 0, Value.int IntKind.u16 0, Value.int IntKind.u16 0, Value.int IntKind.u16 0, Value.int IntKind.u16 0, Value.int IntKind.u16 0, Value.int IntKind.u16 0, Value.int IntKind.u16 0, Value.int IntKind.u16 0, Value.int IntKind.u16 0] : Array Value) = mk zs0 := rfl
theorem heap_al (w : World) (o : Obj) (i : Nat) : (w.alloc o).heap[i]? = if i = w.heap.size then some o else w.heap[i]? := by
  show (w.heap.push o)[i]? = _
  rw [Array.getElem?_push]

theorem size_al (w : World) (o : Obj) : (w.alloc o).heap.size = w.heap.size + 1 := by simp
theorem below_al {B : Nat} {a w : World} (h : Below B a w) (hB : B ≤ a.heap.size) (o : Obj) : Below B a (w.alloc o) := h.alloc (Nat.le_trans hB h.size) o

theorem two_first (w : World) (a b : Obj) : ((w.alloc a).alloc b).heap[w.heap.size]? = some a := by
  simp only [heap_al, size_al]; rw [if_neg (by omega)]; simp
theorem two_second (w : World) (a b : Obj) : ((w.alloc a).alloc b).heap[w.heap.size + 1]? = some b := by
  simp only [heap_al, size_al]; simp
theorem one_first (w : World) (a : Obj) : (w.alloc a).heap[w.heap.size]? = some a := by
  simp only [heap_al]; simp
theorem mk_same (xs : List Int) (hx : xs.length = 16) : (mk zs0).size = (mk xs).size := by rw [mk_size, mk_size, hx]; rfl
/-- The world w' holds the blocks M, all of them new; what w had is as it was. -/
def St (w : World) (M : List (Nat × Obj)) (w' : World) : Prop := Below w.heap.size w w' ∧ ∀ (i : Nat) (g : Nat) (o : Obj), M[i]? = some (g, o) → w.heap.size ≤ g ∧ w'.heap[g]? = some o
theorem St.zero (w : World) : St w [] w := ⟨Below.refl _ _, fun i g o h => by simp at h⟩
theorem St.call {w w1 w2 : World} {M : List (Nat × Obj)} (hb : Below w1.heap.size w1 w2) (h : St w M w1) : St w M w2 := by
  refine ⟨h.1.trans (hb.mono h.1.size), fun i g o hi => ?_⟩
  obtain ⟨h1, h2⟩ := h.2 i g o hi
  refine ⟨h1, ?_⟩
  rw [hb.block _ (Array.getElem?_eq_some_iff.1 h2).1]
  exact h2
theorem St.get {w w' : World} {M : List (Nat × Obj)} (h : St w M w') (i : Nat) {g : Nat} {o : Obj} (hi : M[i]? = some (g, o)) : w'.heap[g]? = some o := (h.2 i g o hi).2
theorem St.ge {w w' : World} {M : List (Nat × Obj)} (h : St w M w') (i : Nat) {g : Nat} {o : Obj} (hi : M[i]? = some (g, o)) : w.heap.size ≤ g := (h.2 i g o hi).1
theorem St.below {w w' : World} {M : List (Nat × Obj)} (h : St w M w') : Below w.heap.size w w' := h.1
theorem St.alloc {w w1 : World} {M : List (Nat × Obj)} (h : St w M w1) (o : Obj) : St w (M ++ [(w1.heap.size, o)]) (w1.alloc o) := by
  refine ⟨below_al h.1 (Nat.le_refl _) o, fun i g x hi => ?_⟩
  rw [List.getElem?_append] at hi
  split at hi
  · obtain ⟨h1, h2⟩ := h.2 i g x hi
    have := (Array.getElem?_eq_some_iff.1 h2).1
    refine ⟨h1, ?_⟩
    rw [heap_al, if_neg (by omega)]
    exact h2
  · have e : i - M.length = 0 := by
      have := (List.getElem?_eq_some_iff.1 hi).1
      simp at this; omega
    rw [e] at hi
    simp at hi
    obtain ⟨rfl, rfl⟩ := hi
    exact ⟨h.1.size, by rw [heap_al]; simp⟩
theorem St.drew {w w1 : World} {M : List (Nat × Obj)} (h : St w M w1) : St w M w1.drew := ⟨h.1.drew, h.2⟩
theorem St.drewN {w w1 : World} {M : List (Nat × Obj)} (h : St w M w1) (n : Nat) : St w M (w1.drewN n) := ⟨below_drewN h.1 n, h.2⟩
/-- A new row, stored whole. -/
theorem St.fresh {w w1 : World} {M : List (Nat × Obj)} (h : St w M w1) (old cs : Array Value) (t : TypeId) :
    St w (M ++ [(w1.heap.size, .cells cs t)]) ((w1.alloc (.cells old t)).setRow w1.heap.size cs) := by
  have e : (w1.alloc (.cells old t)).setRow w1.heap.size cs = w1.alloc (.cells cs t) := World.setRow_alloc_new _ _ _ _
  rw [e]
  exact h.alloc _
theorem St.one (w : World) (a : Obj) : St w [(w.heap.size, a)] (w.alloc a) := (St.zero w).alloc a
theorem St.two (w : World) (a b : Obj) : St w [(w.heap.size, a), (w.heap.size + 1, b)] ((w.alloc a).alloc b) := by
  have := (St.one w a).alloc b
  rw [size_al] at this; exact this
theorem St.three (w : World) (a b c : Obj) : St w [(w.heap.size, a), (w.heap.size + 1, b), (w.heap.size + 1 + 1, c)] (((w.alloc a).alloc b).alloc c) := by
  have := (St.two w a b).alloc c
  rw [size_al, size_al] at this; exact this
theorem infoSize23 (zs : List Int) (hz : zs.length = 16) : (Try.prog.info? 23).map (·.size) = some (mk zs).size := by rw [mk_size, hz]; exact info23
theorem infoSize26 (zs : List Int) (hz : zs.length = 16) : (Try.prog.info? 26).map (·.size) = some (mk zs).size := by rw [mk_size, hz]; exact info26

theorem results_row_tmp {P : Program} {fn : Func} {p u : Tmp} {ty : TypeId} (h : fn.results = #[.cell p ty, .tmp u]) (tmps : Array Value) (w : World) (g : Nat) (t : TypeId) (cs : Array Value) (fr : Nat × Nat) (d : TypeDesc)
    (hp : tmps.getD p undef = .pointer (some ⟨g, 0, none⟩)) (hg : w.heap[g]? = some (.cells cs t fr))
    (hu : P.underlying ty = some d) (hd : (match d with | .struct _ | .array _ _ => true | _ => false) = true) (hi : (P.info? ty).map (·.size) = some cs.size) :
    (results fn tmps).run P w = .ok (.tuple #[.agg cs, tmps.getD u undef]) w := by
  rw [results_cell_tmp h, hp]
  simp [asAddr, Result.andThen, run_loadVar_row w g t ty cs fr d hg hu hd hi]

set_option maxHeartbeats 400000 in
theorem toMask_any (zs : List Int) (hz : zs.length = 16) (w : World) :
    Calls Try.prog 20 #[.agg (mk zs)] w fun e w' => e = .returned (.agg (mk zs)) ∧ Below w.heap.size w w' := by
  go_enter Try.func20, Try.ntmps20
  go_wp2
  go_loopw [4] (fun i wr => ∃ k : Nat, k ≤ 16 ∧ i = .int .i64 k ∧ wr = ((w.alloc (.cells (mk zs) 23)).alloc (.cells (mk zs0) 26)).alloc (.cells (mk (upto zs k)) 26)) (fun i _ => 16 - (intOf i).toNat)
  case atStart => exact ⟨0, by omega, rfl, rfl⟩
  case round =>
    obtain ⟨k, hk, rfl, rfl⟩ := hrel
    by_cases hlt : k < 16
    · have g1 := mk_get zs k (by omega)
      have g2 := mk_get (upto zs k) k (by rw [upto_len zs hz k hk]; omega)
      go_wp2
      go_roundw
      case rel => exact ⟨k + 1, by omega, by go_num, by rw [← upto_set zs hz k hlt, ← mk_set]⟩
      case measure => simp [intOf]; omega
    · obtain rfl : k = 16 := by omega
      have s1 : (mk (upto zs 16)).size = 16 := by rw [mk_size, upto_len zs hz 16 hk]
      go_wp2_with (first | (refine wpList_load_row rfl 26 (.tmp 3) rfl (w.heap.size + 1 + 1) rfl 26 (mk (upto zs 16)) (0, 0) _ ?h1 Try.underlying26 rfl ?h2 ?_) | (refine wpList_store_row rfl 26 (.tmp 2) (.tmp 14) rfl (w.heap.size + 1) (mk (upto zs 16)) rfl rfl 26 (mk zs0) ?h3 ?h4 ?h5 ?h6 ?_))
      case h1 => simp only [heap_al, size_al]; simp
      case h2 => rw [s1]; exact info26
      case h3 => simp only [heap_al, size_al]; simp
      case h4 => rw [s1]; exact info26
      case h5 => rw [s1]; rfl
      case h6 => exact mk_one _
      rw [upto_all zs hz] at *
      refine bodyPost_ret (results_cell_row rfl _ _ (w.heap.size + 1) 26 (mk zs) (0, 0) _ rfl (setRow_heap _ _ (mk zs0) _ _ _ (by simp only [heap_al, size_al]; simp)) Try.underlying26 rfl (by rw [s1]; exact info26)) rfl ⟨rfl, ?_⟩
      exact below_setRow (below_al (below_al (below_al (Below.refl _ _) (Nat.le_refl _) _) (Nat.le_refl _) _) (Nat.le_refl _) _) (by omega) _

set_option maxHeartbeats 400000 in
theorem eqMask_any (zs : List Int) (hz : zs.length = 16) (w : World) :
    Calls Try.prog 24 #[.agg (mk zs), .agg (mk zs)] w fun e w' => e = .returned (.bool true) ∧ Below w.heap.size w w' := by
  go_enter Try.func24, Try.ntmps24
  go_wp2
  go_loopw [5] (fun i wr => ∃ k : Nat, k ≤ 16 ∧ i = .int .i64 k ∧ ∃ n, wr = ((w.alloc (.cells (mk zs) 26)).alloc (.cells (mk zs) 26)).drewN n) (fun i _ => 16 - (intOf i).toNat)
  case atStart => exact ⟨0, by omega, rfl, 0, rfl⟩
  case round =>
    obtain ⟨k, hk, rfl, n, rfl⟩ := hrel
    by_cases hlt : k < 16
    · have g1 := mk_get zs k (by omega)
      have i1 : (0 : Int) ≤ (k : Int) := by omega
      have i2 : (k : Int) < 16 := by omega
      go_wp2
      go_quiet (fail)
      go_wp2
      go_roundw
      case rel => exact ⟨k + 1, by omega, by go_num, n + nq, rfl⟩
      case measure => simp [intOf]; omega
    · obtain rfl : k = 16 := by omega
      go_wp2
      go_ret
      refine ⟨rfl, ?_⟩
      exact below_drewN (below_al (below_al (Below.refl _ _) (Nat.le_refl _) _) (Nat.le_refl _) _) _

end Go.Proofs.Ytbkbjiifklhgiaa
