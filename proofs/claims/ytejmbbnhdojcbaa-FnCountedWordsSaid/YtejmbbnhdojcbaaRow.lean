/- Rows of numbers in memory: as values, as cells; worlds that hold new blocks. Conditions: none. -/
import Derived.Test.YtejmbbnhdojcbaaByt
import Derived.WalkKit
import Derived.WalkSpells
import Derived.ProofKit
import Derived.OpenShut
import Derived.Lib.Hide
import Derived.Deep.WholeRow
import Derived.Laws.CopyOwn
import Derived.Laws.ResultCell
import Derived.Deep.QuietTactic
import Derived.BigQuiet
namespace Go.Proofs.Ytejmbbnhdojcbaa
open Go.RowKit
set_option linter.unusedVariables false

/-- The number at a place; a name that the walk does not open. -/
def nth (zs : List Int) (k : Nat) : Int := zs.getD k 0
/-- Numbers as the cells of a row. -/
def mk (κ : IntKind) (zs : List Int) : Array Value := (zs.map (Value.int κ)).toArray
theorem mk_size (κ : IntKind) (zs : List Int) : (mk κ zs).size = zs.length := by simp [mk]
theorem mk_get (κ : IntKind) (zs : List Int) (k : Nat) (h : k < zs.length) : (mk κ zs)[k]? = some (.int κ (nth zs k)) := by
  simp [mk, nth, List.getElem?_eq_getElem h]
theorem mk_set (κ : IntKind) (zs : List Int) (k : Nat) (z : Int) : (mk κ zs).setIfInBounds k (.int κ z) = mk κ (zs.set k z) := by
  simp [mk, List.map_set]
theorem mk_one (κ : IntKind) (zs : List Int) : (mk κ zs).all (·.oneCell') = true := by
  simp [mk, Value.oneCell']
theorem nth_set (zs : List Int) (k j : Nat) (z : Int) (h : k < zs.length) : nth (zs.set k z) j = if j = k then z else nth zs j := by
  unfold nth
  rw [List.getD_eq_getElem?_getD, List.getD_eq_getElem?_getD, List.getElem?_set]
  by_cases e : k = j
  · subst e; simp [h]
  · rw [if_neg e, if_neg (by omega)]

theorem heap_al (w : World) (o : Obj) (i : Nat) : (w.alloc o).heap[i]? = if i = w.heap.size then some o else w.heap[i]? := by
  show (w.heap.push o)[i]? = _
  rw [Array.getElem?_push]
theorem size_al (w : World) (o : Obj) : (w.alloc o).heap.size = w.heap.size + 1 := by simp
theorem one_first (w : World) (a : Obj) : (w.alloc a).heap[w.heap.size]? = some a := by
  simp only [heap_al]; simp
theorem two_first (w : World) (a b : Obj) : ((w.alloc a).alloc b).heap[w.heap.size]? = some a := by
  simp only [heap_al, size_al]; rw [if_neg (by omega)]; simp
theorem two_second (w : World) (a b : Obj) : ((w.alloc a).alloc b).heap[w.heap.size + 1]? = some b := by
  simp only [heap_al, size_al]; simp
/-- The world w' holds the blocks M, all of them new; what w had is as it was. -/
def St (w : World) (M : List (Nat × Obj)) (w' : World) : Prop := Below w.heap.size w w' ∧ ∀ (i : Nat) (g : Nat) (o : Obj), M[i]? = some (g, o) → w.heap.size ≤ g ∧ w'.heap[g]? = some o
theorem St.zero (w : World) : St w [] w := ⟨Below.refl _ _, fun i g o h => by simp at h⟩
theorem St.call {w w1 w2 : World} {M : List (Nat × Obj)} (hb : Below w1.heap.size w1 w2) (h : St w M w1) : St w M w2 := by
  refine ⟨h.1.trans (hb.mono h.1.size), fun i g o hi => ?_⟩
  obtain ⟨h1, h2⟩ := h.2 i g o hi
  refine ⟨h1, ?_⟩
  rw [hb.block _ (Array.getElem?_eq_some_iff.1 h2).1]
  exact h2
theorem St.get {w w' : World} {M : List (Nat × Obj)} (h : St w M w') (i : Nat) {g : Nat} {o : Obj} (hi : M[i]? = some (g, o)) : w'.heap[g]? = some o := (h.2 i g o hi).2
theorem St.ge {w w' : World} {M : List (Nat × Obj)} (h : St w M w') (i : Nat) {g : Nat} {o : Obj} (hi : M[i]? = some (g, o)) : w.heap.size ≤ g := (h.2 i g o hi).1
theorem St.below {w w' : World} {M : List (Nat × Obj)} (h : St w M w') : Below w.heap.size w w' := h.1
theorem St.alloc {w w1 : World} {M : List (Nat × Obj)} (h : St w M w1) (o : Obj) : St w (M ++ [(w1.heap.size, o)]) (w1.alloc o) := by
  refine ⟨h.1.alloc h.1.size o, fun i g x hi => ?_⟩
  rw [List.getElem?_append] at hi
  split at hi
  · obtain ⟨h1, h2⟩ := h.2 i g x hi
    have := (Array.getElem?_eq_some_iff.1 h2).1
    refine ⟨h1, ?_⟩
    rw [heap_al, if_neg (by omega)]
    exact h2
  · have e : i - M.length = 0 := by
      have := (List.getElem?_eq_some_iff.1 hi).1
      simp at this; omega
    rw [e] at hi
    simp at hi
    obtain ⟨rfl, rfl⟩ := hi
    exact ⟨h.1.size, by rw [heap_al]; simp⟩
theorem St.drew {w w1 : World} {M : List (Nat × Obj)} (h : St w M w1) : St w M w1.drew := ⟨h.1.drew, h.2⟩
theorem St.drewN {w w1 : World} {M : List (Nat × Obj)} (h : St w M w1) (n : Nat) : St w M (w1.drewN n) := ⟨below_drewN h.1 n, h.2⟩
/-- A new row, stored whole. -/
theorem St.fresh {w w1 : World} {M : List (Nat × Obj)} (h : St w M w1) (old cs : Array Value) (t : TypeId) :
    St w (M ++ [(w1.heap.size, .cells cs t)]) ((w1.alloc (.cells old t)).setRow w1.heap.size cs) := by
  have e : (w1.alloc (.cells old t)).setRow w1.heap.size cs = w1.alloc (.cells cs t) := World.setRow_alloc_new _ _ _ _
  rw [e]
  exact h.alloc _
theorem St.one (w : World) (a : Obj) : St w [(w.heap.size, a)] (w.alloc a) := (St.zero w).alloc a
theorem St.two (w : World) (a b : Obj) : St w [(w.heap.size, a), (w.heap.size + 1, b)] ((w.alloc a).alloc b) := by
  have := (St.one w a).alloc b
  rw [size_al] at this; exact this

theorem results_row_tmp {P : Program} {fn : Func} {p u : Tmp} {ty : TypeId} (h : fn.results = #[.cell p ty, .tmp u]) (tmps : Array Value) (w : World) (g : Nat) (t : TypeId) (cs : Array Value) (fr : Nat × Nat) (d : TypeDesc)
    (hp : tmps.getD p undef = .pointer (some ⟨g, 0, none⟩)) (hg : w.heap[g]? = some (.cells cs t fr))
    (hu : P.underlying ty = some d) (hd : (match d with | .struct _ | .array _ _ => true | _ => false) = true) (hi : (P.info? ty).map (·.size) = some cs.size) :
    (results fn tmps).run P w = .ok (.tuple #[.agg cs, tmps.getD u undef]) w := by
  rw [results_cell_tmp h, hp]
  simp [asAddr, Result.andThen, run_loadVar_row w g t ty cs fr d hg hu hd hi]
end Go.Proofs.Ytejmbbnhdojcbaa
