/- Rows that are marked and looked at again by the law; bytes: the law's own functions. Conditions: none. -/
import Derived.Test.YtbkbjiifklhgiaaCells
import Derived.OneCell
namespace Go.Proofs.Ytbkbjiifklhgiaa
open Go.RowKit
set_option linter.unusedVariables false

/-- Block g is a row of S cells of type e, of which the first n read as f says. -/
def MB (w : World) (g : Nat) (e : TypeId) (S n : Nat) (f : Nat → Value) : Prop := ∃ cur : Array Value, w.heap[g]? = some (.cells cur e (0, 0)) ∧ cur.size = S ∧ n ≤ S ∧ ∀ j, j < n → cur[j]? = some (f j)
theorem MB.lt {w : World} {g : Nat} {e : TypeId} {S n : Nat} {f : Nat → Value} (h : MB w g e S n f) : g < w.heap.size := by
  obtain ⟨cur, h1, _⟩ := h; exact (Array.getElem?_eq_some_iff.1 h1).1
theorem MB.cell {w : World} {g : Nat} {e : TypeId} {S n : Nat} {f : Nat → Value} (h : MB w g e S n f) {j : Nat} (hj : j < n) : w.cell? ⟨g, j, none⟩ = some (f j) := by
  obtain ⟨cur, h1, _, _, h4⟩ := h; rw [cell_of_row w g j _ _ _ h1]; exact h4 j hj
theorem MB.free {w : World} {g : Nat} {e : TypeId} {S n : Nat} {f : Nat → Value} (h : MB w g e S n f) (j : Nat) : w.frozen? ⟨g, j, none⟩ = false := by
  obtain ⟨cur, h1, _⟩ := h; simp [World.frozen?, h1]
theorem MB.below {w w' : World} {g B : Nat} {e : TypeId} {S n : Nat} {f : Nat → Value} (h : MB w g e S n f) (hb : Below B w w') (hg : g < B) : MB w' g e S n f := by
  obtain ⟨cur, h1, h2⟩ := h; exact ⟨cur, (hb.block g hg).trans h1, h2⟩
theorem MB.drewN {w : World} {g : Nat} {e : TypeId} {S n : Nat} {f : Nat → Value} (h : MB w g e S n f) (q : Nat) : MB (w.drewN q) g e S n f := h
theorem MB.some_ {w : World} {g : Nat} {e : TypeId} {S n : Nat} {f : Nat → Value} (h : MB w g e S n f) {j : Nat} (hj : j < S) : ∃ v, w.cell? ⟨g, j, none⟩ = some v := by
  obtain ⟨cur, h1, h2, _⟩ := h; exact ⟨cur[j]'(by omega), by rw [cell_of_row w g j _ _ _ h1]; exact Array.getElem?_eq_getElem (by omega)⟩
theorem MB.put {w : World} {g : Nat} {e : TypeId} {S n : Nat} {f : Nat → Value} (h : MB w g e S n f) (hn : n < S) : MB (w.setCell ⟨g, n, none⟩ (f n)) g e S (n + 1) f := by
  obtain ⟨cur, h1, h2, h3, h4⟩ := h
  refine ⟨cur.setIfInBounds n (f n), by simp [World.setCell, Array.getElem?_modify, h1], by simpa using h2, hn, fun j hj => ?_⟩
  rw [Array.getElem?_setIfInBounds]
  by_cases e : n = j
  · subst e; simp; omega
  · rw [if_neg e]; exact h4 j (by omega)
theorem MB.less {w : World} {g : Nat} {e : TypeId} {S n m : Nat} {f f' : Nat → Value} (h : MB w g e S n f) (hm : m ≤ n) (hf : ∀ j, j < m → f' j = f j) : MB w g e S m f' := by
  obtain ⟨cur, h1, h2, h3, h4⟩ := h; exact ⟨cur, h1, h2, by omega, fun j hj => by rw [h4 j (by omega), hf j hj]⟩
theorem MB.zero {w : World} {g : Nat} {e : TypeId} {S n : Nat} {f : Nat → Value} (f' : Nat → Value) (h : MB w g e S n f) : MB w g e S 0 f' := h.less (Nat.zero_le _) (fun j hj => by omega)
theorem MB.get {w : World} {g : Nat} {e : TypeId} {S n : Nat} {f : Nat → Value} (h : MB w g e S n f) : n ≤ S := by obtain ⟨cur, _, _, h3, _⟩ := h; exact h3
/-- A row of the call's own, as such a block. -/
theorem row_mb {w : World} {B : Nat} {e : TypeId} {size : Nat} {v : Value} {n : Nat} {xs : List Value} (h : Row w B e size v n xs) :
    ∃ g cap, v = .slice (some ⟨g, 0, none⟩) n cap ∧ B ≤ g ∧ MB w g e (cap * size) (n * size) (fun j => xs.getD j undef) := by
  obtain ⟨⟨h1, h2⟩, hn⟩ := h
  rcases h2 with ⟨rfl, _⟩ | ⟨g, cap, cur, rfl, hb, hg, hc, _, hsz, htk⟩
  · exact absurd rfl hn
  · refine ⟨g, cap, rfl, hb, cur, hg, hsz, Nat.mul_le_mul_right _ hc, fun j hj => ?_⟩
    have : (cur.toList.take (n * size))[j]? = xs[j]? := by rw [htk]
    rw [List.getElem?_take, if_pos hj] at this
    have hj2 : j < xs.length := by omega
    show cur[j]? = some (xs.getD j undef)
    rw [List.getD_eq_getElem?_getD, List.getElem?_eq_getElem hj2]
    simpa [List.getElem?_eq_getElem hj2] using this

/-- The byte out of a number. -/
def m8 (k : Nat) : Int := IntKind.u8.wrap (k : Int)
def f8 (k j : Nat) : Value := .int .u8 (m8 (k + j))
set_option maxHeartbeats 800000 in
theorem markB_any (g n cap S : Nat) (k : Nat) (f : Nat → Value) (hn : n ≤ 1000000) (hk : k ≤ 1000000) (w : World) (h : MB w g 5 S n f) :
    Calls Try.prog 45 #[.slice (some ⟨g, 0, none⟩) n cap, .int .i64 k] w fun e w' => e = .returned (.int .i64 ((k + n : Nat) : Int)) ∧ MB w' g 5 S n (f8 k) ∧ Below g w w' := by
  have hS := h.get
  have H := Lib.hid h
  clear h
  go_enter Try.func45, Try.ntmps45
  go_wp2
  go_loopw [1, 5] (fun q i wr => ∃ j : Nat, j ≤ n ∧ i = .int .i64 j ∧ q = .int .i64 ((k : Int) + j) ∧ MB wr g 5 S j (f8 k) ∧ Below g w wr) (fun _ i _ => n - (intOf i).toNat)
  case atStart => exact ⟨0, by omega, rfl, by simp, H.out.zero _, Below.refl _ _⟩
  case round =>
    obtain ⟨j, hj, rfl, rfl, hm, hb⟩ := hrel
    by_cases hlt : j < n
    · have i1 : (j : Int) < n := by omega
      obtain ⟨v, hc⟩ := hm.some_ (j := j) (by omega)
      have hf := hm.free j
      have ew : IntKind.u8.wrap ((k : Int) + j) = m8 (k + j) := rfl
      have HM := Lib.hid hm
      clear hm
      go_wp2
      go_roundw
      case rel => exact ⟨j + 1, by omega, by go_num, by congr 1 <;> omega, HM.out.put (by omega), hb.setCell (Nat.le_refl _) _⟩
      case measure => simp [intOf]; omega
    · obtain rfl : j = n := by omega
      go_wp2
      go_ret
      exact ⟨by rfl, hm, hb⟩
set_option maxHeartbeats 800000 in
theorem heldB_any (g n cap S : Nat) (k : Nat) (hn : n ≤ 1000000) (hk : k ≤ 1000000) (w : World) (h : MB w g 5 S n (f8 k)) :
    Calls Try.prog 46 #[.slice (some ⟨g, 0, none⟩) n cap, .int .i64 k] w fun e w' => e = .returned (.int .i64 ((k + n : Nat) : Int)) ∧ Below w.heap.size w w' := by
  have H := Lib.hid h
  clear h
  go_enter Try.func46, Try.ntmps46
  go_wp2
  go_loopw [1, 5] (fun q i wr => ∃ j : Nat, j ≤ n ∧ i = .int .i64 j ∧ q = .int .i64 ((k : Int) + j) ∧ ∃ d, wr = w.drewN d) (fun _ i _ => n - (intOf i).toNat)
  case atStart => exact ⟨0, by omega, rfl, by simp, 0, rfl⟩
  case round =>
    obtain ⟨j, hj, rfl, rfl, dd, rfl⟩ := hrel
    by_cases hlt : j < n
    · have i0 : (0 : Int) ≤ j := by omega
      have i1 : (j : Int) < n := by omega
      have hc : w.cell? ⟨g, j, none⟩ = some (.int .u8 (m8 (k + j))) := H.out.cell hlt
      have ew : IntKind.u8.wrap ((k : Int) + j) = m8 (k + j) := rfl
      go_wp2
      go_roundw
      case rel => exact ⟨j + 1, by omega, by go_num, by congr 1 <;> omega, dd, rfl⟩
      case measure => simp [intOf]; omega
    · obtain rfl : j = n := by omega
      go_wp2
      go_ret
      exact ⟨by rfl, below_drewN (Below.refl _ _) _⟩
set_option maxHeartbeats 800000 in
theorem eqB_any (g1 g2 n c1 c2 S1 S2 : Nat) (f : Nat → Int) (hn : n ≤ 1000000) (w : World) (h1 : MB w g1 5 S1 n (fun j => .int .u8 (f j))) (h2 : MB w g2 5 S2 n (fun j => .int .u8 (f j))) :
    Calls Try.prog 44 #[.slice (some ⟨g1, 0, none⟩) n c1, .slice (some ⟨g2, 0, none⟩) n c2] w fun e w' => e = .returned (.bool true) ∧ Below w.heap.size w w' := by
  have H1 := Lib.hid h1
  have H2 := Lib.hid h2
  clear h1 h2
  go_enter Try.func44, Try.ntmps44
  go_wp2
  go_loopw [5] (fun i wr => ∃ j : Nat, j ≤ n ∧ i = .int .i64 j ∧ ∃ d, wr = w.drewN d) (fun i _ => n - (intOf i).toNat)
  case atStart => exact ⟨0, by omega, rfl, 0, rfl⟩
  case round =>
    obtain ⟨j, hj, rfl, dd, rfl⟩ := hrel
    by_cases hlt : j < n
    · have i0 : (0 : Int) ≤ j := by omega
      have i1 : (j : Int) < n := by omega
      have hc : w.cell? ⟨g1, j, none⟩ = some (.int .u8 (f j)) := H1.out.cell hlt
      have hc2 : w.cell? ⟨g2, j, none⟩ = some (.int .u8 (f j)) := H2.out.cell hlt
      go_wp2
      go_quiet (fail)
      go_wp2
      go_roundw
      case rel => exact ⟨j + 1, by omega, by go_num, dd + nq, rfl⟩
      case measure => simp [intOf]; omega
    · obtain rfl : j = n := by omega
      go_wp2
      go_ret
      exact ⟨by rfl, below_drewN (Below.refl _ _) _⟩
theorem markB1 (g n cap S : Nat) (f : Nat → Value) (hn : n ≤ 1000000) (w : World) (h : MB w g 5 S n f) :
    Calls Try.prog 45 #[.slice (some ⟨g, 0, none⟩) n cap, .int .i64 1] w fun e w' => e = .returned (.int .i64 (1 + (n : Int))) ∧ MB w' g 5 S n (f8 1) ∧ Below g w w' := by
  refine (markB_any g n cap S 1 f hn (by omega) w h).mono ?_
  rintro e w' ⟨rfl, h1, h2⟩
  exact ⟨rfl, h1, h2⟩
theorem heldB1 (g n cap S : Nat) (hn : n ≤ 1000000) (w : World) (h : MB w g 5 S n (f8 1)) :
    Calls Try.prog 46 #[.slice (some ⟨g, 0, none⟩) n cap, .int .i64 1] w fun e w' => e = .returned (.int .i64 (1 + (n : Int))) ∧ Below w.heap.size w w' := by
  refine (heldB_any g n cap S 1 hn (by omega) w h).mono ?_
  rintro e w' ⟨rfl, h1⟩
  exact ⟨rfl, h1⟩
/-- Rows of the law's own: one behind the other in memory; what the world W had is as it was. -/
def Ms (W : World) (M : List (Nat × TypeId × Nat × Nat × (Nat → Value))) (w' : World) : Prop :=
  Below W.heap.size W w' ∧ (∀ (i : Nat) g e S n f, M[i]? = some (g, e, S, n, f) → W.heap.size ≤ g ∧ MB w' g e S n f)
theorem Ms.zero (W : World) : Ms W [] W := ⟨Below.refl _ _, fun i g e S n f h => by simp at h⟩
theorem Ms.below {W w' : World} {M : List (Nat × TypeId × Nat × Nat × (Nat → Value))} (h : Ms W M w') : Below W.heap.size W w' := h.1
theorem Ms.at {W w' : World} {M : List (Nat × TypeId × Nat × Nat × (Nat → Value))} (h : Ms W M w') (i : Nat) {g : Nat} {e : TypeId} {S n : Nat} {f : Nat → Value} (hi : M[i]? = some (g, e, S, n, f)) : MB w' g e S n f := (h.2 i g e S n f hi).2
theorem Ms.call {W w1 w2 : World} {M : List (Nat × TypeId × Nat × Nat × (Nat → Value))} (hb : Below w1.heap.size w1 w2) (h : Ms W M w1) : Ms W M w2 :=
  ⟨h.1.trans (hb.mono h.1.size), fun i g e S n f hi => ⟨(h.2 i g e S n f hi).1, (h.2 i g e S n f hi).2.below hb (h.2 i g e S n f hi).2.lt⟩⟩
theorem Ms.add {W w1 w2 : World} {M : List (Nat × TypeId × Nat × Nat × (Nat → Value))} (h : Ms W M w1) (hb : Below w1.heap.size w1 w2) {g : Nat} {e : TypeId} {S n : Nat} {f : Nat → Value} (hg : w1.heap.size ≤ g) (hm : MB w2 g e S n f) : Ms W (M ++ [(g, e, S, n, f)]) w2 := by
  refine ⟨(Ms.call hb h).1, fun i g' e' S' n' f' hi => ?_⟩
  rw [List.getElem?_append] at hi
  split at hi
  · exact (Ms.call hb h).2 i g' e' S' n' f' hi
  · have e0 : i - M.length = 0 := by
      have := (List.getElem?_eq_some_iff.1 hi).1
      simp at this; omega
    rw [e0] at hi
    simp at hi
    obtain ⟨rfl, rfl, rfl, rfl, rfl⟩ := hi
    exact ⟨Nat.le_trans h.1.size hg, hm⟩
/-- A row is marked: those before it stay. -/
theorem Ms.mark2 {W w1 w2 : World} {g0 g : Nat} {e0 e : TypeId} {S0 n0 S n : Nat} {f0 f f' : Nat → Value} (h : Ms W [(g0, e0, S0, n0, f0), (g, e, S, n, f)] w1) (hlt : g0 < g) (hb : Below g w1 w2) (hm : MB w2 g e S n f') : Ms W [(g0, e0, S0, n0, f0), (g, e, S, n, f')] w2 := by
  have hg := (h.2 1 g e S n f rfl).1
  refine ⟨h.1.trans (hb.mono hg), fun i g' e' S' n' f'' hi => ?_⟩
  match i, hi with
  | 0, hi =>
    simp at hi
    obtain ⟨rfl, rfl, rfl, rfl, rfl⟩ := hi
    exact ⟨(h.2 0 _ _ _ _ _ rfl).1, (h.2 0 _ _ _ _ _ rfl).2.below hb hlt⟩
  | 1, hi =>
    simp at hi
    obtain ⟨rfl, rfl, rfl, rfl, rfl⟩ := hi
    exact ⟨hg, hm⟩
theorem Ms.lt {W w' : World} {M : List (Nat × TypeId × Nat × Nat × (Nat → Value))} (h : Ms W M w') (i : Nat) {g : Nat} {e : TypeId} {S n : Nat} {f : Nat → Value} (hi : M[i]? = some (g, e, S, n, f)) : g < w'.heap.size := (h.at i hi).lt
theorem Ms.box {w w' : World} {o : Obj} {M : List (Nat × TypeId × Nat × Nat × (Nat → Value))} (h : Ms (w.alloc o) M w') : w'.heap[w.heap.size]? = some o := by
  rw [h.1.block _ (by simp)]; exact one_first w o
theorem Ms.end_ {w w' : World} {o : Obj} {M : List (Nat × TypeId × Nat × Nat × (Nat → Value))} (h : Ms (w.alloc o) M w') : Below w.heap.size w w' :=
  ((Below.refl w.heap.size w).alloc (Nat.le_refl _) o).trans (h.1.mono (by simp))
/-- Bytes as numbers. -/
def bt (l : List UInt8) (j : Nat) : Int := ((l.getD j 0).toNat : Int)
theorem own_mb {w : World} {B : Nat} {v : Value} {l : List UInt8} (h : Own w B 5 v l) : ∃ g cap, v = .slice (some ⟨g, 0, none⟩) l.length cap ∧ B ≤ g ∧ MB w g 5 cap l.length (fun j => .int .u8 (bt l j)) := by
  obtain ⟨g, cap, h1, h2, h3⟩ := row_mb h
  rw [Nat.mul_one, Nat.mul_one] at h3
  refine ⟨g, cap, h1, h2, h3.less (Nat.le_refl _) (fun j hj => ?_)⟩
  simp [byteVals, bt, List.getElem?_eq_getElem hj]
end Go.Proofs.Ytbkbjiifklhgiaa
