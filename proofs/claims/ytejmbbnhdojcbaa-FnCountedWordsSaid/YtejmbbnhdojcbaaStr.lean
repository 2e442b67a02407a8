/- Lists of texts in memory: how they read; the law's own functions over them. Conditions: none. -/
import Derived.Test.YtejmbbnhdojcbaaWay
import Derived.Test.YtejmbbnhdojcbaaCmp
import Derived.Test.YtejmbbnhdojcbaaRow
import Derived.Deep.Strs
import Derived.Deep.RegionWith
import Derived.Deep.RegionHeld3
import Derived.BigRegion
import Derived.RegionTactic
namespace Go.Proofs.Ytejmbbnhdojcbaa
open Go.RowKit
set_option linter.unusedVariables false

/-- The text at a place. -/
def stAt (ls : List (List UInt8)) (k : Nat) : List UInt8 := ls.getD k []
theorem stAt_eq {ls : List (List UInt8)} {k : Nat} (h : k < ls.length) : stAt ls k = ls[k] := by simp [stAt, h]
theorem stAt_mem {ls : List (List UInt8)} {k : Nat} (h : k < ls.length) : stAt ls k ∈ ls := by rw [stAt_eq h]; exact List.getElem_mem h
/-- The slice at A reads as these texts. -/
def Strs (w : World) (A : Option Addr) (ls : List (List UInt8)) : Prop :=
  0 < ls.length → ∃ ad, A = some ad ∧ ad.block < w.heap.size ∧ ∀ j, j < ls.length → w.cell? (ad.add j) = some (.string (bs (stAt ls j)))
theorem add_block (a : Addr) (n : Nat) : (a.add n).block = a.block := by unfold Addr.add; split <;> rfl
theorem Strs.nil (w : World) (A : Option Addr) : Strs w A [] := fun h => absurd h (by simp)
theorem Strs.below {w w' : World} {A : Option Addr} {ls : List (List UInt8)} (h : Strs w A ls) (hb : Below w.heap.size w w') : Strs w' A ls := fun hn => by
  obtain ⟨ad, e, hl, hc⟩ := h hn
  exact ⟨ad, e, Nat.lt_of_lt_of_le hl hb.size, fun j hj => by rw [hb.cell (by rw [add_block]; exact hl)]; exact hc j hj⟩
theorem Strs.drewN {w : World} {A : Option Addr} {ls : List (List UInt8)} (h : Strs w A ls) (n : Nat) : Strs (w.drewN n) A ls := h
theorem Strs.at_ {w : World} {A : Option Addr} {ls : List (List UInt8)} (h : Strs w A ls) {k : Nat} (hk : k < ls.length) : ∃ ad, A = some ad ∧ ad.block < w.heap.size ∧ w.cell? (ad.add k) = some (.string (bs (stAt ls k))) := by
  obtain ⟨ad, e, hl, hc⟩ := h (by omega)
  exact ⟨ad, e, hl, hc k hk⟩
/-- Texts as the cells of a row. -/
def sv (ls : List (List UInt8)) : Array Value := (ls.map fun l => Value.string (bs l)).toArray
theorem sv_size (ls : List (List UInt8)) : (sv ls).size = ls.length := by simp [sv]
theorem sv_get (ls : List (List UInt8)) (k : Nat) (h : k < ls.length) : (sv ls)[k]? = some (.string (bs (stAt ls k))) := by
  simp [sv, stAt, List.getElem?_eq_getElem h]
theorem sv_set (ls : List (List UInt8)) (k : Nat) (l : List UInt8) : (sv ls).setIfInBounds k (.string (bs l)) = sv (ls.set k l) := by
  simp [sv, List.map_set]
/-- A block that holds the texts. -/
def SBlk (w : World) (g : Nat) (ls : List (List UInt8)) : Prop := w.heap[g]? = some (.cells (sv ls) 9 (0, 0))
theorem SBlk.lt {w : World} {g : Nat} {ls : List (List UInt8)} (h : SBlk w g ls) : g < w.heap.size := (Array.getElem?_eq_some_iff.1 h).1
theorem SBlk.below {w w' : World} {g : Nat} {ls : List (List UInt8)} (h : SBlk w g ls) (hb : Below w.heap.size w w') : SBlk w' g ls := (hb.block g h.lt).trans h
theorem plain_add (g j : Nat) : (⟨g, 0, none⟩ : Addr).add j = ⟨g, j, none⟩ := by unfold Addr.add; split <;> simp_all
theorem SBlk.strs {w : World} {g : Nat} {ls : List (List UInt8)} (h : SBlk w g ls) : Strs w (some ⟨g, 0, none⟩) ls := fun _ =>
  ⟨_, rfl, h.lt, fun j hj => by rw [plain_add, cell_of_row w g j _ _ _ h, sv_get _ _ hj]⟩
/-- The first k texts, and then empty ones. -/
def upS (ls : List (List UInt8)) (k : Nat) : List (List UInt8) := ls.take k ++ List.replicate (ls.length - k) []
theorem upS_zero (ls : List (List UInt8)) : upS ls 0 = List.replicate ls.length [] := by simp [upS]
theorem upS_all (ls : List (List UInt8)) : upS ls ls.length = ls := by simp [upS]
theorem upS_len (ls : List (List UInt8)) (k : Nat) (h : k ≤ ls.length) : (upS ls k).length = ls.length := by simp [upS]; omega
theorem upS_set (ls : List (List UInt8)) (k : Nat) (hk : k < ls.length) : (upS ls k).set k (stAt ls k) = upS ls (k + 1) := by
  have h1 : List.replicate (ls.length - k) ([] : List UInt8) = [] :: List.replicate (ls.length - (k + 1)) [] := by
    rw [show ls.length - k = (ls.length - (k + 1)) + 1 by omega, List.replicate_succ]
  have h2 : ls.take (k + 1) = ls.take k ++ [stAt ls k] := by
    rw [List.take_succ_eq_append_getElem hk, stAt_eq hk]
  unfold upS
  rw [h1, h2, List.set_append_right _ _ (by simp; omega)]
  simp [show k - min k ls.length = 0 by omega]

theorem made_one (v : Value) (n : Nat) : madeCells #[v] n = Array.replicate n v := by
  unfold madeCells
  apply Array.ext
  · simp
  · intro i h1 h2
    simp [Nat.mod_one]
theorem made_sv (ls : List (List UInt8)) : madeCells #[Value.string ⟨#[]⟩] ls.length = sv (upS ls 0) := by
  rw [made_one, upS_zero]
  simp [sv, bs_nil]
/-- 'make([]T, n)'. -/
theorem wpList_mk {P : Program} {w : World} {ops : Array Oper} {rest : List Oper} {o : Oper} {a : Act} {Q : Exit → Act → World → Prop} (hgd : o.guard = none) (x y : Operand) (t e : TypeId) (ho : o.op = .makeSlice t x y)
    (z : Value) (size bytes n : Nat) (ht : P.underlying t = some (.slice e)) (hi : (P.info? e).map (fun i => (i.zero, i.size, i.bytes)) = some (some z, size, bytes))
    (hx : a.eval x = .int .i64 n) (hy : a.eval y = .int .i64 n) (hn : n ≤ 1000000000) (hby : bytes ≤ 1000)
    (h : wpList P ops Q rest (a.put o.dst (.slice (some ⟨w.heap.size, 0, none⟩) n n)) (w.alloc (.cells (madeCells z.cells (n * size)) e))) : wpList P ops Q (o :: rest) a w := by
  obtain ⟨i, hi0, hz, hsize, hbytes⟩ := info_parts hi
  refine wpList_plain hgd fun K hK => ?_
  have h1 : i.bytes * n ≤ 1000 * 1000000000 := Nat.mul_le_mul (by omega) hn
  have h2 : (i.bytes : Int) * (n : Int) ≤ 281474976710656 := by
    have : ((i.bytes * n : Nat) : Int) ≤ 281474976710656 := by omega
    rwa [Int.natCast_mul] at this
  have hr := run_make (P := P) w t e i z ht hi0 hz .i64 .i64 n n (by omega) (Int.le_refl _) h2 (by omega)
  simp only [Int.toNat_natCast] at hr
  unfold Oper.wp execOp
  simp only [ho, hx, hy, hr, Sem.run_bind, Result.andThen_ok, Sem.run_pure]
  rw [hsize]
  exact hK _ _ h
theorem info_str : (Try.prog.info? 9).map (fun i => (i.zero, i.size, i.bytes)) = some (some (.string ⟨#[]⟩), 1, 16) := by kernel_rfl

/-- How much the texts hold. -/
def tot (ls : List (List UInt8)) : Nat := ls.length + (ls.map List.length).sum
def totTo (ls : List (List UInt8)) (k : Nat) : Nat := ls.length + ((ls.take k).map List.length).sum
theorem totTo_succ (ls : List (List UInt8)) (k : Nat) (h : k < ls.length) : totTo ls (k + 1) = totTo ls k + (stAt ls k).length := by
  unfold totTo
  rw [List.take_succ_eq_append_getElem h, stAt_eq h, List.map_append, List.sum_append]
  simp only [List.map_cons, List.map_nil, List.sum_cons, List.sum_nil]; omega
theorem totTo_all (ls : List (List UInt8)) : totTo ls ls.length = tot ls := by simp [totTo, tot]
theorem totTo_le (ls : List (List UInt8)) (k : Nat) : totTo ls k ≤ tot ls := by
  unfold totTo tot
  have h : ((ls.take k).map List.length).sum + ((ls.drop k).map List.length).sum = (ls.map List.length).sum := by
    rw [← List.sum_append, ← List.map_append, List.take_append_drop]
  omega
theorem len_le_tot (ls : List (List UInt8)) {k : Nat} (h : k < ls.length) : (stAt ls k).length ≤ tot ls := by
  have h1 := totTo_succ ls k h
  have h2 := totTo_le ls (k + 1)
  omega

/-- What is left of a bound; -1 if nothing is. -/
def szR (left : Nat) (ls : List (List UInt8)) : Int := if tot ls ≤ left then (left : Int) - tot ls else -1

end Go.Proofs.Ytejmbbnhdojcbaa
