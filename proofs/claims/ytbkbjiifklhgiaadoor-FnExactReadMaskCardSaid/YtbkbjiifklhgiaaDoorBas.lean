/- ReadMask: the base: masks as rows of numbers, their texts, cells set one by one (the mask seat's lemmas at this seat's numbers). Conditions: none. -/
import Derived.Test.YtbkbjiifklhgiaaDoorRows
import Derived.WalkKit
import Derived.WalkSpells
import Derived.WalkLawsBesides
import Derived.ProofKit
import Derived.OpenShut
import Derived.Lib.Hide
import Derived.Deep.WholeRow
import Derived.Laws.CopyOwn
import Derived.Laws.ResultCell
import Derived.Deep.QuietTactic
import Derived.BigQuiet
import Derived.Lib.Tables
import Derived.Lib.BufferRead
namespace Go.Proofs.YtbkbjiifklhgiaaDoor
open Go.RowKit
set_option linter.unusedVariables false

/-- The number at a place; a name that the walk does not open. -/
def nth (zs : List Int) (k : Nat) : Int := zs.getD k 0
/-- Numbers as the cells of a row of uint16. -/
def mk (zs : List Int) : Array Value := (zs.map (Value.int .u16)).toArray
theorem mk_size (zs : List Int) : (mk zs).size = zs.length := by simp [mk]
theorem mk_get (zs : List Int) (k : Nat) (h : k < zs.length) : (mk zs)[k]? = some (.int .u16 (nth zs k)) := by
  simp [mk, nth, List.getElem?_eq_getElem h]
theorem mk_set (zs : List Int) (k : Nat) (z : Int) : (mk zs).setIfInBounds k (.int .u16 z) = mk (zs.set k z) := by
  simp [mk, List.map_set]
theorem mk_got (zs : List Int) (k : Nat) (z : Int) (h : k < zs.length) : (mk (zs.set k z))[k]? = some (.int .u16 z) := by
  simp [mk, h]
theorem mk_one (zs : List Int) : (mk zs).all (·.oneCell') = true := by
  simp [mk, Value.oneCell']
theorem info23 : (Tryd.prog.info? 23).map (·.size) = some 16 := by kernel_rfl
theorem info26 : (Tryd.prog.info? 24).map (·.size) = some 16 := by kernel_rfl
def zs0 : List Int := List.replicate 16 0
/-- After k copies: the first k of zs, and zeros. -/
def upto (zs : List Int) (k : Nat) : List Int := zs.take k ++ List.replicate (16 - k) 0
theorem upto_len (zs : List Int) (hz : zs.length = 16) (k : Nat) (hk : k ≤ 16) : (upto zs k).length = 16 := by simp [upto, hz]; omega
theorem upto_set (zs : List Int) (hz : zs.length = 16) (k : Nat) (hk : k < 16) : (upto zs k).set k (nth zs k) = upto zs (k + 1) := by
  have h1 : List.replicate (16 - k) (0 : Int) = 0 :: List.replicate (16 - (k + 1)) 0 := by
    rw [show 16 - k = (16 - (k + 1)) + 1 by omega, List.replicate_succ]
  have h2 : zs.take (k + 1) = zs.take k ++ [nth zs k] := by
    rw [List.take_succ_eq_append_getElem (by omega)]; simp [nth, List.getElem?_eq_getElem (show k < zs.length by omega)]
  unfold upto
  rw [h1, h2, List.set_append_right _ _ (by simp; omega)]
  simp [show k - min k zs.length = 0 by omega]
theorem upto_all (zs : List Int) (hz : zs.length = 16) : upto zs 16 = zs := by simp [upto, ← hz]
theorem lit0 : (#[Value.int IntKind.u16 0, Value.int IntKind.u16 0, Value.int IntKind.u16 0, Value.int IntKind.u16 0, Value.int IntKind.u16 0, Value.int IntKind.u16 0, Value.int IntKind.u16 0, Value.int IntKind.u16 0, Value.int IntKind.u16 0, Value.int IntKind.u16 0, Value.int IntKind.u16 0, Value.int IntKind.u16 0, Value.int IntKind.u16 0, Value.int IntKind.u16 0, Value.int IntKind.u16 0, Value.int IntKind.u16 0] : Array Value) = mk zs0 := rfl
theorem heap_al (w : World) (o : Obj) (i : Nat) : (w.alloc o).heap[i]? = if i = w.heap.size then some o else w.heap[i]? := by
  show (w.heap.push o)[i]? = _
  rw [Array.getElem?_push]
theorem size_al (w : World) (o : Obj) : (w.alloc o).heap.size = w.heap.size + 1 := by simp
theorem below_al {B : Nat} {a w : World} (h : Below B a w) (hB : B ≤ a.heap.size) (o : Obj) : Below B a (w.alloc o) := h.alloc (Nat.le_trans hB h.size) o
theorem two_first (w : World) (a b : Obj) : ((w.alloc a).alloc b).heap[w.heap.size]? = some a := by
  simp only [heap_al, size_al]; rw [if_neg (by omega)]; simp
theorem two_second (w : World) (a b : Obj) : ((w.alloc a).alloc b).heap[w.heap.size + 1]? = some b := by
  simp only [heap_al, size_al]; simp
theorem one_first (w : World) (a : Obj) : (w.alloc a).heap[w.heap.size]? = some a := by
  simp only [heap_al]; simp
theorem mk_same (xs : List Int) (hx : xs.length = 16) : (mk zs0).size = (mk xs).size := by rw [mk_size, mk_size, hx]; rfl
/-- The world w' holds the blocks M, all of them new; what w had is as it was. -/
def St (w : World) (M : List (Nat × Obj)) (w' : World) : Prop := Below w.heap.size w w' ∧ ∀ (i : Nat) (g : Nat) (o : Obj), M[i]? = some (g, o) → w.heap.size ≤ g ∧ w'.heap[g]? = some o
theorem St.zero (w : World) : St w [] w := ⟨Below.refl _ _, fun i g o h => by simp at h⟩
theorem St.call {w w1 w2 : World} {M : List (Nat × Obj)} (hb : Below w1.heap.size w1 w2) (h : St w M w1) : St w M w2 := by
  refine ⟨h.1.trans (hb.mono h.1.size), fun i g o hi => ?_⟩
  obtain ⟨h1, h2⟩ := h.2 i g o hi
  refine ⟨h1, ?_⟩
  rw [hb.block _ (Array.getElem?_eq_some_iff.1 h2).1]
  exact h2
theorem St.get {w w' : World} {M : List (Nat × Obj)} (h : St w M w') (i : Nat) {g : Nat} {o : Obj} (hi : M[i]? = some (g, o)) : w'.heap[g]? = some o := (h.2 i g o hi).2
theorem St.ge {w w' : World} {M : List (Nat × Obj)} (h : St w M w') (i : Nat) {g : Nat} {o : Obj} (hi : M[i]? = some (g, o)) : w.heap.size ≤ g := (h.2 i g o hi).1
theorem St.below {w w' : World} {M : List (Nat × Obj)} (h : St w M w') : Below w.heap.size w w' := h.1
theorem St.alloc {w w1 : World} {M : List (Nat × Obj)} (h : St w M w1) (o : Obj) : St w (M ++ [(w1.heap.size, o)]) (w1.alloc o) := by
  refine ⟨below_al h.1 (Nat.le_refl _) o, fun i g x hi => ?_⟩
  rw [List.getElem?_append] at hi
  split at hi
  · obtain ⟨h1, h2⟩ := h.2 i g x hi
    have := (Array.getElem?_eq_some_iff.1 h2).1
    refine ⟨h1, ?_⟩
    rw [heap_al, if_neg (by omega)]
    exact h2
  · have e : i - M.length = 0 := by
      have := (List.getElem?_eq_some_iff.1 hi).1
      simp at this; omega
    rw [e] at hi
    simp at hi
    obtain ⟨rfl, rfl⟩ := hi
    exact ⟨h.1.size, by rw [heap_al]; simp⟩
theorem St.drew {w w1 : World} {M : List (Nat × Obj)} (h : St w M w1) : St w M w1.drew := ⟨h.1.drew, h.2⟩
theorem St.drewN {w w1 : World} {M : List (Nat × Obj)} (h : St w M w1) (n : Nat) : St w M (w1.drewN n) := ⟨below_drewN h.1 n, h.2⟩
/-- A new row, stored whole. -/
theorem St.fresh {w w1 : World} {M : List (Nat × Obj)} (h : St w M w1) (old cs : Array Value) (t : TypeId) :
    St w (M ++ [(w1.heap.size, .cells cs t)]) ((w1.alloc (.cells old t)).setRow w1.heap.size cs) := by
  have e : (w1.alloc (.cells old t)).setRow w1.heap.size cs = w1.alloc (.cells cs t) := World.setRow_alloc_new _ _ _ _
  rw [e]
  exact h.alloc _
theorem St.one (w : World) (a : Obj) : St w [(w.heap.size, a)] (w.alloc a) := (St.zero w).alloc a
theorem St.two (w : World) (a b : Obj) : St w [(w.heap.size, a), (w.heap.size + 1, b)] ((w.alloc a).alloc b) := by
  have := (St.one w a).alloc b
  rw [size_al] at this; exact this
theorem St.three (w : World) (a b c : Obj) : St w [(w.heap.size, a), (w.heap.size + 1, b), (w.heap.size + 1 + 1, c)] (((w.alloc a).alloc b).alloc c) := by
  have := (St.two w a b).alloc c
  rw [size_al, size_al] at this; exact this
theorem infoSize23 (zs : List Int) (hz : zs.length = 16) : (Tryd.prog.info? 23).map (·.size) = some (mk zs).size := by rw [mk_size, hz]; exact info23
theorem infoSize26 (zs : List Int) (hz : zs.length = 16) : (Tryd.prog.info? 24).map (·.size) = some (mk zs).size := by rw [mk_size, hz]; exact info26
theorem results_row_tmp {P : Program} {fn : Func} {p u : Tmp} {ty : TypeId} (h : fn.results = #[.cell p ty, .tmp u]) (tmps : Array Value) (w : World) (g : Nat) (t : TypeId) (cs : Array Value) (fr : Nat × Nat) (d : TypeDesc)
    (hp : tmps.getD p undef = .pointer (some ⟨g, 0, none⟩)) (hg : w.heap[g]? = some (.cells cs t fr))
    (hu : P.underlying ty = some d) (hd : (match d with | .struct _ | .array _ _ => true | _ => false) = true) (hi : (P.info? ty).map (·.size) = some cs.size) :
    (results fn tmps).run P w = .ok (.tuple #[.agg cs, tmps.getD u undef]) w := by
  rw [results_cell_tmp h, hp]
  simp [asAddr, Result.andThen, run_loadVar_row w g t ty cs fr d hg hu hd hi]
set_option maxHeartbeats 400000 in
theorem eqMask_any (zs : List Int) (hz : zs.length = 16) (w : World) :
    Calls Tryd.prog 6 #[.agg (mk zs), .agg (mk zs)] w fun e w' => e = .returned (.bool true) ∧ Below w.heap.size w w' := by
  go_enter Tryd.func6, Tryd.ntmps6
  go_wp2
  go_loopw [5] (fun i wr => ∃ k : Nat, k ≤ 16 ∧ i = .int .i64 k ∧ ∃ n, wr = ((w.alloc (.cells (mk zs) 24)).alloc (.cells (mk zs) 24)).drewN n) (fun i _ => 16 - (intOf i).toNat)
  case atStart => exact ⟨0, by omega, rfl, 0, rfl⟩
  case round =>
    obtain ⟨k, hk, rfl, n, rfl⟩ := hrel
    by_cases hlt : k < 16
    · have g1 := mk_get zs k (by omega)
      have i1 : (0 : Int) ≤ (k : Int) := by omega
      have i2 : (k : Int) < 16 := by omega
      go_wp2
      go_quiet (fail)
      go_wp2
      go_roundw
      case rel => exact ⟨k + 1, by omega, by go_num, n + nq, rfl⟩
      case measure => simp [intOf]; omega
    · obtain rfl : k = 16 := by omega
      go_wp2
      go_ret
      refine ⟨rfl, ?_⟩
      exact below_drewN (below_al (below_al (Below.refl _ _) (Nat.le_refl _) _) (Nat.le_refl _) _) _
/-- Is the cell in column x of row y set? -/
def has (zs : List Int) (x y : Nat) : Bool := bits BinOp.and IntKind.u16 (nth zs y / 2 ^ x) 1 == 1
theorem z22 : (Tryd.prog.info? 22).map (·.size) = some 1 := by kernel_rfl
/-- A row of a mask, by its number. -/
theorem run_index_mk (zs : List Int) (hz : zs.length = 16) (k : Nat) (hk : k < 16) (w : World) : (Instr.index 24 (.agg (mk zs)) (.int .i64 k)).run Tryd.prog w = .ok (.int .u16 (nth zs k)) w := by
  obtain ⟨i, hi, hs⟩ := Option.map_eq_some_iff.1 z22
  have hg := mk_get zs k (by omega)
  simp [Instr.index, run_underlying Tryd.underlying24, sizeOf, typeInfo, hi, hs, part, asIntOf, Result.andThen, hg]
  omega
/-- A row of the call's own, above B, of n elements of type e (size cells each): its cells are xs; it is not nil. -/
def Row (w : World) (B : Nat) (e : TypeId) (size : Nat) (v : Value) (n : Nat) (xs : List Value) : Prop := w.ownsRow B e size v n xs ∧ v ≠ .slice none 0 0
theorem row_made (w : World) (B : Nat) (e : TypeId) (size : Nat) (hB : B ≤ w.heap.size) : Row (w.alloc (.cells #[] e)) B e size (.slice (some ⟨w.heap.size, 0, none⟩) 0 0) 0 [] :=
  ⟨World.ownsRow_made w #[] 0 hB (by unfold maxLen; omega) (by simp), by simp⟩
/-- 'append(out, x)', x laid in a new block: the row has one element more; below B nothing has turned. -/
theorem wpList_push {P : Program} {W1 wr : World} {ops : Array Oper} {rest : List Oper} {o : Oper} {a : Act} {Q : Exit → Act → World → Prop} (hgd : o.guard = none) (s x : Operand) (t : TypeId)
    (ho : o.op = .call { callee := .builtin .append, args := #[s, x], argTypes := #[t, t] })
    (B : Nat) (e : TypeId) (z : Value) (size bytes : Nat) (ht : P.underlying t = some (.slice e)) (hi : (P.info? e).map (fun i => (i.zero, i.size, i.bytes)) = some (some z, size, bytes))
    (hzs : z.cells.size = size) (hsz : 0 < size) (v : Value) (n : Nat) (xs : List Value) (hs : a.eval s = v) (hown : Row wr B e size v n xs) (hb : Below B W1 wr) (hBW : B ≤ W1.heap.size)
    (news : Array Value) (hx : a.eval x = .slice (some ⟨wr.heap.size, 0, none⟩) 1 1) (hn : news.size = size) (h1 : news.all (·.oneCell') = true) (hlen : n < 1000000000) (hby : bytes ≤ 1000)
    (h : ∀ v' w', Row w' B e size v' (n + 1) (xs ++ news.toList) → Below B W1 w' → wpList P ops Q rest (a.put o.dst v') w') : wpList P ops Q (o :: rest) a (wr.alloc (.cells news e)) := by
  obtain ⟨i, hi0, hz, hsize, hbytes⟩ := info_parts hi
  have hlt := hown.1.lt
  refine wpList_append_own (wr.alloc (.cells news e)) hgd s x t ho B e i z size bytes ht hi0 hz hsize hbytes hzs hsz v n xs hs (hown.1.alloc _) ⟨wr.heap.size, 0, none⟩ 1 1 news.toList hx (by simpa using hn) ?_ ?_
    (by unfold maxLen; omega) ?_ ?_ ?_
  · intro j u hj
    have hadd : (⟨wr.heap.size, 0, none⟩ : Addr).add j = ⟨wr.heap.size, j, none⟩ := by unfold Addr.add; split <;> simp_all
    rw [hadd, cell_of_row _ _ j news e (0, 0) (heap_alloc_new wr _)]
    simpa using hj
  · intro u hu
    exact Array.all_eq_true_iff_forall_mem.1 h1 u (by simpa using hu)
  · have : (n + 1) * bytes ≤ 1000000000 * 1000 := Nat.mul_le_mul (by omega) hby
    omega
  · have := hb.size; simp; omega
  · intro v' w' hown' hg hnil
    refine h v' w' ⟨hown', fun e => ?_⟩ ((hb.alloc (Nat.le_trans hBW hb.size) _).grown hg (by have := hb.size; simp; omega) (fun k hk => (hlt k hk).1))
    have := (hnil.1 e).2
    omega
/-- Bytes as the cells of a row. -/
def byteVals (l : List UInt8) : List Value := l.map fun c => Value.int .u8 (c.toNat : Int)
theorem byteVals_snoc (l : List UInt8) (c : UInt8) : byteVals (l ++ [c]) = byteVals l ++ [.int .u8 (c.toNat : Int)] := by simp [byteVals]
/-- A row of bytes of the call's own. -/
def Own (w : World) (B : Nat) (e : TypeId) (v : Value) (l : List UInt8) : Prop := Row w B e 1 v l.length (byteVals l)
theorem own_made (w : World) (B : Nat) (e : TypeId) (hB : B ≤ w.heap.size) : Own (w.alloc (.cells #[] e)) B e (.slice (some ⟨w.heap.size, 0, none⟩) 0 0) [] := row_made w B e 1 hB
/-- 'append(out, c)', a byte. -/
theorem wpList_pushByte {P : Program} {W1 wr : World} {ops : Array Oper} {rest : List Oper} {o : Oper} {a : Act} {Q : Exit → Act → World → Prop} (hgd : o.guard = none) (s x : Operand) (t : TypeId)
    (ho : o.op = .call { callee := .builtin .append, args := #[s, x], argTypes := #[t, t] })
    (B : Nat) (e : TypeId) (ht : P.underlying t = some (.slice e)) (hi : (P.info? e).map (fun i => (i.zero, i.size, i.bytes)) = some (some (.int .u8 0), 1, 1))
    (v : Value) (l : List UInt8) (c : UInt8) (k : Int) (hk : k = (c.toNat : Int)) (hs : a.eval s = v) (hown : Own wr B e v l) (hb : Below B W1 wr) (hBW : B ≤ W1.heap.size)
    (hx : a.eval x = .slice (some ⟨wr.heap.size, 0, none⟩) 1 1) (hlen : l.length < 1000000000)
    (h : ∀ v' w', Own w' B e v' (l ++ [c]) → Below B W1 w' → wpList P ops Q rest (a.put o.dst v') w') : wpList P ops Q (o :: rest) a (wr.alloc (.cells #[.int .u8 k] e)) := by
  refine wpList_push hgd s x t ho B e (.int .u8 0) 1 1 ht hi rfl (by decide) v l.length (byteVals l) hs hown hb hBW #[.int .u8 k] hx rfl (by simp [Value.oneCell']) hlen (by omega) fun v' w' ho hb' => h v' w' ?_ hb'
  unfold Own
  rw [byteVals_snoc, List.length_append]
  subst hk
  exact ho
theorem own_str {P : Program} {w : World} {B : Nat} {e src dst : TypeId} {v : Value} {l : List UInt8} (h : Own w B e v l) (hs : P.underlying src = some (.slice e)) (he : P.underlying e = some (.int .u8)) (hd : P.underlying dst = some .string) :
    (convert src dst v).run P w = .ok (.string ⟨l.toArray⟩) w := by
  obtain ⟨⟨h1, h2⟩, hn⟩ := h
  rcases h2 with ⟨rfl, _⟩ | ⟨g, cap, cur, rfl, _, hg, _, _, _, htk⟩
  · exact absurd rfl hn
  · refine run_convert_bytes_back w src dst e ⟨g, 0, none⟩ cap l hs he hd (Lib.bytes_of_row hg ?_)
    simpa [byteVals, Lib.byteCells] using htk
/-- 'string(out)'. -/
theorem wpList_str {P : Program} {w : World} {ops : Array Oper} {rest : List Oper} {o : Oper} {a : Act} {Q : Exit → Act → World → Prop} (hgd : o.guard = none) (x : Operand) (src dst : TypeId) (ho : o.op = .convert src dst x)
    (B : Nat) (e : TypeId) (hs : P.underlying src = some (.slice e)) (he : P.underlying e = some (.int .u8)) (hd : P.underlying dst = some .string) (l : List UInt8) (hown : Own w B e (a.eval x) l)
    (h : wpList P ops Q rest (a.put o.dst (.string ⟨l.toArray⟩)) w) : wpList P ops Q (o :: rest) a w := by
  refine wpList_plain hgd fun K hK => ?_
  unfold Oper.wp execOp
  simp only [ho, own_str hown hs he hd, Sem.run_bind, Result.andThen_ok, Sem.run_pure]
  exact hK _ _ h
theorem info5 : (Tryd.prog.info? 5).map (fun i => (i.zero, i.size, i.bytes)) = some (some (.int .u8 0), 1, 1) := by kernel_rfl
/-- The sign of a cell. -/
def sign (b : Bool) : UInt8 := if b then 35 else 46
/-- The first x signs of row y. -/
def rowTo (zs : List Int) (y x : Nat) : List UInt8 := (List.range x).map fun i => sign (has zs i y)
/-- The text of the first y rows. -/
def textTo (zs : List Int) (y : Nat) : List UInt8 := (List.range y).flatMap fun j => rowTo zs j 16 ++ [10]
theorem rowTo_snoc (zs : List Int) (y x : Nat) : rowTo zs y (x + 1) = rowTo zs y x ++ [sign (has zs x y)] := by simp [rowTo, List.range_succ]
theorem textTo_snoc (zs : List Int) (y : Nat) : textTo zs (y + 1) = textTo zs y ++ rowTo zs y 16 ++ [10] := by simp [textTo, List.range_succ]
theorem rowTo_len (zs : List Int) (y x : Nat) : (rowTo zs y x).length = x := by simp [rowTo]
theorem textTo_len (zs : List Int) (y : Nat) : (textTo zs y).length = 17 * y := by
  induction y with
  | zero => rfl
  | succ y ih => rw [textTo_snoc]; simp [ih, rowTo_len]; omega
set_option maxHeartbeats 400000 in
theorem has_any (zs : List Int) (hz : zs.length = 16) (b x y : Nat) (hx : x < 16) (hy : y < 16) (w : World) (hb : w.heap[b]? = some (.cells (mk zs) 24 (0, 0))) :
    Calls Tryd.prog 10 #[.pointer (some ⟨b, 0, none⟩), .int .i64 x, .int .i64 y] w fun e w' => e = .returned (.bool (has zs x y)) ∧ w = w' := by
  have g1 : w.cell? ⟨b, y, none⟩ = some (.int .u16 (nth zs y)) := by rw [cell_of_row w b y _ _ _ hb]; exact mk_get zs y (by omega)
  have i1 : (x : Int) ≤ 15 := by omega
  have i2 : (y : Int) ≤ 15 := by omega
  clear hb
  go_enter Tryd.func10, Tryd.ntmps10
  go_wp2
  go_ret
  exact ⟨rfl, rfl⟩
set_option maxHeartbeats 800000 in
theorem sText (zs : List Int) (hz : zs.length = 16) (w : World) :
    Calls Tryd.prog 7 #[.agg (mk zs)] w fun e w' => e = .returned (.string ⟨(textTo zs 16).toArray⟩) ∧ Below w.heap.size w w' := by
  go_enter Tryd.func7, Tryd.ntmps7
  go_wp2
  go_loopw [3, 4] (fun v y wr => ∃ k : Nat, k ≤ 16 ∧ y = .int .i64 k ∧ Own wr (w.heap.size + 1) 5 v (textTo zs k) ∧ Below (w.heap.size + 1) (w.alloc (.cells (mk zs) 24)) wr) (fun _ y _ => 16 - (intOf y).toNat)
  case atStart => exact ⟨0, by omega, rfl, by have := own_made (w.alloc (.cells (mk zs) 24)) (w.heap.size + 1) 5 (by simp); rw [size_al] at this; exact this, (Below.refl _ _).alloc (by simp) _⟩
  case round =>
    obtain ⟨k, hk, rfl, hown, hbel⟩ := hrel
    obtain ⟨wo, rfl⟩ : ∃ wo : World, wo = wr := ⟨_, rfl⟩
    by_cases hlt : k < 16
    · have tl := textTo_len zs k
      have i1 : (k : Int) < 16 := by omega
      go_wp2
      go_loopw [3, 5] (fun v x wr => ∃ j : Nat, j ≤ 16 ∧ x = .int .i64 j ∧ Own wr (w.heap.size + 1) 5 v (textTo zs k ++ rowTo zs k j) ∧ Below (w.heap.size + 1) (w.alloc (.cells (mk zs) 24)) wr) (fun _ x _ => 16 - (intOf x).toNat)
      case atStart => exact ⟨0, by omega, rfl, by simpa [rowTo] using hown, hbel⟩
      case round =>
        obtain ⟨j, hj, rfl, hown2, hbel2⟩ := hrel
        have ll : (textTo zs k ++ rowTo zs k j).length < 1000000000 := by simp [tl, rowTo_len]; omega
        by_cases hjt : j < 16
        · have hbox : wr.heap[w.heap.size]? = some (.cells (mk zs) 24 (0, 0)) := by rw [hbel2.block _ (by omega)]; exact one_first _ _
          have HB := Lib.hid hbox
          clear hbox hown tl
          have rs := rowTo_snoc zs k j
          have HR := Lib.hid rs
          clear rs
          cases hh : has zs j k
          all_goals
            go_wp2_with (first
              | (go_at_call 10; refine (has_any zs hz _ j k hjt hlt _ HB.out).mono ?_; rintro e w1 ⟨rfl, rfl⟩)
              | (at_builtin; refine wpList_pushByte rfl (.tmp 18) (.tmp 19) 33 rfl (w.heap.size + 1) 5 Tryd.underlying33 info5 _ _ 35 35 rfl rfl hown2 hbel2 (by simp) rfl ll ?_)
              | (at_builtin; refine wpList_pushByte rfl (.tmp 21) (.tmp 22) 33 rfl (w.heap.size + 1) 5 Tryd.underlying33 info5 _ _ 46 46 rfl rfl hown2 hbel2 (by simp) rfl ll ?_))
            intro v' w' hO hB
            go_wp2
            go_roundw
            case rel => exact ⟨j + 1, by omega, by go_num, by rw [HR.out, hh]; simpa [sign] using hO, hB⟩
            case measure => simp [intOf]; omega
        · obtain rfl : j = 16 := by omega
          have tn := textTo_snoc zs k
          have HR := Lib.hid tn
          clear tn hown tl
          go_wp2_with (at_builtin; refine wpList_pushByte rfl (.tmp 24) (.tmp 25) 33 rfl (w.heap.size + 1) 5 Tryd.underlying33 info5 _ _ 10 10 rfl rfl hown2 hbel2 (by simp) rfl ll ?_)
          intro v' w' hO hB
          go_wp2
          go_roundw
          case rel => exact ⟨k + 1, by omega, by go_num, by rw [HR.out]; simpa using hO, hB⟩
          case measure => simp [intOf]; omega
    · obtain rfl : k = 16 := by omega
      go_wp2_with (refine wpList_str rfl (.tmp 27) 33 9 rfl (w.heap.size + 1) 5 Tryd.underlying33 Tryd.underlying5 Tryd.underlying9 (textTo zs 16) hown ?_)
      go_ret
      exact ⟨rfl, (below_al (Below.refl _ _) (Nat.le_refl _) _).trans (hbel.mono (by omega))⟩
set_option maxHeartbeats 800000 in
theorem iText (zs : List Int) (hz : zs.length = 16) (w : World) :
    Calls Tryd.prog 9 #[.agg (mk zs)] w fun e w' => e = .returned (.string ⟨(textTo zs 16).toArray⟩) ∧ Below w.heap.size w w' := by
  have hi := infoSize26 zs hz
  go_enter Tryd.func9, Tryd.ntmps9
  go_wp2_with (refine wpList_load_row rfl 24 (.tmp 1) rfl w.heap.size rfl 24 (mk zs) (0, 0) _ (two_first _ _ _) Tryd.underlying24 rfl hi ?_)
  go_loopw [3, 9] (fun v y wr => ∃ k : Nat, k ≤ 16 ∧ y = .int .i64 k ∧ Own wr (w.heap.size + 1) 5 v (textTo zs k) ∧ Below (w.heap.size + 1) (w.alloc (.cells (mk zs) 24)) wr) (fun _ y _ => 16 - (intOf y).toNat)
  case atStart => exact ⟨0, by omega, rfl, by have := own_made (w.alloc (.cells (mk zs) 24)) (w.heap.size + 1) 5 (by simp); rw [size_al] at this; exact this, (Below.refl _ _).alloc (by simp) _⟩
  case round =>
    obtain ⟨k, hk, rfl, hown, hbel⟩ := hrel
    obtain ⟨wo, rfl⟩ : ∃ wo : World, wo = wr := ⟨_, rfl⟩
    by_cases hlt : k < 16
    · have tl := textTo_len zs k
      have i1 : (k : Int) < 16 := by omega
      have hix := run_index_mk zs hz k hlt
      go_wp2
      go_loopw [3, 12] (fun v x wr => ∃ j : Nat, j ≤ 16 ∧ x = .int .i64 j ∧ Own wr (w.heap.size + 1) 5 v (textTo zs k ++ rowTo zs k j) ∧ Below (w.heap.size + 1) (w.alloc (.cells (mk zs) 24)) wr) (fun _ x _ => 16 - (intOf x).toNat)
      case atStart => exact ⟨0, by omega, rfl, by simpa [rowTo] using hown, hbel⟩
      case round =>
        obtain ⟨j, hj, rfl, hown2, hbel2⟩ := hrel
        have ll : (textTo zs k ++ rowTo zs k j).length < 1000000000 := by simp [tl, rowTo_len]; omega
        by_cases hjt : j < 16
        · clear hown tl
          have i2 : (j : Int) < 16 := by omega
          have rs := rowTo_snoc zs k j
          have HR := Lib.hid rs
          clear rs
          cases hh : has zs j k
          all_goals
            have HH := Lib.hid hh
            unfold has at hh
            go_wp2_with (first
              | (at_builtin; refine wpList_pushByte rfl (.tmp 20) (.tmp 21) 33 rfl (w.heap.size + 1) 5 Tryd.underlying33 info5 _ _ 35 35 rfl rfl hown2 hbel2 (by simp) rfl ll ?_)
              | (at_builtin; refine wpList_pushByte rfl (.tmp 23) (.tmp 24) 33 rfl (w.heap.size + 1) 5 Tryd.underlying33 info5 _ _ 46 46 rfl rfl hown2 hbel2 (by simp) rfl ll ?_))
            intro v' w' hO hB
            go_wp2
            go_roundw
            case rel => exact ⟨j + 1, by omega, by go_num, by rw [HR.out, HH.out]; simpa [sign] using hO, hB⟩
            case measure => simp [intOf]; omega
        · obtain rfl : j = 16 := by omega
          have tn := textTo_snoc zs k
          have HR := Lib.hid tn
          clear tn hown tl
          go_wp2_with (at_builtin; refine wpList_pushByte rfl (.tmp 27) (.tmp 28) 33 rfl (w.heap.size + 1) 5 Tryd.underlying33 info5 _ _ 10 10 rfl rfl hown2 hbel2 (by simp) rfl ll ?_)
          intro v' w' hO hB
          go_wp2
          go_roundw
          case rel => exact ⟨k + 1, by omega, by go_num, by rw [HR.out]; simpa using hO, hB⟩
          case measure => simp [intOf]; omega
    · obtain rfl : k = 16 := by omega
      go_wp2_with (refine wpList_str rfl (.tmp 31) 33 9 rfl (w.heap.size + 1) 5 Tryd.underlying33 Tryd.underlying5 Tryd.underlying9 (textTo zs 16) hown ?_)
      go_ret
      exact ⟨rfl, (below_al (Below.refl _ _) (Nat.le_refl _) _).trans (hbel.mono (by omega))⟩
theorem bounds16 {z : Int} (h : (Lit.int .u16 z).wf = true) : 0 ≤ z ∧ z ≤ 65535 := by simpa [Lit.wf, IntKind.min, IntKind.max, IntKind.signed, IntKind.bits] using h
theorem bits_and_u16 (a b : Nat) (ha : a < 65536) (hb : b < 65536) : bits .and .u16 (a : Int) (b : Int) = ((a &&& b : Nat) : Int) := by
  have hx : a &&& b < 2 ^ 16 := Nat.and_lt_two_pow _ (by omega)
  have h1 : (BitVec.ofInt 16 (a : Int)).toNat = a := by
    rw [BitVec.ofInt_natCast, BitVec.toNat_ofNat]; exact Nat.mod_eq_of_lt (by omega)
  have h2 : (BitVec.ofInt 16 (b : Int)).toNat = b := by
    rw [BitVec.ofInt_natCast, BitVec.toNat_ofNat]; exact Nat.mod_eq_of_lt (by omega)
  show IntKind.u16.wrap ((BitVec.ofInt 16 (a : Int) &&& BitVec.ofInt 16 (b : Int)).toNat : Int) = _
  rw [BitVec.toNat_and, h1, h2]
  simp only [IntKind.wrap, IntKind.bits, IntKind.signed, Bool.false_and, Bool.false_eq_true, if_false]
  omega
/-- A row's number, as the walk has it: a natural one below 65536. -/
theorem nth_nat (zs : List Int) (hw : ∀ z ∈ zs, (Lit.int .u16 z).wf = true) (y : Nat) : ∃ n : Nat, nth zs y = n ∧ n < 65536 := by
  unfold nth
  by_cases h : y < zs.length
  · have := bounds16 (hw _ (List.getElem_mem h))
    refine ⟨zs[y].toNat, ?_, ?_⟩
    · simp [List.getElem?_eq_getElem h]; omega
    · omega
  · exact ⟨0, by simp [List.getElem?_eq_none (by omega : zs.length ≤ y)], by omega⟩
theorem has_nat (zs : List Int) (x y n : Nat) (h : nth zs y = n) (hn : n < 65536) : has zs x y = (n / 2 ^ x % 2 == 1) := by
  have e : (n : Int) / 2 ^ x = ((n / 2 ^ x : Nat) : Int) := by simp
  have hlt : n / 2 ^ x < 65536 := Nat.lt_of_le_of_lt (Nat.div_le_self _ _) hn
  unfold has
  rw [h, e, show (1 : Int) = ((1 : Nat) : Int) from rfl, bits_and_u16 _ _ hlt (by omega), Nat.and_one_is_mod]
  rw [Bool.eq_iff_iff]
  simp only [beq_iff_eq]
  omega
/-- An empty mask, stored whole. -/
theorem bz : (Tryd.prog.built 24 []).getD #[] = mk zs0 := by kernel_rfl
theorem bzs : (Tryd.prog.built 24 []).isSome = true := by kernel_rfl
/-- Is the cell with a number set? -/
def hasN (zs : List Int) (i : Nat) : Bool := has zs (i % 16) (i / 16)
theorem bits_or_u16 (a b : Nat) (ha : a < 65536) (hb : b < 65536) : bits .or .u16 (a : Int) (b : Int) = ((a ||| b : Nat) : Int) := by
  have hx : a ||| b < 2 ^ 16 := Nat.or_lt_two_pow (by omega) (by omega)
  have h1 : (BitVec.ofInt 16 (a : Int)).toNat = a := by
    rw [BitVec.ofInt_natCast, BitVec.toNat_ofNat]; exact Nat.mod_eq_of_lt (by omega)
  have h2 : (BitVec.ofInt 16 (b : Int)).toNat = b := by
    rw [BitVec.ofInt_natCast, BitVec.toNat_ofNat]; exact Nat.mod_eq_of_lt (by omega)
  show IntKind.u16.wrap ((BitVec.ofInt 16 (a : Int) ||| BitVec.ofInt 16 (b : Int)).toNat : Int) = _
  rw [BitVec.toNat_or, h1, h2]
  simp only [IntKind.wrap, IntKind.bits, IntKind.signed, Bool.false_and, Bool.false_eq_true, if_false]
  omega
/-- A cell set in a mask. -/
def put (zs : List Int) (t : Nat) : List Int := zs.set (t / 16) (bits BinOp.or IntKind.u16 (nth zs (t / 16)) (IntKind.u16.wrap (2 ^ (t % 16))))
/-- The mask's cells before number t, and no others. -/
def upM (zs : List Int) : Nat → List Int
  | 0 => zs0
  | t + 1 => if hasN zs t then put (upM zs t) t else upM zs t
theorem upM_len (zs : List Int) : ∀ t, (upM zs t).length = 16
  | 0 => rfl
  | t + 1 => by
    show (if _ then _ else _ : List Int).length = 16
    split
    · show ((upM zs t).set _ _).length = 16
      rw [List.length_set, upM_len zs t]
    · exact upM_len zs t
theorem nth_set (zs : List Int) (k j : Nat) (z : Int) (h : k < zs.length) : nth (zs.set k z) j = if k = j then z else nth zs j := by
  unfold nth
  rw [List.getD_eq_getElem?_getD, List.getElem?_set, List.getD_eq_getElem?_getD]
  by_cases e : k = j
  · subst e; rw [if_pos rfl, if_pos rfl, if_pos h]; rfl
  · rw [if_neg e, if_neg e]
theorem wrap_pow {x : Nat} (h : x < 16) : IntKind.u16.wrap (2 ^ x) = ((2 ^ x : Nat) : Int) := by
  have : ∀ x, x < 16 → IntKind.u16.wrap (2 ^ x) = ((2 ^ x : Nat) : Int) := by decide
  exact this x h
theorem upM_row (zs : List Int) (hw : ∀ z ∈ zs, (Lit.int .u16 z).wf = true) : ∀ t, t ≤ 256 → ∀ y, y < 16 → ∀ n : Nat, nth zs y = n → n < 65536 → nth (upM zs t) y = ((n % 2 ^ (min (t - 16 * y) 16) : Nat) : Int)
  | 0, _, y, hy, n, hn, hl => by
    rw [Nat.zero_sub, Nat.zero_min, Nat.pow_zero, Nat.mod_one]
    have : ∀ y, y < 16 → nth zs0 y = 0 := by decide
    exact this y hy
  | t + 1, ht, y, hy, n, hn, hl => by
    have ih := upM_row zs hw t (by omega) y hy n hn hl
    show nth (if hasN zs t then put (upM zs t) t else upM zs t) y = _
    by_cases e : t / 16 = y
    · have hx : t % 16 < 16 := Nat.mod_lt _ (by omega)
      have e1 : min (t - 16 * y) 16 = t % 16 := by omega
      have e2 : min (t + 1 - 16 * y) 16 = t % 16 + 1 := by omega
      rw [e1] at ih
      rw [e2, Nat.mod_pow_succ]
      have hb : hasN zs t = (n / 2 ^ (t % 16) % 2 == 1) := by
        unfold hasN
        rw [e]; exact has_nat zs _ y n hn hl
      have hlow : n % 2 ^ (t % 16) < 2 ^ (t % 16) := Nat.mod_lt _ (Nat.two_pow_pos _)
      have hp : 2 ^ (t % 16) ≤ 2 ^ 15 := Nat.pow_le_pow_right (by omega) (by omega)
      rcases Nat.mod_two_eq_zero_or_one (n / 2 ^ (t % 16)) with h0 | h1
      · rw [hb, h0, if_neg (by simp), ih]; simp
      · rw [hb, h1, if_pos (by simp)]
        unfold put
        rw [nth_set _ _ _ _ (by rw [upM_len]; omega), if_pos e, e, ih, wrap_pow hx, bits_or_u16 _ _ (by omega) (by omega), Nat.or_comm]
        have := Nat.two_pow_add_eq_or_of_lt hlow 1
        rw [Nat.mul_one] at this
        rw [← this, Nat.mul_one, Nat.add_comm]
    · have e3 : min (t + 1 - 16 * y) 16 = min (t - 16 * y) 16 := by omega
      rw [e3]
      split
      · unfold put
        rw [nth_set _ _ _ _ (by rw [upM_len]; omega), if_neg e]; exact ih
      · exact ih
theorem upM_all (zs : List Int) (hz : zs.length = 16) (hw : ∀ z ∈ zs, (Lit.int .u16 z).wf = true) : upM zs 256 = zs := by
  apply List.ext_getElem (by rw [upM_len, hz])
  intro y h1 h2
  have hy : y < 16 := by omega
  obtain ⟨n, hn, hl⟩ := nth_nat zs hw y
  have := upM_row zs hw 256 (Nat.le_refl _) y hy n hn hl
  have e : min (256 - 16 * y) 16 = 16 := by omega
  rw [e, Nat.mod_eq_of_lt (by omega), ← hn] at this
  unfold nth at this
  rw [List.getD_eq_getElem?_getD, List.getD_eq_getElem?_getD, List.getElem?_eq_getElem h1, List.getElem?_eq_getElem h2] at this
  exact this
def WfM (zs : List Int) : Prop := zs.length = 16 ∧ ∀ z ∈ zs, (Lit.int .u16 z).wf = true
theorem wf_wrapU (e : Int) : (Lit.int .u16 (IntKind.u16.wrap e)).wf = true := by
  simp [Lit.wf, IntKind.wrap, IntKind.min, IntKind.max, IntKind.signed, IntKind.bits]; omega
theorem wfM_zero : WfM zs0 := ⟨rfl, by decide⟩
theorem wfM_put {zs : List Int} (h : WfM zs) (t : Nat) : WfM (put zs t) := by
  refine ⟨by rw [← h.1]; unfold put; simp, fun z hz => ?_⟩
  unfold put at hz
  rcases List.mem_or_eq_of_mem_set hz with hz | rfl
  · exact h.2 z hz
  · unfold bits
    exact wf_wrapU _
/-- Cells that are not set, up to the last one. -/
theorem upM_rest {z0 : List Int} {a : Nat} (h : ∀ t, a ≤ t → t < 256 → hasN z0 t = false) : ∀ n, a + n ≤ 256 → upM z0 (a + n) = upM z0 a
  | 0, _ => rfl
  | n + 1, hn => by
    show (if hasN z0 (a + n) then put (upM z0 (a + n)) (a + n) else upM z0 (a + n)) = _
    rw [h _ (by omega) (by omega), if_neg (by simp)]
    exact upM_rest h n (by omega)
theorem put_row {w : World} {M y : Nat} {v : Value} {cs : Array Value} {t : TypeId} {fr : Nat × Nat} (h : w.heap[M]? = some (.cells cs t fr)) : (w.setCell ⟨M, y, none⟩ v).heap[M]? = some (.cells (cs.setIfInBounds y v) t fr) := by
  simp [World.setCell, Array.getElem?_modify, h]
theorem put_other {w : World} {M g y : Nat} {v : Value} (h : M ≠ g) : (w.setCell ⟨M, y, none⟩ v).heap[g]? = w.heap[g]? := by
  simp [World.setCell, Array.getElem?_modify, h]
/-- The world in which a mask grows: the result's box, the mask's box. -/
def Gr (w wr : World) (zs : List Int) : Prop := wr.heap[w.heap.size]? = some (.cells (mk zs0) 24 (0, 0)) ∧ wr.heap[w.heap.size + 1]? = some (.cells (mk zs) 24 (0, 0)) ∧ Below w.heap.size w wr
theorem gr_start (w : World) : Gr w (((w.alloc (.cells (mk zs0) 24)).alloc (.cells (mk zs0) 24)).setRow (w.heap.size + 1) (mk zs0)) zs0 := by
  have h := St.fresh (St.one w (.cells (mk zs0) 24)) (mk zs0) (mk zs0) 24
  rw [size_al] at h
  exact ⟨h.get 0 rfl, h.get 1 rfl, h.below⟩
theorem Gr.drewN {w wr : World} {zs : List Int} (h : Gr w wr zs) (q : Nat) : Gr w (wr.drewN q) zs := ⟨h.1, h.2.1, below_drewN h.2.2 q⟩
theorem Gr.put {w wr : World} {zs : List Int} (h : Gr w wr zs) (y : Nat) (z : Int) : Gr w (wr.setCell ⟨w.heap.size + 1, y, none⟩ (.int .u16 z)) (zs.set y z) :=
  ⟨(put_other (by omega)).trans h.1, by rw [put_row h.2.1, mk_set], h.2.2.setCell (p := ⟨w.heap.size + 1, y, none⟩) (by show _ ≤ w.heap.size + 1; omega) _⟩
theorem Gr.cell {w wr : World} {zs : List Int} (h : Gr w wr zs) {y : Nat} (hy : y < zs.length) : wr.cell? ⟨w.heap.size + 1, y, none⟩ = some (.int .u16 (nth zs y)) := by
  simp [World.cell?, h.2.1, mk_get zs y hy]
theorem Gr.free {w wr : World} {zs : List Int} (h : Gr w wr zs) (y : Nat) : wr.frozen? ⟨w.heap.size + 1, y, none⟩ = false := by
  simp [World.frozen?, h.2.1]
theorem Gr.any {w wr : World} {zs : List Int} (h : Gr w wr zs) (t : Nat) : Gr w (wr.setCell ⟨w.heap.size + 1, t / 16, none⟩ (.int .u16 (bits BinOp.or IntKind.u16 (nth zs (t / 16)) (IntKind.u16.wrap (2 ^ (t % 16)))))) (Go.Proofs.YtbkbjiifklhgiaaDoor.put zs t) := h.put _ _
end Go.Proofs.YtbkbjiifklhgiaaDoor
