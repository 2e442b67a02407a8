/- Rows that a call makes and appends to: bytes, and cells of whatever element; the text out of bytes. Conditions: none. -/
import Derived.Test.YtejmbbnhdojcbaaRows
import Derived.WalkKit
import Derived.WalkSpells
import Derived.WalkLawsBesides
import Derived.Lib.BufferRead
import Derived.Lib.Hide
namespace Go.Proofs.Ytejmbbnhdojcbaa
open Go.RowKit

/-- A row of the call's own, above B, of n elements of type e (size cells each): its cells are xs; it is not nil. -/
def Row (w : World) (B : Nat) (e : TypeId) (size : Nat) (v : Value) (n : Nat) (xs : List Value) : Prop := w.ownsRow B e size v n xs ∧ v ≠ .slice none 0 0
theorem row_made (w : World) (B : Nat) (e : TypeId) (size : Nat) (hB : B ≤ w.heap.size) : Row (w.alloc (.cells #[] e)) B e size (.slice (some ⟨w.heap.size, 0, none⟩) 0 0) 0 [] :=
  ⟨World.ownsRow_made w #[] 0 hB (by unfold maxLen; omega) (by simp), by simp⟩

/-- 'append(out, x)', x laid in a new block: the row has one element more; below B nothing has turned. -/
theorem wpList_push {P : Program} {W1 wr : World} {ops : Array Oper} {rest : List Oper} {o : Oper} {a : Act} {Q : Exit → Act → World → Prop} (hgd : o.guard = none) (s x : Operand) (t : TypeId)
    (ho : o.op = .call { callee := .builtin .append, args := #[s, x], argTypes := #[t, t] })
    (B : Nat) (e : TypeId) (z : Value) (size bytes : Nat) (ht : P.underlying t = some (.slice e)) (hi : (P.info? e).map (fun i => (i.zero, i.size, i.bytes)) = some (some z, size, bytes))
    (hzs : z.cells.size = size) (hsz : 0 < size) (v : Value) (n : Nat) (xs : List Value) (hs : a.eval s = v) (hown : Row wr B e size v n xs) (hb : Below B W1 wr) (hBW : B ≤ W1.heap.size)
    (news : Array Value) (hx : a.eval x = .slice (some ⟨wr.heap.size, 0, none⟩) 1 1) (hn : news.size = size) (h1 : news.all (·.oneCell') = true) (hlen : n < 1000000000) (hby : bytes ≤ 1000)
    (h : ∀ v' w', Row w' B e size v' (n + 1) (xs ++ news.toList) → Below B W1 w' → wpList P ops Q rest (a.put o.dst v') w') : wpList P ops Q (o :: rest) a (wr.alloc (.cells news e)) := by
  obtain ⟨i, hi0, hz, hsize, hbytes⟩ := info_parts hi
  have hlt := hown.1.lt
  refine wpList_append_own (wr.alloc (.cells news e)) hgd s x t ho B e i z size bytes ht hi0 hz hsize hbytes hzs hsz v n xs hs (hown.1.alloc _) ⟨wr.heap.size, 0, none⟩ 1 1 news.toList hx (by simpa using hn) ?_ ?_
    (by unfold maxLen; omega) ?_ ?_ ?_
  · intro j u hj
    have hadd : (⟨wr.heap.size, 0, none⟩ : Addr).add j = ⟨wr.heap.size, j, none⟩ := by unfold Addr.add; split <;> simp_all
    rw [hadd, cell_of_row _ _ j news e (0, 0) (heap_alloc_new wr _)]
    simpa using hj
  · intro u hu
    exact Array.all_eq_true_iff_forall_mem.1 h1 u (by simpa using hu)
  · have : (n + 1) * bytes ≤ 1000000000 * 1000 := Nat.mul_le_mul (by omega) hby
    omega
  · have := hb.size; simp; omega
  · intro v' w' hown' hg hnil
    refine h v' w' ⟨hown', fun e => ?_⟩ ((hb.alloc (Nat.le_trans hBW hb.size) _).grown hg (by have := hb.size; simp; omega) (fun k hk => (hlt k hk).1))
    have := (hnil.1 e).2
    omega

/-- Bytes as the cells of a row. -/
def byteVals (l : List UInt8) : List Value := l.map fun c => Value.int .u8 (c.toNat : Int)
theorem byteVals_snoc (l : List UInt8) (c : UInt8) : byteVals (l ++ [c]) = byteVals l ++ [.int .u8 (c.toNat : Int)] := by simp [byteVals]
/-- A row of bytes of the call's own. -/
def Own (w : World) (B : Nat) (e : TypeId) (v : Value) (l : List UInt8) : Prop := Row w B e 1 v l.length (byteVals l)
theorem own_made (w : World) (B : Nat) (e : TypeId) (hB : B ≤ w.heap.size) : Own (w.alloc (.cells #[] e)) B e (.slice (some ⟨w.heap.size, 0, none⟩) 0 0) [] := row_made w B e 1 hB

/-- 'append(out, c)', a byte. -/
theorem wpList_pushByte {P : Program} {W1 wr : World} {ops : Array Oper} {rest : List Oper} {o : Oper} {a : Act} {Q : Exit → Act → World → Prop} (hgd : o.guard = none) (s x : Operand) (t : TypeId)
    (ho : o.op = .call { callee := .builtin .append, args := #[s, x], argTypes := #[t, t] })
    (B : Nat) (e : TypeId) (ht : P.underlying t = some (.slice e)) (hi : (P.info? e).map (fun i => (i.zero, i.size, i.bytes)) = some (some (.int .u8 0), 1, 1))
    (v : Value) (l : List UInt8) (c : UInt8) (k : Int) (hk : k = (c.toNat : Int)) (hs : a.eval s = v) (hown : Own wr B e v l) (hb : Below B W1 wr) (hBW : B ≤ W1.heap.size)
    (hx : a.eval x = .slice (some ⟨wr.heap.size, 0, none⟩) 1 1) (hlen : l.length < 1000000000)
    (h : ∀ v' w', Own w' B e v' (l ++ [c]) → Below B W1 w' → wpList P ops Q rest (a.put o.dst v') w') : wpList P ops Q (o :: rest) a (wr.alloc (.cells #[.int .u8 k] e)) := by
  refine wpList_push hgd s x t ho B e (.int .u8 0) 1 1 ht hi rfl (by decide) v l.length (byteVals l) hs hown hb hBW #[.int .u8 k] hx rfl (by simp [Value.oneCell']) hlen (by omega) fun v' w' ho hb' => h v' w' ?_ hb'
  unfold Own
  rw [byteVals_snoc, List.length_append]
  subst hk
  exact ho

theorem own_str {P : Program} {w : World} {B : Nat} {e src dst : TypeId} {v : Value} {l : List UInt8} (h : Own w B e v l) (hs : P.underlying src = some (.slice e)) (he : P.underlying e = some (.int .u8)) (hd : P.underlying dst = some .string) :
    (convert src dst v).run P w = .ok (.string ⟨l.toArray⟩) w := by
  obtain ⟨⟨h1, h2⟩, hn⟩ := h
  rcases h2 with ⟨rfl, _⟩ | ⟨g, cap, cur, rfl, _, hg, _, _, _, htk⟩
  · exact absurd rfl hn
  · refine run_convert_bytes_back w src dst e ⟨g, 0, none⟩ cap l hs he hd (Lib.bytes_of_row hg ?_)
    simpa [byteVals, Lib.byteCells] using htk

/-- 'string(out)'. -/
theorem wpList_str {P : Program} {w : World} {ops : Array Oper} {rest : List Oper} {o : Oper} {a : Act} {Q : Exit → Act → World → Prop} (hgd : o.guard = none) (x : Operand) (src dst : TypeId) (ho : o.op = .convert src dst x)
    (B : Nat) (e : TypeId) (hs : P.underlying src = some (.slice e)) (he : P.underlying e = some (.int .u8)) (hd : P.underlying dst = some .string) (l : List UInt8) (hown : Own w B e (a.eval x) l)
    (h : wpList P ops Q rest (a.put o.dst (.string ⟨l.toArray⟩)) w) : wpList P ops Q (o :: rest) a w := by
  refine wpList_plain hgd fun K hK => ?_
  unfold Oper.wp execOp
  simp only [ho, own_str hown hs he hd, Sem.run_bind, Result.andThen_ok, Sem.run_pure]
  exact hK _ _ h

end Go.Proofs.Ytejmbbnhdojcbaa
