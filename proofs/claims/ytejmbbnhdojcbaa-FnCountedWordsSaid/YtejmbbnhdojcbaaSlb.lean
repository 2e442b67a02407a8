/- Bytes out of a text, in a new block. Conditions: none. -/
import Derived.Test.YtejmbbnhdojcbaaWds
import Derived.Lib.ConvBytes
import Derived.Below
namespace Go.Proofs.Ytejmbbnhdojcbaa
open Go.RowKit
set_option linter.unusedVariables false

theorem below_bytes (w : World) (e : TypeId) (s : ByteArray) : Below w.heap.size w (Lib.bytesWorld w e s) :=
  ⟨by simp [Lib.bytesWorld, World.freeze, World.alloc, World.drew, -World.alloc_eq, -World.drew_eq], by simp [Lib.bytesWorld, World.freeze, World.alloc, World.drew, -World.alloc_eq, -World.drew_eq], by simp [Lib.bytesWorld, World.freeze, World.alloc, World.drew, -World.alloc_eq, -World.drew_eq], by rw [Lib.bytesWorld_size]; omega, fun j hj => Lib.bytesWorld_at_old w e s j hj⟩
/-- A block that holds the bytes l. -/
def Byts (w : World) (B : Nat) (l : List UInt8) : Prop := B < w.heap.size ∧ ∀ j, j < l.length → w.cell? ⟨B, j, none⟩ = some (.int .u8 (atb l j).toNat)
theorem cell_below {w w' : World} {B C : Nat} (hb : Below C w w') (h : B < C) (j : Nat) : w'.cell? ⟨B, j, none⟩ = w.cell? ⟨B, j, none⟩ := by
  simp [World.cell?, hb.block B h]
theorem Byts.below {w w' : World} {B : Nat} {l : List UInt8} (h : Byts w B l) (hb : Below w.heap.size w w') : Byts w' B l :=
  ⟨Nat.lt_of_lt_of_le h.1 hb.size, fun j hj => by rw [cell_below hb h.1]; exact h.2 j hj⟩
theorem Byts.drewN {w : World} {B : Nat} {l : List UInt8} (h : Byts w B l) (n : Nat) : Byts (w.drewN n) B l := h
theorem Byts.at {w : World} {B : Nat} {l : List UInt8} (h : Byts w B l) {j : Nat} (hj : j < l.length) : w.cell? ⟨B, j, none⟩ = some (.int .u8 (atb l j).toNat) := h.2 j hj
/-- '[]byte(s)'. -/
theorem wpList_bytes {P : Program} {w : World} {ops : Array Oper} {rest : List Oper} {o : Oper} {a : Act} {Q : Exit → Act → World → Prop} (hgd : o.guard = none) (x : Operand) (src dst : TypeId) (ho : o.op = .convert src dst x)
    (e : TypeId) {u : TypeDesc} (hs : P.underlying src = some u) (hd : P.underlying dst = some (.slice e)) (he : P.underlying e = some (.int .u8)) (l : List UInt8) (hx : a.eval x = .string (bs l))
    (h : ∀ cap w', Below w.heap.size w w' → Byts w' w.heap.size l → wpList P ops Q rest (a.put o.dst (.slice (some ⟨w.heap.size, 0, none⟩) l.length cap)) w') : wpList P ops Q (o :: rest) a w := by
  refine wpList_plain hgd fun K hK => ?_
  unfold Oper.wp execOp
  have hsz : (bs l).size = l.length := rfl
  have key := Lib.run_convert_string_bytes (P := P) w src dst e (bs l) hs hd he
  simp only [ho, hx, key, Sem.run_bind, Result.andThen_ok, Sem.run_pure]
  refine hK _ _ (h _ _ (below_bytes w e (bs l)) ⟨by rw [Lib.bytesWorld_size]; omega, fun j hj => ?_⟩)
  rw [Lib.bytesWorld_cell w e (bs l) j hj]
  rfl
end Go.Proofs.Ytejmbbnhdojcbaa
