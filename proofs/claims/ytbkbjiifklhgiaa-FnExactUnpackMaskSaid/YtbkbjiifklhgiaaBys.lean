/- UnpackMask: lists of bytes that came in, and the copy. Conditions: none. -/
import Derived.Test.YtbkbjiifklhgiaaUnp
import Derived.Test.YtbkbjiifklhgiaaMofl
namespace Go.Proofs.Ytbkbjiifklhgiaa
open Go.RowKit
set_option linter.unusedVariables false

/-- Bytes lie at A. -/
def Bys (w : World) (A : Option Addr) (l : List UInt8) : Prop :=
  0 < l.length → ∃ b o, A = some ⟨b, o, none⟩ ∧ b < w.heap.size ∧ ∀ j, j < l.length → w.cell? ⟨b, o + j, none⟩ = some (.int .u8 (bt l j))
theorem Bys.call {w w' : World} {A : Option Addr} {l : List UInt8} (h : Bys w A l) (hb : Below w.heap.size w w') : Bys w' A l := fun hn => by
  obtain ⟨b, o, h1, h2, h3⟩ := h hn
  exact ⟨b, o, h1, Nat.lt_of_lt_of_le h2 hb.size, fun j hj => (hb.cell (p := ⟨b, o + j, none⟩) h2).trans (h3 j hj)⟩
theorem MB.bys {w : World} {g S : Nat} {l : List UInt8} (h : MB w g 5 S l.length (fun j => .int .u8 (bt l j))) : Bys w (some ⟨g, 0, none⟩) l := fun hn =>
  ⟨g, 0, rfl, h.lt, fun j hj => by rw [Nat.zero_add]; exact h.cell hj⟩
theorem open_bys {H : Type} {enc : TypeId × Value → H} {w : World} {base : Nat} {spare : Nat → Bool} {held : Bool} {t e : TypeId}
    {a : Option Addr} {len cap : Nat} {d : DataW H} {p : List MemPlace} (ht : Try.prog.underlying t = some (.slice e)) (he : Try.prog.underlying e = some (.int .u8)) (hc : Try.prog.cellsOf e = 1)
    (h : DataW.Trod enc Try.prog w base spare held t (.slice a len cap) d p) : ∃ l : List UInt8, l.length = len ∧ l.length ≤ 9223372036854775807 ∧ Bys w a l := by
  obtain ⟨fuel, hf⟩ := h
  rcases Deep.open_slice1 ht hc hf with ⟨h0, _⟩ | ⟨ad, n, cp, m, q, V, D, Pl, h0, hb, hl, hm, hmm, hx, hcell⟩
  · have : (Value.slice a len cap) = .slice none 0 0 := by simpa [Value.cells] using h0
    injection this with h1 h2 h3
    subst h1 h2 h3
    exact ⟨[], rfl, by simp, fun hn => by simp at hn⟩
  · have : (Value.slice a len cap) = .slice (some ad) n cp := by simpa [Value.cells] using h0
    injection this with h1 h2 h3
    subst h1 h2 h3
    have hlm : len ≤ m := by rw [hmm]; split <;> omega
    unfold maxLen at hm
    have key : ∀ i, i < m → ∃ u : UInt8, w.cell? (ad.add i) = some (.int .u8 (u.toNat : Int)) := fun i hi => by
      obtain ⟨c1, c2⟩ := hcell i hi
      obtain ⟨z, hz, _, hw⟩ := DataW.trod_int he c2
      have hv : V i = .int .u8 z := by simpa using hz
      have hb : 0 ≤ z ∧ z ≤ 255 := by simpa [Lit.wf, IntKind.min, IntKind.max, IntKind.signed, IntKind.bits] using hw
      refine ⟨UInt8.ofNat z.toNat, ?_⟩
      rw [c1, hv, UInt8.toNat_ofNat']
      congr 2
      omega
    obtain ⟨U, hU⟩ := Deep.choose_lt key
    refine ⟨(List.range len).map U, by simp, by simp; omega, fun hn => ?_⟩
    simp at hn
    have c0 := hU 0 (by omega)
    rw [show ad.add 0 = ad by simp [Addr.add]] at c0
    have es := spot_none c0
    refine ⟨ad.block, ad.off, by rw [← es], World.block_lt_of_cell? w ad c0, fun j hj => ?_⟩
    simp at hj
    have c1 := hU j (by omega)
    rw [es, Addr.add_mid] at c1
    rw [c1]
    simp [bt, hj]

theorem info5f : (Try.prog.info? 5).map (fun i => (i.zero, i.size, i.bytes)) = some (some (.int .u8 0), 1, 1) := by kernel_rfl
set_option maxHeartbeats 1600000 in
theorem toBys_any (A : Option Addr) (c : Nat) (l : List UInt8) (hn : l.length ≤ 1048576) (w : World) (h : Bys w A l) :
    Calls Try.prog 64 #[.slice A l.length c] w fun e w' => ∃ g cur, e = .returned (.slice (some ⟨g, 0, none⟩) l.length l.length) ∧ w.heap.size ≤ g ∧ w'.heap[g]? = some (.cells cur 5 (0, 0)) ∧ cur.size = l.length ∧ (∀ j, j < l.length → cur[j]? = some (.int .u8 (bt l j))) ∧ Below w.heap.size w w' := by
  have H := Lib.hid h
  obtain ⟨n, hln⟩ : ∃ n, n = l.length := ⟨_, rfl⟩
  have HL := Lib.hid hln
  rw [← hln] at hn ⊢
  clear h hln
  obtain ⟨G, hG⟩ : ∃ G, G = w.heap.size := ⟨_, rfl⟩
  have HG := Lib.hid hG
  go_enter Try.func64, Try.ntmps64
  go_wp2_with (refine wpList_mk rfl (.tmp 6) (.tmp 6) 45 5 rfl (.int .u8 0) 1 1 n Try.underlying45 info5f rfl rfl (by omega) (by omega) ?_)
  have m0 : MB (w.alloc (.cells (madeCells #[Value.int .u8 0] n) 5)) w.heap.size 5 n 0 (fun j => .int .u8 (bt l j)) := ⟨_, one_first _ _, by simp [madeCells], by omega, fun j hj => by omega⟩
  have b0 : Below w.heap.size w (w.alloc (.cells (madeCells #[Value.int .u8 0] n) 5)) := below_al (Below.refl _ _) (Nat.le_refl _) _
  have M0 := Lib.hid m0
  have B0 := Lib.hid b0
  clear m0 b0
  rw [← HG.out] at M0 ⊢
  clear hG
  go_loopw [4] (fun i wr => ∃ k : Nat, k ≤ n ∧ i = .int .i64 k ∧ MB wr G 5 n k (fun j => .int .u8 (bt l j)) ∧ Below w.heap.size w wr) (fun i _ => n - (intOf i).toNat)
  case atStart => exact ⟨0, by omega, rfl, M0.out, B0.out⟩
  case round =>
    obtain ⟨k, hk, rfl, hm, hb⟩ := hrel
    by_cases hlt : k < n
    · have i0 : (0 : Int) ≤ k := by omega
      have i1 : (k : Int) < n := by omega
      obtain ⟨b, o, rfl, hbl, hc⟩ := H.out (by rw [← HL.out]; omega)
      obtain ⟨z, hz⟩ : ∃ z, z = bt l k := ⟨_, rfl⟩
      have ca : wr.cell? ⟨b, o + k, none⟩ = some (.int .u8 z) := (hb.cell (p := ⟨b, o + k, none⟩) hbl).trans (by rw [hz]; exact hc k (by rw [← HL.out]; omega))
      obtain ⟨v, hv⟩ := hm.some_ (j := k) (by omega)
      have fm := hm.free k
      have HM := Lib.hid hm
      have HB := Lib.hid hb
      have HZ := Lib.hid hz
      clear hm hb hc hz
      go_wp2
      go_roundw
      case rel => exact ⟨k + 1, by omega, by go_num, by rw [HZ.out]; exact HM.out.put (by omega), HB.out.setCell (p := ⟨G, k, none⟩) (by rw [HG.out]; exact Nat.le_refl _) _⟩
      case measure => simp [intOf]; omega
    · obtain rfl : k = n := by omega
      obtain ⟨cur, k1, k2, k3, k4⟩ := hm
      go_wp2
      go_ret
      exact ⟨G, rfl, by rw [HG.out]; exact Nat.le_refl _, cur, k1, k2, k4, hb⟩
end Go.Proofs.Ytbkbjiifklhgiaa
