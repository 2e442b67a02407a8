/- SamePicture: the opening of the lists, and the walk of the law. Conditions: none. -/
import Derived.Test.YtbkbjiifklhgiaaSaml
import Derived.ChangeSame
namespace Go.Proofs.Ytbkbjiifklhgiaa
open Go.RowKit
set_option linter.unusedVariables false

theorem und90 : ∃ f0 f1 : Field, Try.prog.underlying 90 = some (.struct #[f0, f1]) ∧ f0.type = 35 ∧ f1.type = 23 ∧ f0.offset = 0 ∧ f1.offset = 2 := ⟨_, _, Try.underlying90, rfl, rfl, rfl, rfl⟩
theorem open_bls {H : Type} {enc : TypeId × Value → H} {w : World} {base : Nat} {spare : Nat → Bool} {held : Bool}
    {a : Option Addr} {len cap : Nat} {d : DataW H} {p : List MemPlace} (h : DataW.Trod enc Try.prog w base spare held 57 (.slice a len cap) d p) :
    ∃ XY : (Nat → List Int) × (Nat → List Int), len ≤ 9223372036854775807 ∧ Bls w a len XY.1 XY.2 ∧ ∀ k, k < len → (XY.1 k).length = 2 ∧ (XY.2 k).length = 16 := by
  obtain ⟨fuel, hf⟩ := h
  rcases Deep.open_slice Try.underlying57 hf with ⟨h0, _⟩ | ⟨ad, n, cp, m, q, D, Pl, h0, hb, hl, hm, hmm, hx, hcell⟩
  · have : (Value.slice a len cap) = .slice none 0 0 := by simpa [Value.cells] using h0
    injection this with h1 h2 h3
    subst h1 h2 h3
    exact ⟨(fun _ => [], fun _ => []), by omega, fun hn => by omega, fun j hj => by omega⟩
  · have : (Value.slice a len cap) = .slice (some ad) n cp := by simpa [Value.cells] using h0
    injection this with h1 h2 h3
    subst h1 h2 h3
    have hlm : len ≤ m := by rw [hmm]; split <;> omega
    unfold maxLen at hm
    have hc90 : Try.prog.cellsOf 90 = 18 := by kernel_rfl
    have hc35 : Try.prog.cellsOf 35 = 2 := by kernel_rfl
    have hc23 : Try.prog.cellsOf 23 = 16 := by kernel_rfl
    have hc21 : Try.prog.cellsOf 21 = 1 := by kernel_rfl
    have hc22 : Try.prog.cellsOf 22 = 1 := by kernel_rfl
    rw [hc90] at hcell
    obtain ⟨f0, f1, hu, t0, t1, o0, o1⟩ := und90
    have key : ∀ i, i < m → ∃ xy : List Int × List Int, xy.1.length = 2 ∧ xy.2.length = 16 ∧ ∀ k, k < 18 → w.cell? ((ad.add (i * 18)).add k) = (blk xy.1 xy.2)[k]? := fun i hi => by
      obtain ⟨cs, c1, c2⟩ := hcell i hi
      obtain ⟨_, l1, l2⟩ := World.cells?_some c1
      obtain ⟨y0, y1, n', _, hlen, e0, e1⟩ := Go.ChangeShapes.trod_struct2 hu c2
      rw [t0, o0, hc35] at e0
      rw [t1, o1, hc23] at e1
      obtain ⟨xs, x1, x2, _⟩ := trod_arr Try.underlying35 Try.underlying21 hc21 hc35 e0
      obtain ⟨ys, z1, z2, _⟩ := trod_arr Try.underlying23 Try.underlying22 hc22 hc23 e1
      refine ⟨(xs, ys), x1, z1, fun k hk => ?_⟩
      rw [l2 k hk]
      have hcs : cs = blk xs ys := by
        show cs = xs.map (Value.int .i32) ++ ys.map (Value.int .u16)
        rw [← x2, ← z2]
        have e16 : (cs.drop 2).take 16 = cs.drop 2 := List.take_of_length_le (by simp [l1])
        rw [e16, List.drop_zero, List.take_append_drop]
      rw [hcs]
    obtain ⟨Z, hZ⟩ := Deep.choose_lt key
    refine ⟨(fun k => (Z k).1, fun k => (Z k).2), by omega, fun hn => ?_, fun k hk => ⟨(hZ k (by omega)).1, (hZ k (by omega)).2.1⟩⟩
    have c0 := (hZ 0 (by omega)).2.2 0 (by omega)
    rw [show (ad.add (0 * 18)).add 0 = ad by simp [Addr.add]] at c0
    have hz0 := blk_len (hZ 0 (by omega)).1 (hZ 0 (by omega)).2.1
    rw [List.getElem?_eq_getElem (by omega)] at c0
    have es := spot_none c0
    refine ⟨ad.block, ad.off, by rw [← es], World.block_lt_of_cell? w ad c0, fun k hk j v hv => ?_⟩
    have hj : j < (blk (Z k).1 (Z k).2).length := (List.getElem?_eq_some_iff.1 hv).1
    rw [blk_len (hZ k (by omega)).1 (hZ k (by omega)).2.1] at hj
    have c1 := (hZ k (by omega)).2.2 j hj
    rw [es, Addr.add_mid, Addr.add_mid] at c1
    rw [c1]; exact hv

set_option maxHeartbeats 400000 in
theorem szB_yes (A : Option Addr) (n c : Nat) (q : Int) (h0 : 0 ≤ q - n) (h1 : q ≤ 1048576) (w : World) : Calls Try.prog 58 #[.slice A n c, .int .i64 q] w fun e w' => e = .returned (.int .i64 (q - (n : Int))) ∧ w = w' := by
  have e : IntKind.i64.wrap (q - (n : Int)) = q - (n : Int) := Go.IntWalk.i64_in _ (by omega)
  have d : ¬ (q - (n : Int)) < 0 := by omega
  go_enter Try.func58, Try.ntmps58
  go_wp2
  go_ret
  exact ⟨rfl, rfl⟩
set_option maxHeartbeats 400000 in
theorem szB_no (A : Option Addr) (n c : Nat) (q : Int) (h0 : q - n < 0) (hq : 0 ≤ q) (h1 : n ≤ 9223372036854775807) (w : World) : Calls Try.prog 58 #[.slice A n c, .int .i64 q] w fun e w' => e = .returned (.int .i64 (-1)) ∧ w = w' := by
  have e : IntKind.i64.wrap (q - (n : Int)) = q - (n : Int) := Go.IntWalk.i64_in _ (by omega)
  go_enter Try.func58, Try.ntmps58
  go_wp2
  go_ret
  exact ⟨rfl, rfl⟩

/-- Lists of blocks that lie there, each where it was made. -/
def Bk (W : World) (M : List (Option Addr × Nat × (Nat → List Int) × (Nat → List Int))) (w' : World) : Prop :=
  Below W.heap.size W w' ∧ ∀ (i : Nat) A n X Y, M[i]? = some (A, n, X, Y) → Bls w' A n X Y
theorem Bk.call {W w1 w2 : World} {M} (hb : Below w1.heap.size w1 w2) (h : Bk W M w1) : Bk W M w2 := ⟨h.1.trans (hb.mono h.1.size), fun i A n X Y hi => (h.2 i A n X Y hi).call hb⟩
theorem Bk.add {W w1 w2 : World} {M} (h : Bk W M w1) (hb : Below w1.heap.size w1 w2) {A : Option Addr} {n : Nat} {X Y : Nat → List Int} (hn : Bls w2 A n X Y) : Bk W (M ++ [(A, n, X, Y)]) w2 := by
  have hc := Bk.call hb h
  refine ⟨hc.1, fun i A' n' X' Y' hi => ?_⟩
  rw [List.getElem?_append] at hi
  split at hi
  · exact hc.2 i A' n' X' Y' hi
  · have e : i - M.length = 0 := by
      have := (List.getElem?_eq_some_iff.1 hi).1
      simp at this; omega
    rw [e] at hi
    simp at hi
    obtain ⟨rfl, rfl, rfl, rfl⟩ := hi
    exact hn
theorem Bk.get {W w' : World} {M} (h : Bk W M w') (i : Nat) {A : Option Addr} {n : Nat} {X Y : Nat → List Int} (hi : M[i]? = some (A, n, X, Y)) : Bls w' A n X Y := h.2 i A n X Y hi
theorem Bk.below {W w' : World} {M} (h : Bk W M w') : Below W.heap.size W w' := h.1
theorem Bk.start {W : World} {A1 A2 : Option Addr} {n m : Nat} {X1 Y1 X2 Y2 : Nat → List Int} (h1 : Bls W A1 n X1 Y1) (h2 : Bls W A2 m X2 Y2) : Bk W [(A1, n, X1, Y1), (A2, m, X2, Y2)] W := by
  refine ⟨Below.refl _ _, fun i A k X Y hi => ?_⟩
  match i, hi with
  | 0, hi => simp at hi; obtain ⟨rfl, rfl, rfl, rfl⟩ := hi; exact h1
  | 1, hi => simp at hi; obtain ⟨rfl, rfl, rfl, rfl⟩ := hi; exact h2
  | i + 2, hi => simp at hi

set_option maxRecDepth 100000 in
set_option maxHeartbeats 3200000 in
theorem samLaw (A1 A2 : Option Addr) (n m c1 c2 : Nat) (X1 Y1 X2 Y2 : Nat → List Int) (hn : n + m ≤ 1048576) (h1X : ∀ k, k < n → (X1 k).length = 2 ∧ (Y1 k).length = 16) (h2X : ∀ k, k < m → (X2 k).length = 2 ∧ (Y2 k).length = 16)
    (w : World) (h1 : Bls w A1 n X1 Y1) (h2 : Bls w A2 m X2 Y2) :
    Calls Try.prog 17 #[.slice A1 n c1, .slice A2 m c2] w fun e w' => e = .returned (.bool true) ∧ Below w.heap.size w w' := by
  have S0 := Bk.start h1 h2
  have HX1 := Lib.hid h1X
  have HX2 := Lib.hid h2X
  have d1 : ¬ (1048576 - (n : Int)) < 0 := by omega
  have d2 : ¬ (1048576 - (n : Int) - (m : Int)) < 0 := by omega
  have Z1 := Lib.hid (fun w => szB_yes A1 n c1 1048576 (by omega) (by omega) w)
  have Z2 := Lib.hid (fun w => szB_yes A2 m c2 (1048576 - (n : Int)) (by omega) (by omega) w)
  have hnn : n ≤ 1048576 := by omega
  have hmm : m ≤ 1048576 := by omega
  obtain ⟨b, hb⟩ : ∃ b, b = sameB n m X1 Y1 X2 Y2 := ⟨_, rfl⟩
  have HB := Lib.hid hb
  clear h1 h2 h1X h2X hb
  go_enter Try.func17, Try.ntmps17
  go_wp2_with (first
    | (go_at_call_of 58 (A1); refine (Z1.out _).mono ?_; rintro e w1 ⟨rfl, rfl⟩)
    | (go_at_call_of 58 (A2); refine (Z2.out _).mono ?_; rintro e w1 ⟨rfl, rfl⟩)
    | (go_at_call_of 60 (A1); have _t := g2; clear _t; refine (toBls_any A1 n c1 X1 Y1 HX1.out hnn _ (Bk.get (by assumption) 0 rfl)).mono ?_; rintro e w1 ⟨g4, rfl, hB, hb⟩; have hS := Bk.add (by assumption) hb hB; clear hb hB)
    | (go_at_call_of 60 (A1); have _t := g0; clear _t; refine (toBls_any A1 n c1 X1 Y1 HX1.out hnn _ (Bk.get (by assumption) 0 rfl)).mono ?_; rintro e w1 ⟨g2, rfl, hB, hb⟩; have hS := Bk.add (by assumption) hb hB; clear hb hB)
    | (go_at_call_of 60 (A1); refine (toBls_any A1 n c1 X1 Y1 HX1.out hnn _ (Bk.get (by assumption) 0 rfl)).mono ?_; rintro e w1 ⟨g0, rfl, hB, hb⟩; have hS := Bk.add (by assumption) hb hB; clear hb hB)
    | (go_at_call_of 60 (A2); have _t := g3; clear _t; refine (toBls_any A2 m c2 X2 Y2 HX2.out hmm _ (Bk.get (by assumption) 1 rfl)).mono ?_; rintro e w1 ⟨g5, rfl, hB, hb⟩; have hS := Bk.add (by assumption) hb hB; clear hb hB)
    | (go_at_call_of 60 (A2); have _t := g1; clear _t; refine (toBls_any A2 m c2 X2 Y2 HX2.out hmm _ (Bk.get (by assumption) 1 rfl)).mono ?_; rintro e w1 ⟨g3, rfl, hB, hb⟩; have hS := Bk.add (by assumption) hb hB; clear hb hB)
    | (go_at_call_of 60 (A2); refine (toBls_any A2 m c2 X2 Y2 HX2.out hmm _ (Bk.get (by assumption) 1 rfl)).mono ?_; rintro e w1 ⟨g1, rfl, hB, hb⟩; have hS := Bk.add (by assumption) hb hB; clear hb hB)
    | (go_at_call 59; refine (sSame _ _ n m _ _ X1 Y1 X2 Y2 hnn HX1.out HX2.out _ (Bk.get (by assumption) 2 rfl) (Bk.get (by assumption) 3 rfl)).mono ?_; rintro e w1 ⟨rfl, hb⟩; rw [← HB.out]; have hS := Bk.call hb (by assumption); clear hb)
    | (go_at_call 61; refine (iSame _ _ n m _ _ X1 Y1 X2 Y2 hnn HX1.out HX2.out _ (Bk.get (by assumption) 4 rfl) (Bk.get (by assumption) 5 rfl)).mono ?_; rintro e w1 ⟨rfl, hb⟩; rw [← HB.out]; have hS := Bk.call hb (by assumption); clear hb)
    | (go_at_call_of 62 g2; refine (eqBls_any _ _ n _ _ X1 Y1 hnn HX1.out _ (Bk.get (by assumption) 4 rfl) (Bk.get (by assumption) 6 rfl)).mono ?_; rintro e w1 ⟨rfl, hb⟩; have hS := Bk.call hb (by assumption); clear hb)
    | (go_at_call_of 62 g3; refine (eqBls_any _ _ m _ _ X2 Y2 hmm HX2.out _ (Bk.get (by assumption) 5 rfl) (Bk.get (by assumption) 7 rfl)).mono ?_; rintro e w1 ⟨rfl, hb⟩; have hS := Bk.call hb (by assumption); clear hb))
  go_ret
  exact ⟨rfl, Bk.below (by assumption)⟩
set_option maxHeartbeats 400000 in
theorem samBig1 (A1 A2 : Option Addr) (n m c1 c2 : Nat) (hn : 1048576 < n) (hl : n ≤ 9223372036854775807) (w : World) :
    Calls Try.prog 17 #[.slice A1 n c1, .slice A2 m c2] w fun e w' => e = .returned (.bool true) ∧ Below w.heap.size w w' := by
  have Z1 := Lib.hid (fun w => szB_no A1 n c1 1048576 (by omega) (by omega) hl w)
  clear hn hl
  go_enter Try.func17, Try.ntmps17
  go_wp2_with (go_at_call_of 58 (A1); refine (Z1.out _).mono ?_; rintro e w1 ⟨rfl, rfl⟩)
  go_ret
  exact ⟨rfl, Below.refl _ _⟩
set_option maxHeartbeats 400000 in
theorem samBig2 (A1 A2 : Option Addr) (n m c1 c2 : Nat) (hn : n ≤ 1048576) (hm : 1048576 < n + m) (hl : m ≤ 9223372036854775807) (w : World) :
    Calls Try.prog 17 #[.slice A1 n c1, .slice A2 m c2] w fun e w' => e = .returned (.bool true) ∧ Below w.heap.size w w' := by
  have d1 : ¬ (1048576 - (n : Int)) < 0 := by omega
  have Z1 := Lib.hid (fun w => szB_yes A1 n c1 1048576 (by omega) (by omega) w)
  have Z2 := Lib.hid (fun w => szB_no A2 m c2 (1048576 - (n : Int)) (by omega) (by omega) hl w)
  clear hn hm hl
  go_enter Try.func17, Try.ntmps17
  go_wp2_with (first
    | (go_at_call_of 58 (A1); refine (Z1.out _).mono ?_; rintro e w1 ⟨rfl, rfl⟩)
    | (go_at_call_of 58 (A2); refine (Z2.out _).mono ?_; rintro e w1 ⟨rfl, rfl⟩))
  go_ret
  exact ⟨rfl, Below.refl _ _⟩
theorem samWalk (A1 : Option Addr) (n c1 : Nat) (P1 : (Nat → List Int) × (Nat → List Int)) (A2 : Option Addr) (m c2 : Nat) (P2 : (Nat → List Int) × (Nat → List Int)) (w : World)
    (h1 : n ≤ 9223372036854775807 ∧ Bls w A1 n P1.1 P1.2 ∧ ∀ k, k < n → (P1.1 k).length = 2 ∧ (P1.2 k).length = 16) (h2 : m ≤ 9223372036854775807 ∧ Bls w A2 m P2.1 P2.2 ∧ ∀ k, k < m → (P2.1 k).length = 2 ∧ (P2.2 k).length = 16) :
    Calls Try.prog 17 #[.slice A1 n c1, .slice A2 m c2] w fun e w' => e = .returned (.bool true) ∧ Below w.heap.size w w' := by
  by_cases h : n ≤ 1048576
  · by_cases h' : n + m ≤ 1048576
    · exact samLaw A1 A2 n m c1 c2 P1.1 P1.2 P2.1 P2.2 h' h1.2.2 h2.2.2 w h1.2.1 h2.2.1
    · exact samBig2 A1 A2 n m c1 c2 h (by omega) h2.1 w
  · exact samBig1 A1 A2 n m c1 c2 (by omega) h1.1 w
end Go.Proofs.Ytbkbjiifklhgiaa
