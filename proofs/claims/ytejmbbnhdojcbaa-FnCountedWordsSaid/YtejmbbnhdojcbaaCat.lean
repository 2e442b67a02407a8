/- The laws' beginnings: bytes that came in are opened, measured, looked at, and put behind one byte. Conditions: none. -/
import Derived.Test.YtejmbbnhdojcbaaSrc
import Derived.Laws.AppendOwnNone
import Derived.Deep.Slices
import Derived.Deep.Strs
namespace Go.Proofs.Ytejmbbnhdojcbaa
open Go.RowKit
set_option linter.unusedVariables false

/-- Bytes that came in: nil has no room. -/
def Byi (w : World) (A : Option Addr) (c : Nat) (l : List UInt8) : Prop := Bys w w.heap.size A l ∧ (A = none → c = 0)
theorem Byi.call {w w' : World} {A : Option Addr} {c : Nat} {l : List UInt8} (h : Byi w A c l) (hb : Below w.heap.size w w') : Byi w' A c l := ⟨(h.1.call hb).wide hb.size, h.2⟩
theorem spot_none {w : World} {a : Addr} {v : Value} (h : w.cell? a = some v) : a = ⟨a.block, a.off, none⟩ := by
  unfold World.cell? at h
  split at h
  · split at h
    · cases h
    · rename_i hs
      obtain ⟨b, o, s⟩ := a
      cases s
      · rfl
      · simp at hs
  · cases h
theorem open_bys {H : Type} {enc : TypeId × Value → H} {w : World} {base : Nat} {spare : Nat → Bool} {held : Bool} {t e : TypeId}
    {a : Option Addr} {len cap : Nat} {d : DataW H} {p : List MemPlace} (ht : Try.prog.underlying t = some (.slice e)) (he : Try.prog.underlying e = some (.int .u8)) (hc : Try.prog.cellsOf e = 1)
    (h : DataW.Trod enc Try.prog w base spare held t (.slice a len cap) d p) : ∃ l : List UInt8, l.length = len ∧ l.length ≤ 9223372036854775807 ∧ Byi w a cap l := by
  obtain ⟨fuel, hf⟩ := h
  rcases Deep.open_slice1 ht hc hf with ⟨h0, _⟩ | ⟨ad, n, cp, m, q, V, D, Pl, h0, hb, hl, hm, hmm, hx, hcell⟩
  · have : (Value.slice a len cap) = .slice none 0 0 := by simpa [Value.cells] using h0
    injection this with h1 h2 h3
    subst h1 h2 h3
    exact ⟨[], rfl, by simp, fun hn => by simp at hn, fun _ => rfl⟩
  · have : (Value.slice a len cap) = .slice (some ad) n cp := by simpa [Value.cells] using h0
    injection this with h1 h2 h3
    subst h1 h2 h3
    have hlm : len ≤ m := by rw [hmm]; split <;> omega
    unfold maxLen at hm
    have key : ∀ i, i < m → ∃ u : UInt8, w.cell? (ad.add i) = some (.int .u8 (u.toNat : Int)) := fun i hi => by
      obtain ⟨c1, c2⟩ := hcell i hi
      obtain ⟨z, hz, _, hw⟩ := DataW.trod_int he c2
      have hv : V i = .int .u8 z := by simpa using hz
      have hb : 0 ≤ z ∧ z ≤ 255 := by simpa [Lit.wf, IntKind.min, IntKind.max, IntKind.signed, IntKind.bits] using hw
      refine ⟨UInt8.ofNat z.toNat, ?_⟩
      have e : ((z.toNat % 2 ^ 8 : Nat) : Int) = z := by omega
      rw [c1, hv, UInt8.toNat_ofNat', e]
    obtain ⟨U, hU⟩ := Deep.choose_lt key
    refine ⟨(List.range len).map U, by simp, by simp; omega, fun hn => ?_, fun h => by cases h⟩
    simp at hn
    have c0 := hU 0 (by omega)
    rw [show ad.add 0 = ad by simp [Addr.add]] at c0
    have es := spot_none c0
    have hlt := World.block_lt_of_cell? w ad c0
    refine ⟨ad.block, ad.off, by rw [← es], hlt, hlt, fun j hj => ?_⟩
    simp at hj
    have c1 := hU j (by omega)
    rw [es, Addr.add_mid] at c1
    rw [c1]
    simp [atb, hj]

/-- 'append([]byte{c0}, more...)'. -/
theorem own_bys {w : World} {B : Nat} {v : Value} {l : List UInt8} (h : Own w B 5 v l) : ∃ g cap, v = .slice (some ⟨g, 0, none⟩) l.length cap ∧ B ≤ g ∧ Bys w w.heap.size (some ⟨g, 0, none⟩) l := by
  obtain ⟨g, cap, hv⟩ := own_shape h
  subst hv
  have h0 := h
  obtain ⟨⟨h1, h2⟩, hn⟩ := h
  rcases h2 with ⟨h2, _⟩ | ⟨g', cap', cur, h2, hb, hg, _⟩
  · simp at h2
  · injection h2 with e1 e2 e3
    injection e1 with e1
    injection e1 with e1
    subst e1
    have hlt : g < w.heap.size := (Array.getElem?_eq_some_iff.1 hg).1
    refine ⟨g, cap, rfl, hb, fun hl => ⟨g, 0, rfl, hlt, hlt, fun j hj => ?_⟩⟩
    rw [Nat.zero_add]; exact own_at h0 hj
theorem wpList_cat {W1 wr : World} {ops : Array Oper} {rest : List Oper} {o : Oper} {a : Act} {Q : Exit → Act → World → Prop} (hgd : o.guard = none) (s x : Operand)
    (ho : o.op = .call { callee := .builtin .append, args := #[s, x], argTypes := #[22, 22] })
    (c0 : UInt8) (z : Int) (hz : z = (c0.toNat : Int)) (A : Option Addr) (c : Nat) (l : List UInt8) (hl : l.length ≤ 100000) (hs : a.eval s = .slice (some ⟨wr.heap.size, 0, none⟩) 1 1) (hx : a.eval x = .slice A l.length c)
    (hb : Byi wr A c l) (hW : Below W1.heap.size W1 wr)
    (h : ∀ g cap w', Bys w' w'.heap.size (some ⟨g, 0, none⟩) (c0 :: l) → Below W1.heap.size W1 w' → wpList Try.prog ops Q rest (a.put o.dst (.slice (some ⟨g, 0, none⟩) (c0 :: l).length cap)) w') : wpList Try.prog ops Q (o :: rest) a (wr.alloc (.cells #[.int .u8 z] 5)) := by
  subst hz
  have hown : (wr.alloc (.cells #[.int .u8 (c0.toNat : Int)] 5)).ownsRow wr.heap.size 5 1 (.slice (some ⟨wr.heap.size, 0, none⟩) 1 1) 1 (byteVals [c0]) :=
    ⟨rfl, .inr ⟨wr.heap.size, 1, _, rfl, Nat.le_refl _, heap_alloc_new wr _, Nat.le_refl _, by unfold maxLen; omega, rfl, rfl⟩⟩
  obtain ⟨i, hi0, hz, hsize, hbytes⟩ := info_parts info_u8
  have fin : ∀ v' w', Own w' wr.heap.size 5 v' (c0 :: l) → Below W1.heap.size W1 w' → wpList Try.prog ops Q rest (a.put o.dst v') w' := fun v' w' ho hb => by
    obtain ⟨g, cap, rfl, _, hbs⟩ := own_bys ho
    exact h g cap w' hbs hb
  have bal : Below W1.heap.size W1 (wr.alloc (.cells #[.int .u8 (c0.toNat : Int)] 5)) := below_al hW (Nat.le_refl _) _
  have done : ∀ ad m, m = l.length → A = some ad → (∀ j u, (byteVals l)[j]? = some u → wr.cell? (ad.add j) = some u) → (0 < l.length → ad.block < wr.heap.size) → wpList Try.prog ops Q (o :: rest) a (wr.alloc (.cells #[.int .u8 (c0.toNat : Int)] 5)) := fun ad m hm hA hcell hblk => by
    subst hm hA
    refine wpList_append_own (wr.alloc (.cells #[.int .u8 (c0.toNat : Int)] 5)) hgd s x 22 ho wr.heap.size 5 i (.int .u8 0) 1 1 Try.underlying22 hi0 hz hsize hbytes rfl (by decide) _ 1 (byteVals [c0]) hs hown ad l.length c (byteVals l) hx (by simp [byteVals]) ?_ ?_
      (by unfold maxLen; omega) (by omega) (by simp) ?_
    · intro j u hj
      have hj2 : j < l.length := by
        have := (List.getElem?_eq_some_iff.1 hj).1
        simpa [byteVals] using this
      rw [← hcell j u hj]
      exact ((Below.refl wr.heap.size wr).alloc (Nat.le_refl _) _).cell (p := ad.add j) (by rw [add_block]; exact hblk (by omega))
    · intro u hu
      obtain ⟨q, _, rfl⟩ := List.mem_map.1 hu
      rfl
    · intro v' w' hown' hg hnil
      refine fin v' w' ⟨?_, fun e => ?_⟩ (bal.grown hg (by simp; have := hW.size; omega) (fun k hk => (by have := (hown.lt k hk).1; have := hW.size; omega)))
      · have e1 : (c0 :: l).length = 1 + l.length := by simp; omega
        have e2 : byteVals (c0 :: l) = byteVals [c0] ++ byteVals l := by simp [byteVals]
        rw [e1, e2]; exact hown'
      · have := (hnil.1 e).1
        simp at this
  cases A with
  | none =>
    have hc := hb.2 rfl
    have hl0 : l = [] := by
      match l, hb with
      | [], _ => rfl
      | q :: r, hb => exact absurd (hb.1 (by simp)) (by simp)
    subst hl0 hc
    exact wpList_append_own_none hgd s x 22 ho wr.heap.size 5 i 1 Try.underlying22 hi0 _ 1 (byteVals [c0]) hs hown hx (fin _ _ ⟨hown, by simp⟩ bal)
  | some ad =>
    refine done ad l.length rfl rfl (fun j u hj => ?_) (fun hn => ?_)
    · have hj2 : j < l.length := by
        have := (List.getElem?_eq_some_iff.1 hj).1
        simpa [byteVals] using this
      obtain ⟨b, o', e1, e2, e3, e4⟩ := hb.1 (by omega)
      obtain rfl : ad = ⟨b, o', none⟩ := Option.some.inj e1
      rw [Addr.add_mid, e4 j hj2, ← hj, atb_eq hj2]
      simp [byteVals, hj2]
    · obtain ⟨b, o', e1, e2, e3, e4⟩ := hb.1 hn
      obtain rfl : ad = ⟨b, o', none⟩ := Option.some.inj e1
      exact e2

theorem wpList_cat_n {W1 wr : World} {ops : Array Oper} {rest : List Oper} {o : Oper} {a : Act} {Q : Exit → Act → World → Prop} (hgd : o.guard = none) (s x : Operand)
    (ho : o.op = .call { callee := .builtin .append, args := #[s, x], argTypes := #[22, 22] })
    (c0 : UInt8) (z : Int) (hz : z = (c0.toNat : Int)) (A : Option Addr) (c : Nat) (l : List UInt8) (n : Nat) (e : l.length = n) (hl : n ≤ 3000) (hs : a.eval s = .slice (some ⟨wr.heap.size, 0, none⟩) 1 1) (hx : a.eval x = .slice A n c)
    (hb : Byi wr A c l) (hW : Below W1.heap.size W1 wr)
    (h : ∀ g cap w', Byi w' (some ⟨g, 0, none⟩) cap (c0 :: l) → Below W1.heap.size W1 w' → wpList Try.prog ops Q rest (a.put o.dst (.slice (some ⟨g, 0, none⟩) (n + 1) cap)) w') : wpList Try.prog ops Q (o :: rest) a (wr.alloc (.cells #[.int .u8 z] 5)) := by
  subst e
  exact wpList_cat hgd s x ho c0 z hz A c l (by omega) hs hx hb hW fun g cap w' hb hW => h g cap w' ⟨hb, fun h => by cases h⟩ hW

set_option maxHeartbeats 400000 in
theorem long_yes (A1 A2 : Option Addr) (n1 n2 c1 c2 : Nat) (h : 3000 < n1 ∨ 3000 < n2) (w : World) :
    Calls Try.prog 7 #[.slice A1 n1 c1, .slice A2 n2 c2] w fun e w' => e = .returned (.bool true) ∧ w = w' := by
  by_cases h1 : 3000 < n1
  · have i1 : (3000 : Int) < n1 := by omega
    go_enter Try.func7, Try.ntmps7
    go_wp2
    go_ret
    exact ⟨rfl, rfl⟩
  · have i1 : ¬ (3000 : Int) < n1 := by omega
    have i2 : (3000 : Int) < n2 := by omega
    go_enter Try.func7, Try.ntmps7
    go_wp2
    go_ret
    exact ⟨rfl, rfl⟩
set_option maxHeartbeats 400000 in
theorem long_no (A1 A2 : Option Addr) (n1 n2 c1 c2 : Nat) (h1 : n1 ≤ 3000) (h2 : n2 ≤ 3000) (w : World) :
    Calls Try.prog 7 #[.slice A1 n1 c1, .slice A2 n2 c2] w fun e w' => e = .returned (.bool false) ∧ w = w' := by
  have i1 : ¬ (3000 : Int) < n1 := by omega
  have i2 : ¬ (3000 : Int) < n2 := by omega
  go_enter Try.func7, Try.ntmps7
  go_wp2
  go_ret
  exact ⟨rfl, rfl⟩
set_option maxHeartbeats 800000 in
theorem at_any (A : Option Addr) (c : Nat) (l : List UInt8) (hl : l.length ≤ 100000) (k n : Nat) (hk : k ≤ 1000) (h1 : 1 ≤ n) (hn : n ≤ 1000) (w : World) (h : Bys w w.heap.size A l) :
    Calls Try.prog 14 #[.slice A l.length c, .int .i64 k, .int .i64 n] w fun e w' => (∃ x : Nat, x < n ∧ e = .returned (.int .i64 x)) ∧ w = w' := by
  have H := Lib.hid h
  obtain ⟨L, hL⟩ : ∃ L, L = l.length := ⟨_, rfl⟩
  have HL := Lib.hid hL
  rw [← hL] at hl ⊢
  clear h hL
  have j0 : (0 : Int) ≤ k := by omega
  by_cases hlt : L ≤ k
  · have i1 : (L : Int) ≤ k := by omega
    go_enter Try.func14, Try.ntmps14
    go_wp2
    go_ret
    exact ⟨⟨0, by omega, rfl⟩, rfl⟩
  · have i1 : ¬ (L : Int) ≤ k := by omega
    have i2 : (k : Int) < L := by omega
    have i3 : ¬ (n : Int) < 1 := by omega
    have i4 : ((n : Int) == 0) = false := by rw [beq_eq_false_iff_ne]; omega
    obtain ⟨b, o, rfl, hbG, hbl, hc⟩ := H.out (by rw [← HL.out]; omega)
    have hck := hc k (by rw [← HL.out]; omega)
    obtain ⟨d, hd⟩ : ∃ d : Nat, d = (atb l k).toNat ∧ d ≤ 255 := ⟨_, rfl, by have := (atb l k).toNat_lt; omega⟩
    rw [← hd.1] at hck
    have hd2 := hd.2
    have wd : IntKind.i64.wrap (d : Int) = d := Go.IntWalk.i64_in _ (by omega)
    have em : (d : Int).tmod n = ((d % n : Nat) : Int) := by rw [Int.ofNat_tmod]
    have HE := Lib.hid em
    clear hc hd em
    go_enter Try.func14, Try.ntmps14
    go_wp2
    go_ret
    exact ⟨⟨d % n, Nat.mod_lt _ (by omega), by rw [← HE.out]; try rfl⟩, rfl⟩
theorem word_n (A : Option Addr) (c : Nat) (l : List UInt8) (n : Nat) (e : l.length = n) (hn : n ≤ 3001) (gens most : Nat) (h1 : 1 ≤ gens) (h4 : gens ≤ 4) (hm : most ≤ 20) : ∀ w : World, Byi w A c l →
    Calls Try.prog 9 #[.slice A n c, .int .i64 gens, .int .i64 most] w fun e w' => (∃ u, Wrd gens u ∧ u.length ≤ most ∧ e = .returned (.string (bs u))) ∧ Below w.heap.size w w' := by
  subst e
  exact fun w h => word_any A c l (by omega) gens most h1 h4 hm w h.1
theorem at_n (A : Option Addr) (c : Nat) (l : List UInt8) (n : Nat) (e : l.length = n) (hn : n ≤ 3001) (k m : Nat) (hk : k ≤ 1000) (h1 : 1 ≤ m) (hm : m ≤ 1000) : ∀ w : World, Byi w A c l →
    Calls Try.prog 14 #[.slice A n c, .int .i64 k, .int .i64 m] w fun e w' => (∃ x : Nat, x < m ∧ e = .returned (.int .i64 x)) ∧ w = w' := by
  subst e
  exact fun w h => at_any A c l (by omega) k m hk h1 hm w h.1
end Go.Proofs.Ytejmbbnhdojcbaa
