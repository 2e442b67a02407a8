/- Bytes that came in, and the source that draws from them: whatever it draws lies in its bounds. Conditions: none. -/
import Derived.Test.YtejmbbnhdojcbaaMks
import Derived.Test.YtejmbbnhdojcbaaRed
import Derived.Lib.Hide
namespace Go.Proofs.Ytejmbbnhdojcbaa
open Go.RowKit
set_option linter.unusedVariables false

/-- Bytes lie at A, in blocks before G. -/
def Bys (w : World) (G : Nat) (A : Option Addr) (l : List UInt8) : Prop :=
  0 < l.length → ∃ b o, A = some ⟨b, o, none⟩ ∧ b < G ∧ b < w.heap.size ∧ ∀ j, j < l.length → w.cell? ⟨b, o + j, none⟩ = some (.int .u8 (atb l j).toNat)
theorem Bys.call {w w' : World} {G : Nat} {A : Option Addr} {l : List UInt8} (h : Bys w G A l) (hb : Below w.heap.size w w') : Bys w' G A l := fun hn => by
  obtain ⟨b, o, h1, h2, h3, h4⟩ := h hn
  exact ⟨b, o, h1, h2, Nat.lt_of_lt_of_le h3 hb.size, fun j hj => (hb.cell (p := ⟨b, o + j, none⟩) h3).trans (h4 j hj)⟩
theorem Bys.but {w w' : World} {G g : Nat} {A : Option Addr} {l : List UInt8} (h : Bys w G A l) (hb : But g w w') (hg : G ≤ g) : Bys w' G A l := fun hn => by
  obtain ⟨b, o, h1, h2, h3, h4⟩ := h hn
  refine ⟨b, o, h1, h2, Nat.lt_of_lt_of_le h3 hb.size, fun j hj => ?_⟩
  rw [← h4 j hj]
  unfold World.cell?
  rw [hb.2 b h3 (by omega)]
theorem Bys.wide {w : World} {G G' : Nat} {A : Option Addr} {l : List UInt8} (h : Bys w G A l) (hG : G ≤ G') : Bys w G' A l := fun hn => by
  obtain ⟨b, o, h1, h2, h3⟩ := h hn
  exact ⟨b, o, h1, by omega, h3⟩
/-- The source: bytes, how many were read, the number. -/
def Src (w : World) (g : Nat) (A : Option Addr) (c : Nat) (l : List UInt8) (N : Nat) : Prop :=
  Bys w g A l ∧ ∃ (t : Nat) (s : Int), t ≤ N ∧ 0 ≤ s ∧ w.heap[g]? = some (.cells #[.slice A l.length c, .int .i64 t, .int .u64 s] 76 (0, 0))
theorem Src.lt {w : World} {g : Nat} {A : Option Addr} {c : Nat} {l : List UInt8} {N : Nat} (h : Src w g A c l N) : g < w.heap.size := by
  obtain ⟨_, t, s, _, _, h⟩ := h; exact (Array.getElem?_eq_some_iff.1 h).1
theorem Src.call {w w' : World} {g : Nat} {A : Option Addr} {c : Nat} {l : List UInt8} {N : Nat} (h : Src w g A c l N) (hb : Below w.heap.size w w') : Src w' g A c l N := by
  have hl := h.lt
  obtain ⟨h1, t, s, h2, h3, h4⟩ := h
  exact ⟨h1.call hb, t, s, h2, h3, (hb.block g hl).trans h4⟩
theorem Src.more {w : World} {g : Nat} {A : Option Addr} {c : Nat} {l : List UInt8} {N M : Nat} (h : Src w g A c l N) (hN : N ≤ M) : Src w g A c l M := by
  obtain ⟨h1, t, s, h2, h3⟩ := h
  exact ⟨h1, t, s, by omega, h3⟩
theorem But.drewN {g : Nat} {w w1 : World} (h : But g w w1) (n : Nat) : But g w (w1.drewN n) := h.call (below_drewN (Below.refl _ _) n)
theorem But.trans {g : Nat} {w w1 w2 : World} (h : But g w w1) (h' : But g w1 w2) : But g w w2 :=
  ⟨fun B h1 h2 => (h.1 B h1 h2).trans (h'.1 B h1 (Nat.le_trans h2 h.size)), fun i hi hne => (h'.2 i (Nat.lt_of_lt_of_le hi h.size) hne).trans (h.2 i hi hne)⟩
theorem But.below {g : Nat} {w w0 w1 : World} (h : But g w0 w1) (h0 : Below w.heap.size w w0) (hg : w.heap.size ≤ g) : Below w.heap.size w w1 := h0.trans (h.1 _ hg h0.size)

theorem and_255 (x : Int) : ∃ n : Nat, n ≤ 255 ∧ bits BinOp.and IntKind.u64 x 255 = n := by
  have h2 : (BitVec.ofInt 64 255).toNat = 255 := by decide
  have h3 : (BitVec.ofInt 64 x).toNat &&& 255 ≤ 255 := Nat.and_le_right
  refine ⟨(BitVec.ofInt 64 x).toNat &&& 255, h3, ?_⟩
  show IntKind.u64.wrap ((BitVec.ofInt 64 x &&& BitVec.ofInt 64 255).toNat : Int) = _
  rw [BitVec.toNat_and, h2]
  simp only [IntKind.wrap, IntKind.bits, IntKind.signed, Bool.false_and, Bool.false_eq_true, if_false]
  omega

theorem wrap_nn (x : Int) : 0 ≤ IntKind.u64.wrap x := by
  simp only [IntKind.wrap, IntKind.bits, IntKind.signed, Bool.false_and, Bool.false_eq_true, if_false]
  omega
theorem src_put {w : World} {g c t : Nat} {A : Option Addr} {l : List UInt8} {s : Int} (hg : w.heap[g]? = some (.cells #[.slice A l.length c, .int .i64 t, .int .u64 s] 76 (0, 0))) (q : Nat) (x s1 : Int) :
    ∃ W, W = ((w.drewN q).setCell ⟨g, 1, none⟩ (.int .i64 x)).setCell ⟨g, 2, none⟩ (.int .u64 s1) ∧ W.heap[g]? = some (.cells #[.slice A l.length c, .int .i64 x, .int .u64 s1] 76 (0, 0)) ∧ But g w W := by
  refine ⟨_, rfl, ?_, (((But.refl g w).drewN q).set 1 _).set 2 _⟩
  simp [World.setCell, Array.getElem?_modify, hg]
set_option maxRecDepth 100000 in
set_option maxHeartbeats 1600000 in
theorem next_any (g : Nat) (A : Option Addr) (c : Nat) (l : List UInt8) (hl : l.length ≤ 100000) (N : Nat) (hN : N ≤ 1000) (w : World) (h : Src w g A c l N) :
    Calls Try.prog 72 #[.pointer (some ⟨g, 0, none⟩)] w fun e w' => ∃ x : Nat, x ≤ 255 ∧ e = .returned (.int .i64 x) ∧ Src w' g A c l (N + 1) ∧ But g w w' := by
  obtain ⟨hB, t, s, ht, hs, hg⟩ := h
  have HB := Lib.hid hB
  have HG := Lib.hid hg
  have c0 : w.cell? ⟨g, 0, none⟩ = some (.slice A l.length c) := by simp [World.cell?, hg]
  have c1 : w.cell? ⟨g, 1, none⟩ = some (.int .i64 t) := by simp [World.cell?, hg]
  have c2 : w.cell? ⟨g, 2, none⟩ = some (.int .u64 s) := by simp [World.cell?, hg]
  have f1 : w.frozen? ⟨g, 1, none⟩ = false := by simp [World.frozen?, hg]
  have f2 : w.frozen? ⟨g, 2, none⟩ = false := by simp [World.frozen?, hg]
  obtain ⟨L, hL⟩ : ∃ L, L = l.length := ⟨_, rfl⟩
  have HL := Lib.hid hL
  rw [← hL] at c0 hl
  have t2 : (t : Int) < 4000000000000000000 := by omega
  clear hB hg hL
  by_cases hlt : t < L
  · have i0 : (0 : Int) ≤ t := by omega
    have i1 : (t : Int) < L := by omega
    obtain ⟨b, o, rfl, hbG, hbl, hc⟩ := HB.out (by rw [← HL.out]; omega)
    have hck := hc t (by rw [← HL.out]; omega)
    obtain ⟨d, hd⟩ : ∃ d : Nat, d = (atb l t).toNat ∧ d ≤ 255 := ⟨_, rfl, by have := (atb l t).toNat_lt; omega⟩
    rw [← hd.1] at hck
    have hd2 := hd.2
    clear hc hd
    go_enter Try.func72, Try.ntmps72
    go_wp2
    go_quiet (fail)
    obtain ⟨n1, hn1⟩ : ∃ n, n = nq := ⟨_, rfl⟩
    rw [← hn1]
    clear hn1
    go_wp2
    go_quiet (fail)
    go_wp2
    generalize IntKind.u64.wrap (s * 6364136223846793005) = sa
    generalize IntKind.u64.wrap (sa + (d : Int)) = sb
    have hsn := wrap_nn (sb + 1442695040888963407)
    generalize IntKind.u64.wrap (sb + 1442695040888963407) = s1 at hsn ⊢
    obtain ⟨w2, hw2, hg2, hbut⟩ := src_put HG.out (n1 + nq) ((t : Int) + 1) s1
    rw [← hw2]
    clear hw2 c0 c1 c2 f1 f2 hck i1
    have c0 : w2.cell? ⟨g, 0, none⟩ = some (.slice (some ⟨b, o, none⟩) L c) := by rw [HL.out]; simp [World.cell?, hg2]
    have c1 : w2.cell? ⟨g, 1, none⟩ = some (.int .i64 ((t : Int) + 1)) := by simp [World.cell?, hg2]
    have i1 : (t : Int) + 1 ≤ L := by omega
    have HG2 := Lib.hid hg2
    clear hg2
    go_quiet (fail)
    go_wp2
    go_ret
    exact ⟨d, hd2, rfl, ⟨(HB.out.but hbut (Nat.le_refl _)).call (below_drewN (Below.refl _ _) _), t + 1, s1, by omega, hsn, HG2.out⟩, hbut.drewN _⟩
  · have i1 : ¬ (t : Int) < L := by omega
    go_enter Try.func72, Try.ntmps72
    go_wp2
    go_quiet (fail)
    go_wp2
    generalize IntKind.u64.wrap (s * 6364136223846793005) = sa
    generalize IntKind.u64.wrap sa = sb
    have hsn := wrap_nn (sb + 1442695040888963407)
    generalize IntKind.u64.wrap (sb + 1442695040888963407) = s1 at hsn ⊢
    obtain ⟨w2, hw2, hg2, hbut⟩ := src_put HG.out nq ((t : Int) + 1) s1
    rw [← hw2]
    clear hw2 c0 c1 c2 f1 f2 i1
    have c0 : w2.cell? ⟨g, 0, none⟩ = some (.slice A L c) := by rw [HL.out]; simp [World.cell?, hg2]
    have c1 : w2.cell? ⟨g, 1, none⟩ = some (.int .i64 ((t : Int) + 1)) := by simp [World.cell?, hg2]
    have c2 : w2.cell? ⟨g, 2, none⟩ = some (.int .u64 s1) := by simp [World.cell?, hg2]
    have i1 : ¬ (t : Int) + 1 ≤ L := by omega
    have HG2 := Lib.hid hg2
    clear hg2
    go_quiet (fail)
    obtain ⟨x, hx, hx2⟩ := and_255 (s1 / 1099511627776)
    have wx : IntKind.i64.wrap (x : Int) = x := Go.IntWalk.i64_in _ (by omega)
    go_wp2
    go_ret
    exact ⟨x, hx, rfl, ⟨(HB.out.but hbut (Nat.le_refl _)).call (below_drewN (Below.refl _ _) _), t + 1, s1, by omega, hsn, HG2.out⟩, hbut.drewN _⟩

set_option maxHeartbeats 800000 in
theorem pick_any (g : Nat) (A : Option Addr) (c : Nat) (l : List UInt8) (hl : l.length ≤ 100000) (N : Nat) (hN : N ≤ 1000) (n : Nat) (h0 : 1 ≤ n) (hn : n ≤ 200) (w : World) (h : Src w g A c l N) :
    Calls Try.prog 57 #[.pointer (some ⟨g, 0, none⟩), .int .i64 n] w fun e w' => ∃ x : Nat, x < n ∧ e = .returned (.int .i64 x) ∧ Src w' g A c l (N + 1) ∧ But g w w' := by
  have H := Lib.hid h
  clear h
  by_cases h1 : n ≤ 1
  · obtain rfl : n = 1 := by omega
    go_enter Try.func57, Try.ntmps57
    go_wp2
    go_ret
    exact ⟨0, by omega, rfl, H.out.more (by omega), But.refl _ _⟩
  · have i1 : ¬ (n : Int) ≤ 1 := by omega
    have i2 : ¬ (200 : Int) < n := by omega
    have i3 : ((n : Int) == 0) = false := by rw [beq_eq_false_iff_ne]; omega
    go_enter Try.func57, Try.ntmps57
    go_wp2_with (go_at_call 72; refine (next_any g A c l hl N hN _ H.out).mono ?_; rintro e w1 ⟨x, hx, rfl, hs, hb⟩; have j0 := Int.natCast_nonneg x; have HS := Lib.hid hs; have HBt := Lib.hid hb; clear hs hb)
    have em : (x : Int).tmod n = ((x % n : Nat) : Int) := by rw [Int.ofNat_tmod]
    go_ret
    exact ⟨x % n, Nat.mod_lt _ (by omega), by rw [← em]; try rfl, HS.out, HBt.out⟩

set_option maxHeartbeats 400000 in
theorem one_any (g : Nat) (A : Option Addr) (c : Nat) (l : List UInt8) (hl : l.length ≤ 100000) (N : Nat) (hN : N ≤ 1000) (w : World) (h : Src w g A c l N) :
    Calls Try.prog 58 #[.pointer (some ⟨g, 0, none⟩), .int .i64 2] w fun e w' => (∃ b, e = .returned (.bool b)) ∧ Src w' g A c l (N + 1) ∧ But g w w' := by
  have H := Lib.hid h
  have K := Lib.hid (show ∀ w, Src w g A c l N → Calls Try.prog 57 #[.pointer (some ⟨g, 0, none⟩), .int .i64 2] w _ from fun w h => pick_any g A c l hl N hN 2 (by omega) (by omega) w h)
  clear h
  go_enter Try.func58, Try.ntmps58
  go_wp2_with (go_at_call 57; refine (K.out _ H.out).mono ?_; rintro e w1 ⟨x, hx, rfl, hs, hb⟩; have HS := Lib.hid hs; have HBt := Lib.hid hb; clear hs hb)
  go_ret
  exact ⟨⟨_, rfl⟩, HS.out, HBt.out⟩
/-- A word of so many generators. -/
def Wrd (gens : Nat) (l : List UInt8) : Prop := ∀ x ∈ l, Wd.isL x = true ∧ lnoN x < 2 * gens
theorem wrd_nil (gens : Nat) : Wrd gens [] := fun x hx => by simp at hx
theorem let_lno : ∀ k : Nat, k < 8 → Wd.isL (atb letters k) = true ∧ lnoN (atb letters k) = k := by decide +kernel
theorem wrd_snoc {gens : Nat} {l : List UInt8} {k : Nat} (h : Wrd gens l) (hk : k < 2 * gens) (hg : gens ≤ 4) : Wrd gens (l ++ [atb letters k]) := fun x hx => by
  rcases List.mem_append.1 hx with hx | hx
  · exact h x hx
  · rw [List.mem_singleton] at hx
    subst hx
    obtain ⟨h1, h2⟩ := let_lno k (by omega)
    exact ⟨h1, by omega⟩
theorem wrd_red {gens : Nat} {l : List UInt8} (h : Wrd gens l) : Wrd gens (Wd.red l) := fun x hx => h x (Wd.mem_red l x hx)
theorem wrd_isL {gens : Nat} {l : List UInt8} (h : Wrd gens l) : ∀ x ∈ l, Wd.isL x = true := fun x hx => (h x hx).1
theorem let_sl : ∀ k : Nat, k < 8 → (letters.take (k + 1)).drop k = [atb letters k] := by decide +kernel

set_option maxHeartbeats 1600000 in
theorem drawn_any (g : Nat) (A : Option Addr) (c : Nat) (l : List UInt8) (hl : l.length ≤ 100000) (N : Nat) (hN : N ≤ 900) (gens most : Nat) (h1 : 1 ≤ gens) (h4 : gens ≤ 4) (hm : most ≤ 20) (w : World) (h : Src w g A c l N) :
    Calls Try.prog 34 #[.pointer (some ⟨g, 0, none⟩), .int .i64 gens, .int .i64 most] w fun e w' => ∃ u, Wrd gens u ∧ u.length ≤ most ∧ e = .returned (.string (bs u)) ∧ Src w' g A c l (N + 22) ∧ But g w w' := by
  have H := Lib.hid h
  obtain ⟨p, hp⟩ : ∃ p : Nat, p = 2 * gens := ⟨_, rfl⟩
  obtain ⟨q, hq⟩ : ∃ q : Nat, q = most + 1 := ⟨_, rfl⟩
  have K1 := Lib.hid (show ∀ w, Src w g A c l N → _ from fun w h => pick_any g A c l hl N (by omega) q (by omega) (by omega) w h)
  have K2 := Lib.hid (show ∀ M w, M ≤ N + 20 + 1 → Src w g A c l M → _ from fun M w hM h => pick_any g A c l hl M (by omega) p (by omega) (by omega) w h)
  have K3 := Lib.hid (show ∀ w, Src w g A c l (N + 21) → _ from fun w h => one_any g A c l hl (N + 21) (by omega) w h)
  have ep : 2 * (gens : Int) = (p : Int) := by omega
  have eq1 : (most : Int) + 1 = (q : Int) := by omega
  have HP := Lib.hid hp
  have HQ := Lib.hid hq
  clear h hp hq
  go_enter Try.func34, Try.ntmps34
  go_wp2_with (go_at_call 57; refine (K1.out _ H.out).mono ?_; rintro e w1 ⟨x, hx, rfl, hs, hb⟩; have HS := Lib.hid hs; have HBt := Lib.hid hb; clear hs hb)
  go_loopw [7, 8] (fun v k wr => ∃ y : Nat, y ≤ x ∧ k = .int .i64 y ∧ ∃ u, v = .string (bs u) ∧ Wrd gens u ∧ u.length + y ≤ most ∧ ∃ M, M + y ≤ N + 1 + x ∧ Src wr g A c l M ∧ But g w wr) (fun _ k _ => (intOf k).toNat)
  case atStart => exact ⟨x, Nat.le_refl _, rfl, [], rfl, wrd_nil gens, by have := HQ.out; simp; omega, N + 1, by omega, HS.out, HBt.out⟩
  case round =>
    clear HS HBt
    obtain ⟨y, hy, rfl, u, rfl, hw, hul, M, hM, hs, hb⟩ := hrel
    have HS := Lib.hid hs
    have HBt := Lib.hid hb
    have HW := Lib.hid hw
    have hul2 : u.length ≤ 1000 := by omega
    have HU := Lib.hid hul
    have HXQ := Lib.hid (show x ≤ most by have := HQ.out; omega)
    clear hs hb hw hul
    by_cases hy0 : 0 < y
    · have i0 : (0 : Int) < y := by omega
      go_wp2_with (go_at_call 57; refine (K2.out M _ (by have := HXQ.out; omega) HS.out).mono ?_; rintro e w2 ⟨z, hz, rfl, hs, hb⟩; have HS2 := Lib.hid hs; have HBt2 := Lib.hid (HBt.out.trans hb); clear hs hb; have z8 : z < 8 := (by have := HP.out; omega); have j0 := Int.natCast_nonneg z; have j1 : (z : Int) + 1 ≤ 8 := (by omega); have es := let_sl z z8; have ell := letters_len)
      go_roundw
      case rel => exact ⟨y - 1, by omega, by go_num, u ++ [atb letters z], rfl, wrd_snoc HW.out (by rw [← HP.out]; exact hz) h4, by have := HU.out; simp; omega, M + 1, by omega, HS2.out, HBt2.out⟩
      case measure => simp [intOf]; omega
    · obtain rfl : y = 0 := by omega
      have HL := Lib.hid (show u.length ≤ 1048576 by omega)
      go_wp2_with (first
        | (go_at_call 58; refine (K3.out _ (HS.out.more (by have := HXQ.out; omega))).mono ?_; rintro e w2 ⟨⟨b, rfl⟩, hs, hb⟩; have HS2 := Lib.hid hs; have HBt2 := Lib.hid (HBt.out.trans hb); clear hs hb; cases b)
        | (go_at_call 33; refine (sRed_any u HL.out (wrd_isL HW.out) _).mono ?_; rintro e w3 ⟨rfl, hb3⟩; have HB3 := Lib.hid hb3; clear hb3))
      all_goals go_ret
      all_goals first
        | exact ⟨Wd.red u, wrd_red HW.out, by have := (Wd.red_length u).1; have := HU.out; omega, rfl, HS2.out.call HB3.out, HBt2.out.call HB3.out⟩
        | exact ⟨u, HW.out, by have := HU.out; omega, rfl, HS2.out, HBt2.out⟩

/-- A source made. -/
theorem src_made {w : World} {A : Option Addr} {c : Nat} {l : List UInt8} (h : Bys w w.heap.size A l) : Src (w.alloc (.cells #[.slice A l.length c, .int .i64 0, .int .u64 0] 76)) w.heap.size A c l 0 :=
  ⟨h.call (below_al (Below.refl _ _) (Nat.le_refl _) _), 0, 0, Nat.le_refl _, by omega, one_first _ _⟩

set_option maxHeartbeats 400000 in
theorem from_any (A : Option Addr) (c : Nat) (l : List UInt8) (w : World) (h : Bys w w.heap.size A l) :
    Calls Try.prog 32 #[.slice A l.length c] w fun e w' => e = .returned (.pointer (some ⟨w.heap.size, 0, none⟩)) ∧ Src w' w.heap.size A c l 0 ∧ Below w.heap.size w w' := by
  have H := Lib.hid (src_made (c := c) h)
  clear h
  go_enter Try.func32, Try.ntmps32
  go_wp2
  go_ret
  exact ⟨rfl, H.out, below_al (Below.refl _ _) (Nat.le_refl _) _⟩

/-- A drawn word. -/
theorem A2Word_pre {w w1 w2 : World} {g : Nat} (h : Below w.heap.size w w1) (hg : w.heap.size ≤ g) (hb : But g w1 w2) : Below w.heap.size w w2 := hb.below h hg
set_option maxHeartbeats 400000 in
theorem word_any (A : Option Addr) (c : Nat) (l : List UInt8) (hl : l.length ≤ 100000) (gens most : Nat) (h1 : 1 ≤ gens) (h4 : gens ≤ 4) (hm : most ≤ 20) (w : World) (h : Bys w w.heap.size A l) :
    Calls Try.prog 9 #[.slice A l.length c, .int .i64 gens, .int .i64 most] w fun e w' => (∃ u, Wrd gens u ∧ u.length ≤ most ∧ e = .returned (.string (bs u))) ∧ Below w.heap.size w w' := by
  have H := Lib.hid h
  have K := Lib.hid (show ∀ w, Bys w w.heap.size A l → _ from fun w h => from_any A c l w h)
  have K2 := Lib.hid (show ∀ g w, Src w g A c l 0 → _ from fun g w h => drawn_any g A c l hl 0 (by omega) gens most h1 h4 hm w h)
  obtain ⟨L, hL⟩ : ∃ L, L = l.length := ⟨_, rfl⟩
  rw [← hL] at K ⊢
  clear h hL hl h1 h4 hm
  go_enter Try.func9, Try.ntmps9
  go_wp2_with (first
    | (go_at_call 32; refine (K.out _ H.out).mono ?_; rintro e w1 ⟨rfl, hs, hb⟩; have HS := Lib.hid hs; have HB := Lib.hid hb; clear hs hb)
    | (go_at_call 34; refine (K2.out _ _ HS.out).mono ?_; rintro e w2 ⟨u, hu, hul, rfl, hs, hbt⟩; have HU := Lib.hid hu; have HUL := Lib.hid hul; have HBt := Lib.hid hbt; clear hs hbt hu hul))
  go_ret
  exact ⟨⟨u, HU.out, HUL.out, rfl⟩, HBt.out.below HB.out (Nat.le_refl _)⟩

theorem Src.below {w w' : World} {g B : Nat} {A : Option Addr} {c : Nat} {l : List UInt8} {N : Nat} (h : Src w g A c l N) (hb : Below B w w') (hg : g < B) : Src w' g A c l N := by
  obtain ⟨h1, t, s, h2, h3, h4⟩ := h
  refine ⟨fun hn => ?_, t, s, h2, h3, (hb.block g hg).trans h4⟩
  obtain ⟨b, o, e1, e2, e3, e4⟩ := h1 hn
  exact ⟨b, o, e1, e2, Nat.lt_of_lt_of_le e3 hb.size, fun j hj => (hb.cell (p := ⟨b, o + j, none⟩) (by show b < B; omega)).trans (e4 j hj)⟩
theorem srow_but {w w' : World} {g B : Nat} {v : Value} {ls : List (List UInt8)} (h : SRow w B v ls) (hb : But g w w') (hg : g < B) : SRow w' B v ls := by
  refine ⟨⟨h.1.1, ?_⟩, h.2⟩
  rcases h.1.2 with h0 | ⟨g', cap, cur, h1, h2, h3, h4⟩
  · exact .inl h0
  · exact .inr ⟨g', cap, cur, h1, h2, by rw [hb.2 g' (Array.getElem?_eq_some_iff.1 h3).1 (by omega)]; exact h3, h4⟩
/-- Drawn images: four reduced words. -/
def Imgs (most : Nat) (ls : List (List UInt8)) : Prop := ∀ u ∈ ls, (∀ x ∈ u, Wd.isL x = true) ∧ u.length ≤ most ∧ Wd.red u = u
set_option maxHeartbeats 3200000 in
theorem images_any (A : Option Addr) (c : Nat) (l : List UInt8) (hl : l.length ≤ 100000) (most : Nat) (hm : most ≤ 20) (w : World) (h : Bys w w.heap.size A l) :
    Calls Try.prog 8 #[.slice A l.length c, .int .i64 most] w fun e w' => (∃ g cc ls, e = .returned (.slice (some ⟨g, 0, none⟩) 4 cc) ∧ ls.length = 4 ∧ Imgs most ls ∧ w.heap.size ≤ g ∧ SM w' g ls) ∧ Below w.heap.size w w' := by
  have H := Lib.hid h
  have K := Lib.hid (show ∀ w, Bys w w.heap.size A l → _ from fun w h => from_any A c l w h)
  have K2 := Lib.hid (show ∀ N g w, N ≤ 900 → Src w g A c l N → _ from fun N g w hN h => drawn_any g A c l hl N hN 4 most (by omega) (by omega) hm w h)
  obtain ⟨L, hL⟩ : ∃ L, L = l.length := ⟨_, rfl⟩
  rw [← hL] at K ⊢
  have HM := Lib.hid hm
  clear h hL hl hm
  go_enter Try.func8, Try.ntmps8
  go_wp2_with (go_at_call 32; refine (K.out _ H.out).mono ?_; rintro e w1 ⟨rfl, hs, hb⟩; have HS := Lib.hid hs; have HB := Lib.hid hb; clear hs hb)
  go_loopw [6, 7] (fun o i wr => ∃ k : Nat, k ≤ 4 ∧ i = .int .i64 k ∧ ∃ ls, ls.length = k ∧ Imgs most ls ∧ SRow wr (w.heap.size + 1) o ls ∧ Src wr w.heap.size A c l (22 * k) ∧ Below w.heap.size w wr) (fun _ i _ => 5 - (intOf i).toNat)
  case atStart =>
    have hlt := HS.out.lt
    exact ⟨0, by omega, rfl, [], rfl, fun u hu => by simp at hu, srow_made _ _ hlt, HS.out.call (below_al (Below.refl _ _) (Nat.le_refl _) _), below_al HB.out (Nat.le_refl _) _⟩
  case round =>
    clear HS HB
    obtain ⟨k, hk, rfl, ls, hlen, hi, hrow, hs, hb⟩ := hrel
    have HRow := Lib.hid hrow
    have HI := Lib.hid hi
    have HS := Lib.hid hs
    have HB := Lib.hid hb
    have HLen := Lib.hid hlen
    have i0 : (0 : Int) ≤ k := by omega
    clear hrow hi hs hb
    by_cases hlt : k < 4
    · have k1 : (k : Int) < 4 := by omega
      have ll : ls.length < 1000000000 := by omega
      clear hlen
      go_wp2_with (first
        | (go_at_call 34; refine (K2.out (22 * k) _ _ (by omega) HS.out).mono ?_; rintro e w2 ⟨u, hu, hul, rfl, hs, hbt⟩; have HU := Lib.hid hu; have HUL := Lib.hid hul; have hu1 : u.length ≤ 1048576 := (by have := HM.out; omega); have HS2 := Lib.hid hs; have HB2 := Lib.hid (hbt.below HB.out (Nat.le_refl _)); have HRow2 := Lib.hid (srow_but HRow.out hbt (Nat.lt_succ_self _)); clear hs hbt hu hul)
        | (go_at_call 33; refine (sRed_any u hu1 (wrd_isL HU.out) _).mono ?_; rintro e w3 ⟨rfl, hb3⟩; have HS3 := Lib.hid (HS2.out.call hb3); have HB3 := Lib.hid (bl_call hb3 HB2.out); have HRow3 := Lib.hid (srow_call HRow2.out hb3); have hl3 := HS3.out.lt; clear hb3)
        | (at_builtin; refine wpList_pushS rfl (.tmp 15) (.tmp 20) rfl (w.heap.size + 1) _ ls (Wd.red u) rfl HRow3.out (Below.refl _ _) hl3 rfl ll ?_))
      intro v' w' hO hB
      go_wp2
      go_roundw
      case rel => exact ⟨k + 1, by omega, by go_num, ls ++ [Wd.red u], by simp [HLen.out], fun x hx => by
          rcases List.mem_append.1 hx with hx | hx
          · exact HI.out x hx
          · rw [List.mem_singleton] at hx
            subst hx
            exact ⟨wrd_isL (wrd_red HU.out), Nat.le_trans (Wd.red_length u).1 HUL.out, Wd.red_red u⟩, hO, (HS3.out.below hB (Nat.lt_succ_self _)).more (by omega), HB3.out.trans (hB.mono (by omega))⟩
      case measure => simp [intOf]; omega
    · obtain rfl : k = 4 := by omega
      obtain ⟨gg, cc, hvv, hgg, hsm⟩ := srow_sm HRow.out
      rw [hlen] at hvv
      subst hvv
      have HSM := Lib.hid hsm
      clear hsm hlen
      go_wp2
      go_ret
      exact ⟨⟨gg, cc, ls, rfl, HLen.out, HI.out, by omega, HSM.out⟩, HB.out⟩
end Go.Proofs.Ytejmbbnhdojcbaa
