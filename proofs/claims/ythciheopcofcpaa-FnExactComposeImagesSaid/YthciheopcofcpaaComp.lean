/- ComposeImages: the walk of the law. Conditions: none. -/
import Derived.Test.YthciheopcofcpaaMks
namespace Go.Proofs.Ythciheopcofcpaa
open Go.RowKit
set_option linter.unusedVariables false

/-- Lists of texts of the law's own, each in a block of its own; what the world W had is as it was. -/
def Ls (W : World) (M : List (Nat × List (List UInt8))) (w' : World) : Prop :=
  Below W.heap.size W w' ∧ (∀ (i : Nat) g ls, M[i]? = some (g, ls) → W.heap.size ≤ g ∧ SM w' g ls) ∧ (∀ (i j : Nat) g g' ls ls', M[i]? = some (g, ls) → M[j]? = some (g', ls') → i ≠ j → g ≠ g')
theorem Ls.zero (W : World) : Ls W [] W := ⟨Below.refl _ _, fun i g ls h => by simp at h, fun i j g g' ls ls' h => by simp at h⟩
theorem Ls.call {W w1 w2 : World} {M : List (Nat × List (List UInt8))} (hb : Below w1.heap.size w1 w2) (h : Ls W M w1) : Ls W M w2 :=
  ⟨h.1.trans (hb.mono h.1.size), fun i g ls hi => ⟨(h.2.1 i g ls hi).1, (h.2.1 i g ls hi).2.heap (hb.block g (h.2.1 i g ls hi).2.lt)⟩, h.2.2⟩
theorem Ls.add {W w1 w2 : World} {M : List (Nat × List (List UInt8))} (h : Ls W M w1) (hb : Below w1.heap.size w1 w2) {g : Nat} {ls : List (List UInt8)} (hg : w1.heap.size ≤ g) (hm : SM w2 g ls) : Ls W (M ++ [(g, ls)]) w2 := by
  have hc := Ls.call hb h
  have old : ∀ (i : Nat) g' ls', M[i]? = some (g', ls') → g' < g := fun i g' ls' hi => Nat.lt_of_lt_of_le (h.2.1 i g' ls' hi).2.lt hg
  have key : ∀ (i : Nat) g' ls', (M ++ [(g, ls)])[i]? = some (g', ls') → M[i]? = some (g', ls') ∨ (i = M.length ∧ g' = g ∧ ls' = ls) := fun i g' ls' hi => by
    rw [List.getElem?_append] at hi
    split at hi
    · exact .inl hi
    · have e0 : i - M.length = 0 := by
        have := (List.getElem?_eq_some_iff.1 hi).1
        simp at this; omega
      rw [e0] at hi
      simp at hi
      exact .inr ⟨by omega, hi.1.symm, hi.2.symm⟩
  refine ⟨hc.1, fun i g' ls' hi => ?_, fun i j g1 g2 l1 l2 hi hj hne => ?_⟩
  · rcases key i g' ls' hi with h' | ⟨_, rfl, rfl⟩
    · exact hc.2.1 i g' ls' h'
    · exact ⟨Nat.le_trans h.1.size hg, hm⟩
  · rcases key i g1 l1 hi with h1 | ⟨e1, rfl, rfl⟩
    · rcases key j g2 l2 hj with h2 | ⟨e2, rfl, rfl⟩
      · exact h.2.2 i j g1 g2 l1 l2 h1 h2 hne
      · exact Nat.ne_of_lt (old i g1 l1 h1)
    · rcases key j g2 l2 hj with h2 | ⟨e2, rfl, rfl⟩
      · exact Ne.symm (Nat.ne_of_lt (old j g2 l2 h2))
      · omega
theorem Ls.at {W w' : World} {M : List (Nat × List (List UInt8))} (h : Ls W M w') (i : Nat) {g : Nat} {ls : List (List UInt8)} (hi : M[i]? = some (g, ls)) : SM w' g ls := (h.2.1 i g ls hi).2
theorem Ls.sb {W w' : World} {M : List (Nat × List (List UInt8))} (h : Ls W M w') (i : Nat) {g : Nat} {ls : List (List UInt8)} (hi : M[i]? = some (g, ls)) : Strs w' (some ⟨g, 0, none⟩) ls := (h.at i hi).strs
theorem Ls.below {W w' : World} {M : List (Nat × List (List UInt8))} (h : Ls W M w') : Below W.heap.size W w' := h.1
theorem Ls.mark {W w1 w2 : World} {M : List (Nat × List (List UInt8))} (h : Ls W M w1) (i : Nat) {g : Nat} {ls ls' : List (List UInt8)} (hi : M[i]? = some (g, ls)) (hb : But g w1 w2) (hm : SM w2 g ls') : Ls W (M.set i (g, ls')) w2 := by
  have hlt : i < M.length := (List.getElem?_eq_some_iff.1 hi).1
  have hg := (h.2.1 i g ls hi).1
  have key : ∀ (j : Nat) g' l', (M.set i (g, ls'))[j]? = some (g', l') → (j = i ∧ g' = g ∧ l' = ls') ∨ (j ≠ i ∧ M[j]? = some (g', l')) := fun j g' l' hj => by
    rw [List.getElem?_set] at hj
    by_cases e : i = j
    · subst e; rw [if_pos rfl, if_pos hlt] at hj; simp at hj; exact .inl ⟨rfl, hj.1.symm, hj.2.symm⟩
    · rw [if_neg e] at hj; exact .inr ⟨fun h => e h.symm, hj⟩
  have hB : Below W.heap.size w1 w2 := hb.1 _ hg h.1.size
  refine ⟨h.1.trans hB, fun j g' l' hj => ?_, fun j k g1 g2 l1 l2 hj hk hne => ?_⟩
  · rcases key j g' l' hj with ⟨_, rfl, rfl⟩ | ⟨hne, hj'⟩
    · exact ⟨hg, hm⟩
    · have hs := (h.2.1 j g' l' hj').2
      exact ⟨(h.2.1 j g' l' hj').1, hs.heap (hb.2 g' hs.lt (h.2.2 j i g' g l' ls hj' hi hne))⟩
  · rcases key j g1 l1 hj with ⟨e1, rfl, rfl⟩ | ⟨n1, hj'⟩
    · rcases key k g2 l2 hk with ⟨e2, rfl, rfl⟩ | ⟨n2, hk'⟩
      · omega
      · exact h.2.2 i k _ g2 ls l2 hi hk' (by omega)
    · rcases key k g2 l2 hk with ⟨e2, rfl, rfl⟩ | ⟨n2, hk'⟩
      · exact h.2.2 j i g1 _ l1 ls hj' hi n1
      · exact h.2.2 j k g1 g2 l1 l2 hj' hk' hne

theorem mark1 (g cap : Nat) (ls : List (List UInt8)) (hl : ls.length ≤ 2000000) (w : World) (h : SM w g ls) :
    Calls Try.prog 33 #[.slice (some ⟨g, 0, none⟩) ls.length cap, .int .i64 1] w fun e w' => e = .returned (.int .i64 (1 + (ls.length : Int))) ∧ SM w' g (mks 1 ls.length) ∧ But g w w' :=
  markS_any g cap ls 1 (by omega) (by omega) (by omega) w h
theorem mark2 (g cap m : Nat) (ls : List (List UInt8)) (hm : m ≤ 2000000) (hl : ls.length ≤ 2000000) (w : World) (h : SM w g ls) :
    Calls Try.prog 33 #[.slice (some ⟨g, 0, none⟩) ls.length cap, .int .i64 (1 + (m : Int))] w fun e w' => e = .returned (.int .i64 (1 + (m : Int) + (ls.length : Int))) ∧ SM w' g (mks (1 + m) ls.length) ∧ But g w w' := by
  have := markS_any g cap ls (1 + m) (by omega) (by omega) (by omega) w h
  rw [show ((1 + m : Nat) : Int) = 1 + (m : Int) by omega] at this
  exact this
theorem held1 (g cap n : Nat) (hl : n ≤ 2000000) (w : World) (h : SM w g (mks 1 n)) :
    Calls Try.prog 34 #[.slice (some ⟨g, 0, none⟩) n cap, .int .i64 1] w fun e w' => e = .returned (.int .i64 (1 + (n : Int))) ∧ Below w.heap.size w w' :=
  heldS_any g cap n 1 (by omega) (by omega) (by omega) w h
set_option maxHeartbeats 400000 in
theorem mark0' (A : Option Addr) (cap n : Nat) (hn : n = 0) (w : World) : Calls Try.prog 33 #[.slice A n cap, .int .i64 1] w fun e w' => e = .returned (.int .i64 1) ∧ w = w' := by
  go_enter Try.func33, Try.ntmps33
  go_wp2
  go_loop [1, 5] (fun q i => q = .int .i64 1 ∧ i = .int .i64 0) (fun _ _ => 0)
  case atStart => exact ⟨rfl, rfl⟩
  case round =>
    obtain ⟨rfl, rfl⟩ := hrel
    have h0 : ¬ ((0 : Int) < n) := by omega
    go_wp2
    go_ret
    exact ⟨rfl, rfl⟩
theorem mark0 (A : Option Addr) (cap : Nat) (w : World) : Calls Try.prog 33 #[.slice A 0 cap, .int .i64 1] w fun e w' => e = .returned (.int .i64 1) ∧ w = w' := mark0' A cap 0 rfl w
set_option maxHeartbeats 400000 in
theorem held0' (A : Option Addr) (cap n : Nat) (hn : n = 0) (w : World) : Calls Try.prog 34 #[.slice A n cap, .int .i64 1] w fun e w' => e = .returned (.int .i64 1) ∧ w = w' := by
  go_enter Try.func34, Try.ntmps34
  go_wp2
  go_loop [1, 5] (fun q i => q = .int .i64 1 ∧ i = .int .i64 0) (fun _ _ => 0)
  case atStart => exact ⟨rfl, rfl⟩
  case round =>
    obtain ⟨rfl, rfl⟩ := hrel
    have h0 : ¬ ((0 : Int) < n) := by omega
    go_wp2
    go_ret
    exact ⟨rfl, rfl⟩
theorem held0 (A : Option Addr) (cap : Nat) (w : World) : Calls Try.prog 34 #[.slice A 0 cap, .int .i64 1] w fun e w' => e = .returned (.int .i64 1) ∧ w = w' := held0' A cap 0 rfl w
theorem eq0 (A1 A2 : Option Addr) (c1 c2 : Nat) (w : World) : Calls Try.prog 17 #[.slice A1 0 c1, .slice A2 0 c2] w fun e w' => e = .returned (.bool true) ∧ Below w.heap.size w w' :=
  eqS_any A1 A2 c1 c2 [] (by simp) w (Strs.nil _ _) (Strs.nil _ _)
theorem szR_two {f : List (List UInt8)} (h : tot f ≤ 1048576) : szR 1048576 f = ((1048576 - tot f : Nat) : Int) := by unfold szR; rw [if_pos h]; omega
theorem szR_left {left : Nat} {g : List (List UInt8)} : (tot g ≤ left → ¬ szR left g < 0) ∧ (¬ tot g ≤ left → szR left g < 0) := by
  unfold szR
  exact ⟨fun h => by rw [if_pos h]; omega, fun h => by rw [if_neg h]; omega⟩

set_option maxRecDepth 100000 in
set_option maxHeartbeats 6400000 in
theorem comLawY (A1 A2 : Option Addr) (cap1 cap2 : Nat) (f g : List (List UInt8)) (hm1 : f.length ≤ 9223372036854775807) (hL1 : ∀ k, k < f.length → (stAt f k).length ≤ 9223372036854775807) (hm2 : g.length ≤ 9223372036854775807) (hL2 : ∀ k, k < g.length → (stAt g k).length ≤ 9223372036854775807)
    (ht1 : tot f ≤ 1048576) (ht2 : tot g ≤ 1048576 - tot f) (f4 : f.length = 4) (g4 : g.length = 4) (r : List (List UInt8)) (r4 : r.length = 4)
    (hs : ∀ (A1 A2 : Option Addr) (c1 c2 : Nat) w, Strs w A1 f → Strs w A2 g → Calls Try.prog 31 #[.slice A1 f.length c1, .slice A2 g.length c2] w fun e w' => ∃ gg cc, e = .returned (.tuple #[.slice (some ⟨gg, 0, none⟩) r.length cc, .int .i64 0]) ∧ w.heap.size ≤ gg ∧ SM w' gg r ∧ Below w.heap.size w w')
    (hi : ∀ (A1 A2 : Option Addr) (c1 c2 : Nat) w, Strs w A1 f → Strs w A2 g → Calls Try.prog 32 #[.slice A1 f.length c1, .slice A2 g.length c2] w fun e w' => ∃ gg cc, e = .returned (.tuple #[.slice (some ⟨gg, 0, none⟩) r.length cc, .int .i64 0]) ∧ w.heap.size ≤ gg ∧ SM w' gg r ∧ Below w.heap.size w w') (w : World) (h1 : Strs w A1 f) (h2 : Strs w A2 g) :
    Calls Try.prog 10 #[.slice A1 f.length cap1, .slice A2 g.length cap2] w fun e w' => e = .returned (.bool true) ∧ Below w.heap.size w w' := by
  have H1 := Lib.hid h1
  have H2 := Lib.hid h2
  have hfl : f.length ≤ 1048576 := by unfold tot at ht1; omega
  have hgl : g.length ≤ 1048576 := by unfold tot at ht2; omega
  have hf2 : f.length ≤ 2000000 := by omega
  have hg2 : g.length ≤ 2000000 := by omega
  have hrl : r.length ≤ 1048576 := by omega
  have hr2 : r.length ≤ 2000000 := by omega
  clear r4 f4 g4
  have Z1 := Lib.hid (show ∀ w, Strs w A1 f → Calls Try.prog 13 #[.slice A1 f.length cap1, .int .i64 1048576] w fun e w' => e = .returned (.int .i64 (szR 1048576 f)) ∧ w = w' from fun w h => szS_any A1 cap1 f hm1 hL1 1048576 (by omega) w h)
  rw [szR_two ht1] at Z1
  have Z2 := Lib.hid (show ∀ w, Strs w A2 g → _ from fun w h => szS_any A2 cap2 g hm2 hL2 (1048576 - tot f) (by omega) w h)
  have hz := szR_left.1 ht2
  generalize szR (1048576 - tot f) g = z at *
  have q0 : ¬ ((1048576 - tot f : Nat) : Int) < 0 := by omega
  generalize ((1048576 - tot f : Nat) : Int) = q at *
  have S0 := Ls.zero w
  have KS := Lib.hid hs
  have KI := Lib.hid hi
  clear h1 h2 hs hi hL1 hL2 ht1 ht2
  go_enter Try.func10, Try.ntmps10
  go_wp2_with (first
    | (go_at_call_of 13 (Value.slice A1 f.length cap1); refine (Z1.out _ H1.out).mono ?_; rintro e w1 ⟨rfl, rfl⟩)
    | (go_at_call_of 13 (Value.slice A2 g.length cap2); refine (Z2.out _ H2.out).mono ?_; rintro e w1 ⟨rfl, rfl⟩)
    | (go_at_call_of 15 (Value.slice A1 f.length cap1); refine (toS_any _ _ f hfl _ (H1.out.below (Ls.below (by assumption)))).mono ?_; rintro e w1 ⟨rfl, hs1, hb1⟩; have hS := Ls.add (by assumption) hb1 (Nat.le_refl _) (SM.of hs1); clear hs1 hb1)
    | (go_at_call_of 15 (Value.slice A2 g.length cap2); refine (toS_any _ _ g hgl _ (H2.out.below (Ls.below (by assumption)))).mono ?_; rintro e w1 ⟨rfl, hs1, hb1⟩; have hS := Ls.add (by assumption) hb1 (Nat.le_refl _) (SM.of hs1); clear hs1 hb1)
    | (go_at_call 31; refine (KS.out _ _ _ _ _ (Ls.sb (by assumption) 0 rfl) (Ls.sb (by assumption) 1 rfl)).mono ?_; rintro e w1 ⟨gs, cs, rfl, hg, hm, hb⟩; have hS := Ls.add (by assumption) hb hg hm; clear hb hg hm)
    | (go_at_call 32; have _t := gi; clear _t; refine (KI.out _ _ _ _ _ (Ls.sb (by assumption) 8 rfl) (Ls.sb (by assumption) 9 rfl)).mono ?_; rintro e w1 ⟨gh, ch, rfl, hg, hm, hb⟩; have hS := Ls.add (by assumption) hb hg hm; clear hb hg hm)
    | (go_at_call 32; refine (KI.out _ _ _ _ _ (Ls.sb (by assumption) 3 rfl) (Ls.sb (by assumption) 4 rfl)).mono ?_; rintro e w1 ⟨gi, ci, rfl, hg, hm, hb⟩; have hS := Ls.add (by assumption) hb hg hm; clear hb hg hm)
    | (go_at_call_of 17 gi; refine (eqS_any _ _ _ _ r hrl _ (Ls.sb (by assumption) 5 rfl) (Ls.sb (by assumption) 2 rfl)).mono ?_; rintro e w1 ⟨rfl, hb⟩; have hS := Ls.call hb (by assumption); clear hb)
    | (go_at_call_of 17 gh; refine (eqS_any _ _ _ _ r hrl _ (Ls.sb (by assumption) 10 rfl) (Ls.sb (by assumption) 2 rfl)).mono ?_; rintro e w1 ⟨rfl, hb⟩; have hS := Ls.call hb (by assumption); clear hb)
    | (go_at_call_of 17 (List.length g); refine (eqS_any _ _ _ _ g hgl _ (Ls.sb (by assumption) 4 rfl) (Ls.sb (by assumption) 7 rfl)).mono ?_; rintro e w1 ⟨rfl, hb⟩; have hS := Ls.call hb (by assumption); clear hb)
    | (go_at_call_of 17 (List.length f); refine (eqS_any _ _ _ _ f hfl _ (Ls.sb (by assumption) 3 rfl) (Ls.sb (by assumption) 6 rfl)).mono ?_; rintro e w1 ⟨rfl, hb⟩; have hS := Ls.call hb (by assumption); clear hb)
    | (go_at_call_of 33 gi; refine (mark1 _ _ r hr2 _ (Ls.at (by assumption) 5 rfl)).mono ?_; rintro e w1 ⟨rfl, hm, hb⟩; have hS := Ls.mark (by assumption) 5 rfl hb hm; clear hb hm)
    | (go_at_call_of 33 (List.length g); refine (mark2 _ _ f.length g hf2 hg2 _ (Ls.at (by assumption) 4 rfl)).mono ?_; rintro e w1 ⟨rfl, hm, hb⟩; have hS := Ls.mark (by assumption) 4 rfl hb hm; clear hb hm)
    | (go_at_call_of 33 (List.length f); refine (mark1 _ _ f hf2 _ (Ls.at (by assumption) 3 rfl)).mono ?_; rintro e w1 ⟨rfl, hm, hb⟩; have hS := Ls.mark (by assumption) 3 rfl hb hm; clear hb hm)
    | (go_at_call 34; refine (held1 _ _ r.length hr2 _ (Ls.at (by assumption) 5 rfl)).mono ?_; rintro e w1 ⟨rfl, hb⟩; have hS := Ls.call hb (by assumption); clear hb))
  go_ret
  exact ⟨rfl, Ls.below (by assumption)⟩

set_option maxRecDepth 100000 in
set_option maxHeartbeats 6400000 in
theorem comLawE (A1 A2 : Option Addr) (cap1 cap2 : Nat) (f g : List (List UInt8)) (hm1 : f.length ≤ 9223372036854775807) (hL1 : ∀ k, k < f.length → (stAt f k).length ≤ 9223372036854775807) (hm2 : g.length ≤ 9223372036854775807) (hL2 : ∀ k, k < g.length → (stAt g k).length ≤ 9223372036854775807)
    (ht1 : tot f ≤ 1048576) (ht2 : tot g ≤ 1048576 - tot f) (c : Int)
    (hs : ∀ (A1 A2 : Option Addr) (c1 c2 : Nat) w, Strs w A1 f → Strs w A2 g → Calls Try.prog 31 #[.slice A1 f.length c1, .slice A2 g.length c2] w (SBad w c))
    (hi : ∀ (A1 A2 : Option Addr) (c1 c2 : Nat) w, Strs w A1 f → Strs w A2 g → Calls Try.prog 32 #[.slice A1 f.length c1, .slice A2 g.length c2] w (SBad w c)) (w : World) (h1 : Strs w A1 f) (h2 : Strs w A2 g) :
    Calls Try.prog 10 #[.slice A1 f.length cap1, .slice A2 g.length cap2] w fun e w' => e = .returned (.bool true) ∧ Below w.heap.size w w' := by
  have H1 := Lib.hid h1
  have H2 := Lib.hid h2
  have hfl : f.length ≤ 1048576 := by unfold tot at ht1; omega
  have hgl : g.length ≤ 1048576 := by unfold tot at ht2; omega
  have hf2 : f.length ≤ 2000000 := by omega
  have hg2 : g.length ≤ 2000000 := by omega
  have Z1 := Lib.hid (show ∀ w, Strs w A1 f → Calls Try.prog 13 #[.slice A1 f.length cap1, .int .i64 1048576] w fun e w' => e = .returned (.int .i64 (szR 1048576 f)) ∧ w = w' from fun w h => szS_any A1 cap1 f hm1 hL1 1048576 (by omega) w h)
  rw [szR_two ht1] at Z1
  have Z2 := Lib.hid (show ∀ w, Strs w A2 g → _ from fun w h => szS_any A2 cap2 g hm2 hL2 (1048576 - tot f) (by omega) w h)
  have hz := szR_left.1 ht2
  generalize szR (1048576 - tot f) g = z at *
  have q0 : ¬ ((1048576 - tot f : Nat) : Int) < 0 := by omega
  generalize ((1048576 - tot f : Nat) : Int) = q at *
  have S0 := Ls.zero w
  have KS := Lib.hid hs
  have KI := Lib.hid hi
  clear h1 h2 hs hi hL1 hL2 ht1 ht2
  go_enter Try.func10, Try.ntmps10
  go_wp2_with (first
    | (go_at_call_of 13 (Value.slice A1 f.length cap1); refine (Z1.out _ H1.out).mono ?_; rintro e w1 ⟨rfl, rfl⟩)
    | (go_at_call_of 13 (Value.slice A2 g.length cap2); refine (Z2.out _ H2.out).mono ?_; rintro e w1 ⟨rfl, rfl⟩)
    | (go_at_call_of 15 (Value.slice A1 f.length cap1); refine (toS_any _ _ f hfl _ (H1.out.below (Ls.below (by assumption)))).mono ?_; rintro e w1 ⟨rfl, hs1, hb1⟩; have hS := Ls.add (by assumption) hb1 (Nat.le_refl _) (SM.of hs1); clear hs1 hb1)
    | (go_at_call_of 15 (Value.slice A2 g.length cap2); refine (toS_any _ _ g hgl _ (H2.out.below (Ls.below (by assumption)))).mono ?_; rintro e w1 ⟨rfl, hs1, hb1⟩; have hS := Ls.add (by assumption) hb1 (Nat.le_refl _) (SM.of hs1); clear hs1 hb1)
    | (go_at_call 31; refine (KS.out _ _ _ _ _ (Ls.sb (by assumption) 0 rfl) (Ls.sb (by assumption) 1 rfl)).mono ?_; rintro e w1 ⟨gs, cs, rfl, hb⟩; have hS := Ls.call hb (by assumption); clear hb)
    | (go_at_call 32; refine (KI.out _ _ _ _ _ (Ls.sb (by assumption) 2 rfl) (Ls.sb (by assumption) 3 rfl)).mono ?_; rintro e w1 ⟨gi, ci, rfl, hb⟩; have hS := Ls.call hb (by assumption); clear hb)
    | (go_at_call 32; refine (KI.out _ _ _ _ _ (Ls.sb (by assumption) 6 rfl) (Ls.sb (by assumption) 7 rfl)).mono ?_; rintro e w1 ⟨gh, ch, rfl, hb⟩; have hS := Ls.call hb (by assumption); clear hb)
    | (go_at_call_of 17 (List.length f); refine (eqS_any _ _ _ _ f hfl _ (Ls.sb (by assumption) 2 rfl) (Ls.sb (by assumption) 4 rfl)).mono ?_; rintro e w1 ⟨rfl, hb⟩; have hS := Ls.call hb (by assumption); clear hb)
    | (go_at_call_of 17 (List.length g); refine (eqS_any _ _ _ _ g hgl _ (Ls.sb (by assumption) 3 rfl) (Ls.sb (by assumption) 5 rfl)).mono ?_; rintro e w1 ⟨rfl, hb⟩; have hS := Ls.call hb (by assumption); clear hb)
    | (go_at_call 17; refine (eq0 _ _ _ _ _).mono ?_; rintro e w1 ⟨rfl, hb⟩; have hS := Ls.call hb (by assumption); clear hb)
    | (go_at_call_of 33 (List.length g); refine (mark2 _ _ f.length g hf2 hg2 _ (Ls.at (by assumption) 3 rfl)).mono ?_; rintro e w1 ⟨rfl, hm, hb⟩; have hS := Ls.mark (by assumption) 3 rfl hb hm; clear hb hm)
    | (go_at_call_of 33 (List.length f); refine (mark1 _ _ f hf2 _ (Ls.at (by assumption) 2 rfl)).mono ?_; rintro e w1 ⟨rfl, hm, hb⟩; have hS := Ls.mark (by assumption) 2 rfl hb hm; clear hb hm)
    | (go_at_call 33; refine (mark0 _ _ _).mono ?_; rintro e w1 ⟨rfl, rfl⟩)
    | (go_at_call 34; refine (held0 _ _ _).mono ?_; rintro e w1 ⟨rfl, rfl⟩))
  go_ret
  exact ⟨rfl, Ls.below (by assumption)⟩

set_option maxHeartbeats 800000 in
theorem comBig1 (A1 A2 : Option Addr) (cap1 cap2 : Nat) (f g : List (List UInt8)) (hm1 : f.length ≤ 9223372036854775807) (hL1 : ∀ k, k < f.length → (stAt f k).length ≤ 9223372036854775807) (hm2 : g.length ≤ 9223372036854775807) (hL2 : ∀ k, k < g.length → (stAt g k).length ≤ 9223372036854775807)
    (ht1 : ¬ tot f ≤ 1048576) (w : World) (h1 : Strs w A1 f) (h2 : Strs w A2 g) :
    Calls Try.prog 10 #[.slice A1 f.length cap1, .slice A2 g.length cap2] w fun e w' => e = .returned (.bool true) ∧ Below w.heap.size w w' := by
  have H1 := Lib.hid h1
  have H2 := Lib.hid h2
  have Z1 := Lib.hid (show ∀ w, Strs w A1 f → Calls Try.prog 13 #[.slice A1 f.length cap1, .int .i64 1048576] w fun e w' => e = .returned (.int .i64 (szR 1048576 f)) ∧ w = w' from fun w h => szS_any A1 cap1 f hm1 hL1 1048576 (by omega) w h)
  have hz := sz_no ht1
  generalize szR 1048576 f = z at *
  clear h1 h2 hL1 hL2 ht1
  go_enter Try.func10, Try.ntmps10
  go_wp2_with (first
    | (go_at_call_of 13 (Value.slice A1 f.length cap1); refine (Z1.out _ H1.out).mono ?_; rintro e w1 ⟨rfl, rfl⟩))
  go_ret
  exact ⟨rfl, Below.refl _ _⟩

set_option maxHeartbeats 800000 in
theorem comBig2 (A1 A2 : Option Addr) (cap1 cap2 : Nat) (f g : List (List UInt8)) (hm1 : f.length ≤ 9223372036854775807) (hL1 : ∀ k, k < f.length → (stAt f k).length ≤ 9223372036854775807) (hm2 : g.length ≤ 9223372036854775807) (hL2 : ∀ k, k < g.length → (stAt g k).length ≤ 9223372036854775807)
    (ht1 : tot f ≤ 1048576) (ht2 : ¬ tot g ≤ 1048576 - tot f) (w : World) (h1 : Strs w A1 f) (h2 : Strs w A2 g) :
    Calls Try.prog 10 #[.slice A1 f.length cap1, .slice A2 g.length cap2] w fun e w' => e = .returned (.bool true) ∧ Below w.heap.size w w' := by
  have H1 := Lib.hid h1
  have H2 := Lib.hid h2
  have Z1 := Lib.hid (show ∀ w, Strs w A1 f → Calls Try.prog 13 #[.slice A1 f.length cap1, .int .i64 1048576] w fun e w' => e = .returned (.int .i64 (szR 1048576 f)) ∧ w = w' from fun w h => szS_any A1 cap1 f hm1 hL1 1048576 (by omega) w h)
  rw [szR_two ht1] at Z1
  have Z2 := Lib.hid (show ∀ w, Strs w A2 g → _ from fun w h => szS_any A2 cap2 g hm2 hL2 (1048576 - tot f) (by omega) w h)
  have hz := szR_left.2 ht2
  generalize szR (1048576 - tot f) g = z at *
  have q0 : ¬ ((1048576 - tot f : Nat) : Int) < 0 := by omega
  generalize ((1048576 - tot f : Nat) : Int) = q at *
  clear h1 h2 hL1 hL2 ht1 ht2
  go_enter Try.func10, Try.ntmps10
  go_wp2_with (first
    | (go_at_call_of 13 (Value.slice A1 f.length cap1); refine (Z1.out _ H1.out).mono ?_; rintro e w1 ⟨rfl, rfl⟩)
    | (go_at_call_of 13 (Value.slice A2 g.length cap2); refine (Z2.out _ H2.out).mono ?_; rintro e w1 ⟨rfl, rfl⟩))
  go_ret
  exact ⟨rfl, Below.refl _ _⟩

theorem first_bad {p : Nat → Prop} [DecidablePred p] : ∀ n, (∀ j, j < n → p j) ∨ ∃ k, k < n ∧ (∀ j, j < k → p j) ∧ ¬ p k
  | 0 => .inl fun j hj => by omega
  | n + 1 => by
    rcases first_bad (p := p) n with h | ⟨k, hk, h1, h2⟩
    · by_cases hp : p n
      · exact .inl fun j hj => if e : j = n then e ▸ hp else h j (by omega)
      · exact .inr ⟨n, by omega, h, hp⟩
    · exact .inr ⟨k, by omega, h1, h2⟩
theorem comWalk (A1 : Option Addr) (len1 cap1 : Nat) (f : List (List UInt8)) (A2 : Option Addr) (len2 cap2 : Nat) (g : List (List UInt8)) (w : World)
    (hf0 : f.length = len1 ∧ f.length ≤ 9223372036854775807 ∧ (∀ k, k < f.length → (stAt f k).length ≤ 9223372036854775807) ∧ Strs w A1 f)
    (hg0 : g.length = len2 ∧ g.length ≤ 9223372036854775807 ∧ (∀ k, k < g.length → (stAt g k).length ≤ 9223372036854775807) ∧ Strs w A2 g) :
    Calls Try.prog 10 #[.slice A1 len1 cap1, .slice A2 len2 cap2] w fun e w' => e = .returned (.bool true) ∧ Below w.heap.size w w' := by
  obtain ⟨rfl, hm1, hL1, h1⟩ := hf0
  obtain ⟨rfl, hm2, hL2, h2⟩ := hg0
  by_cases ht1 : tot f ≤ 1048576
  · by_cases ht2 : tot g ≤ 1048576 - tot f
    · have hs1 := sml_of ht1
      have hs2 := sml_of (show tot g ≤ 1048576 by omega)
      cases hf : imOk f
      · exact comLawE A1 A2 cap1 cap2 f g hm1 hL1 hm2 hL2 ht1 ht2 1 (fun A1 A2 c1 c2 w a b => sCom_no1 A1 A2 c1 c2 f g hs1 hs2 hf w a b) (fun A1 A2 c1 c2 w a b => iCom_no1 A1 A2 c1 c2 f g hs1 hs2 hf w a b) w h1 h2
      · cases hg : imOk g
        · exact comLawE A1 A2 cap1 cap2 f g hm1 hL1 hm2 hL2 ht1 ht2 1 (fun A1 A2 c1 c2 w a b => sCom_no2 A1 A2 c1 c2 f g hs1 hs2 hf hg w a b) (fun A1 A2 c1 c2 w a b => iCom_no2 A1 A2 c1 c2 f g hs1 hs2 hf hg w a b) w h1 h2
        · have f4 := (imOk_iff.1 hf).1
          have g4 := (imOk_iff.1 hg).1
          rcases first_bad (p := fun j => (apL g (stAt f j)).length ≤ 40) 4 with hok | ⟨k0, hk0, hlo, hbad⟩
          · refine comLawY A1 A2 cap1 cap2 f g hm1 hL1 hm2 hL2 ht1 ht2 f4 g4 (comL f g) (by rw [comL_len, f4]) (fun A1 A2 c1 c2 w a b => ?_) (fun A1 A2 c1 c2 w a b => ?_) w h1 h2
            · rw [comL_len, f4, g4]; exact sCom_yes A1 A2 c1 c2 f g hs1 hs2 hf hg hok w a b
            · rw [comL_len, f4, g4]; exact iCom_yes A1 A2 c1 c2 f g hs1 hs2 hf hg hok w a b
          · refine comLawE A1 A2 cap1 cap2 f g hm1 hL1 hm2 hL2 ht1 ht2 3 (fun A1 A2 c1 c2 w a b => ?_) (fun A1 A2 c1 c2 w a b => ?_) w h1 h2
            · rw [f4, g4]; exact sCom_bad A1 A2 c1 c2 f g hs1 hs2 hf hg k0 hk0 hlo (by omega) w a b
            · rw [f4, g4]; exact iCom_bad A1 A2 c1 c2 f g hs1 hs2 hf hg k0 hk0 hlo (by omega) w a b
    · exact comBig2 A1 A2 cap1 cap2 f g hm1 hL1 hm2 hL2 ht1 ht2 w h1 h2
  · exact comBig1 A1 A2 cap1 cap2 f g hm1 hL1 hm2 hL2 ht1 w h1 h2
end Go.Proofs.Ythciheopcofcpaa
