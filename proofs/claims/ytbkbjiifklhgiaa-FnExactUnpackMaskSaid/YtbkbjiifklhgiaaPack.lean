/- PackMask: the walks of both sides and of the law. Conditions: none. -/
import Derived.Test.YtbkbjiifklhgiaaMark
namespace Go.Proofs.Ytbkbjiifklhgiaa
open Go.RowKit
set_option linter.unusedVariables false

/-- Is the cell with a number set? -/
def hasN (zs : List Int) (i : Nat) : Bool := has zs (i % 16) (i / 16)
/-- The bytes after i cells; is a set run under way; how long it is. -/
def pk (zs : List Int) : Nat → List UInt8 × Bool × Nat
  | 0 => ([], false, 0)
  | i + 1 => if (hasN zs i != (pk zs i).2.1) then ((pk zs i).1 ++ [UInt8.ofNat (pk zs i).2.2], !(pk zs i).2.1, 1) else ((pk zs i).1, (pk zs i).2.1, (pk zs i).2.2 + 1)
theorem pk_lim (zs : List Int) : ∀ i, (pk zs i).2.2 ≤ i ∧ (pk zs i).1.length ≤ i
  | 0 => ⟨Nat.le_refl _, Nat.le_refl _⟩
  | i + 1 => by
    obtain ⟨h1, h2⟩ := pk_lim zs i
    unfold pk
    split
    · simp; omega
    · simp; omega
def packL (zs : List Int) : List UInt8 := (pk zs 256).1
theorem pk_hit {zs : List Int} {i : Nat} (h : (hasN zs i != (pk zs i).2.1) = true) : pk zs (i + 1) = ((pk zs i).1 ++ [UInt8.ofNat (pk zs i).2.2], !(pk zs i).2.1, 1) := by
  show (if _ then _ else _) = _; rw [if_pos h]
theorem pk_miss {zs : List Int} {i : Nat} (h : (hasN zs i != (pk zs i).2.1) = false) : pk zs (i + 1) = ((pk zs i).1, (pk zs i).2.1, (pk zs i).2.2 + 1) := by
  show (if _ then _ else _) = _; rw [if_neg (by simp [h])]
theorem ofNat_small {r : Nat} (h : r ≤ 255) : (r : Int) = ((UInt8.ofNat r).toNat : Int) := by
  rw [UInt8.toNat_ofNat']; omega

set_option maxHeartbeats 400000 in
theorem isSet_any (zs : List Int) (hz : zs.length = 16) (i : Nat) (hi : i < 256) (w : World) :
    Calls Try.prog 83 #[.agg (mk zs), .int .i64 i] w fun e w' => e = .returned (.bool (hasN zs i)) ∧ Below w.heap.size w w' := by
  obtain ⟨y, hy⟩ : ∃ y, y = i / 16 := ⟨_, rfl⟩
  obtain ⟨x, hx⟩ : ∃ x, x = i % 16 := ⟨_, rfl⟩
  have E := Lib.hid (show hasN zs i = has zs x y by unfold hasN; rw [hy, hx])
  have ey : (i : Int) / 16 = (y : Int) := by omega
  have ex : (i : Int) % 16 = (x : Int) := by omega
  have g1 := mk_get zs y (by omega)
  have i0 : (0 : Int) ≤ i := by omega
  have x0 : (0 : Int) ≤ x := by omega
  have i2 : (y : Int) < 16 := by omega
  have y0 : (0 : Int) ≤ y := by omega
  have x1 : (x : Int) < 16 := by omega
  clear hx hy
  go_enter Try.func83, Try.ntmps83
  go_wp2
  go_ret
  exact ⟨by rw [E.out]; rfl, below_al (Below.refl _ _) (Nat.le_refl _) _⟩

set_option maxHeartbeats 1600000 in
theorem sPack (zs : List Int) (hz : zs.length = 16) (w : World) :
    Calls Try.prog 42 #[.agg (mk zs)] w fun e w' => ∃ v, e = .returned v ∧ Own w' (w.heap.size + 1) 5 v (packL zs) ∧ Below w.heap.size w w' := by
  go_enter Try.func42, Try.ntmps42
  go_wp2
  go_loopw [3, 4, 5, 6] (fun v on r i wr => ∃ k : Nat, k ≤ 256 ∧ i = .int .i64 k ∧ on = .bool (pk zs k).2.1 ∧ r = .int .i64 (pk zs k).2.2 ∧ Own wr (w.heap.size + 1) 5 v (pk zs k).1 ∧ Below (w.heap.size + 1) (w.alloc (.cells (mk zs) 26)) wr) (fun _ _ _ i _ => 256 - (intOf i).toNat)
  case atStart => exact ⟨0, by omega, rfl, rfl, rfl, by have := own_made (w.alloc (.cells (mk zs) 26)) (w.heap.size + 1) 5 (by simp); rw [size_al] at this; exact this, (Below.refl _ _).alloc (by simp) _⟩
  case round =>
    obtain ⟨k, hk, rfl, rfl, rfl, hown, hbel⟩ := hrel
    by_cases hlt : k < 256
    · obtain ⟨l1, l2⟩ := pk_lim zs k
      have HHit := Lib.hid (show (hasN zs k != (pk zs k).2.1) = true → _ from fun h => pk_hit h)
      have HMiss := Lib.hid (show (hasN zs k != (pk zs k).2.1) = false → _ from fun h => pk_miss h)
      generalize hP : pk zs k = P at *
      obtain ⟨o, b, r⟩ := P
      simp only at l1 l2 hown HHit HMiss ⊢
      have HP := Lib.hid hP
      obtain ⟨y, hy⟩ : ∃ y, y = k / 16 := ⟨_, rfl⟩
      obtain ⟨x, hx⟩ : ∃ x, x = k % 16 := ⟨_, rfl⟩
      have E := Lib.hid (show hasN zs k = has zs x y by unfold hasN; rw [hy, hx])
      have ey : (k : Int) / 16 = (y : Int) := by omega
      have ex : (k : Int) % 16 = (x : Int) := by omega
      have i0 : (0 : Int) ≤ k := by omega
      have i1 : (k : Int) < 256 := by omega
      have x16 : x < 16 := by omega
      have y16 : y < 16 := by omega
      have hbox : wr.heap[w.heap.size]? = some (.cells (mk zs) 26 (0, 0)) := by rw [hbel.block _ (by omega)]; exact one_first _ _
      have HB := Lib.hid hbox
      have HO := Lib.hid hown
      have er := ofNat_small (r := r) (by omega)
      have r0 : (0 : Int) ≤ r := by omega
      have r1 : (r : Int) ≤ 255 := by omega
      have ll : o.length < 1000000000 := by omega
      have HHas := Lib.hid (show ∀ w, _ from fun w => has_any zs hz w.heap.size x y x16 y16 w)
      have HER := Lib.hid er
      clear hP hx hy hbox hown er
      rw [E.out] at HHit HMiss
      cases b <;> cases hh : has zs x y
      · have HN := Lib.hid (HMiss.out (by rw [hh]; rfl))
        go_wp2_with (go_at_call 67; refine (has_any zs hz _ x y x16 y16 _ HB.out).mono ?_; rintro e w1 ⟨rfl, rfl⟩)
        go_roundw
        case rel => exact ⟨k + 1, by omega, by go_num, by rw [HN.out], by rw [HN.out]; go_num, by rw [HN.out]; exact HO.out, hbel⟩
        case measure => simp [intOf]; omega
      · have HN := Lib.hid (HHit.out (by rw [hh]; rfl))
        go_wp2_with (first
          | (go_at_call 67; refine (has_any zs hz _ x y x16 y16 _ HB.out).mono ?_; rintro e w1 ⟨rfl, rfl⟩)
          | (at_builtin; refine wpList_pushByte rfl (.tmp 19) (.tmp 22) 45 rfl (w.heap.size + 1) 5 Try.underlying45 info5 _ _ (UInt8.ofNat r) _ HER.out rfl HO.out hbel (by simp) rfl ll ?_))
        intro v' w' hO hB
        go_wp2
        go_roundw
        case rel => exact ⟨k + 1, by omega, by go_num, by rw [HN.out]; rfl, by rw [HN.out]; rfl, by rw [HN.out]; exact hO, hB⟩
        case measure => simp [intOf]; omega
      · have HN := Lib.hid (HHit.out (by rw [hh]; rfl))
        go_wp2_with (first
          | (go_at_call 67; refine (has_any zs hz _ x y x16 y16 _ HB.out).mono ?_; rintro e w1 ⟨rfl, rfl⟩)
          | (at_builtin; refine wpList_pushByte rfl (.tmp 19) (.tmp 22) 45 rfl (w.heap.size + 1) 5 Try.underlying45 info5 _ _ (UInt8.ofNat r) _ HER.out rfl HO.out hbel (by simp) rfl ll ?_))
        intro v' w' hO hB
        go_wp2
        go_roundw
        case rel => exact ⟨k + 1, by omega, by go_num, by rw [HN.out]; rfl, by rw [HN.out]; rfl, by rw [HN.out]; exact hO, hB⟩
        case measure => simp [intOf]; omega
      · have HN := Lib.hid (HMiss.out (by rw [hh]; rfl))
        go_wp2_with (go_at_call 67; refine (has_any zs hz _ x y x16 y16 _ HB.out).mono ?_; rintro e w1 ⟨rfl, rfl⟩)
        go_roundw
        case rel => exact ⟨k + 1, by omega, by go_num, by rw [HN.out], by rw [HN.out]; go_num, by rw [HN.out]; exact HO.out, hbel⟩
        case measure => simp [intOf]; omega
    · obtain rfl : k = 256 := by omega
      go_wp2
      go_ret
      exact ⟨_, rfl, hown, (below_al (Below.refl _ _) (Nat.le_refl _) _).trans (hbel.mono (by omega))⟩
theorem own_call {w w' : World} {B : Nat} {e : TypeId} {v : Value} {l : List UInt8} (h : Own w B e v l) (hb : Below w.heap.size w w') : Own w' B e v l := by
  refine ⟨⟨h.1.1, ?_⟩, h.2⟩
  rcases h.1.2 with h0 | ⟨g, cap, cur, h1, h2, h3, h4⟩
  · exact .inl h0
  · exact .inr ⟨g, cap, cur, h1, h2, by rw [hb.block _ (Array.getElem?_eq_some_iff.1 h3).1]; exact h3, h4⟩
set_option maxHeartbeats 1600000 in
theorem iPack (zs : List Int) (hz : zs.length = 16) (w : World) :
    Calls Try.prog 43 #[.agg (mk zs)] w fun e w' => ∃ v, e = .returned v ∧ Own w' (w.heap.size + 1) 5 v (packL zs) ∧ Below w.heap.size w w' := by
  have hi := infoSize26 zs hz
  go_enter Try.func43, Try.ntmps43
  go_wp2
  go_loopw [3, 4, 5, 8] (fun v fr on i wr => ∃ (k : Nat) (F : Int), k ≤ 256 ∧ i = .int .i64 k ∧ on = .bool (pk zs k).2.1 ∧ fr = .int .i64 F ∧ (k : Int) - F = (pk zs k).2.2 ∧ Own wr (w.heap.size + 1) 5 v (pk zs k).1 ∧ Below (w.heap.size + 1) (w.alloc (.cells (mk zs) 26)) wr) (fun _ _ _ i _ => 256 - (intOf i).toNat)
  case atStart => exact ⟨0, 0, by omega, rfl, rfl, rfl, rfl, by have := own_made (w.alloc (.cells (mk zs) 26)) (w.heap.size + 1) 5 (by simp); rw [size_al] at this; exact this, (Below.refl _ _).alloc (by simp) _⟩
  case round =>
    obtain ⟨k, F, hk, rfl, rfl, rfl, hF, hown, hbel⟩ := hrel
    by_cases hlt : k < 256
    · obtain ⟨l1, l2⟩ := pk_lim zs k
      have HHit := Lib.hid (show (hasN zs k != (pk zs k).2.1) = true → _ from fun h => pk_hit h)
      have HMiss := Lib.hid (show (hasN zs k != (pk zs k).2.1) = false → _ from fun h => pk_miss h)
      generalize hP : pk zs k = P at *
      obtain ⟨o, b, r⟩ := P
      simp only at l1 l2 hown HHit HMiss hF ⊢
      have HP := Lib.hid hP
      have i0 : (0 : Int) ≤ k := by omega
      have i1 : (k : Int) < 256 := by omega
      have hbox : wr.heap[w.heap.size]? = some (.cells (mk zs) 26 (0, 0)) := by rw [hbel.block _ (by omega)]; exact one_first _ _
      have HB := Lib.hid hbox
      have HO := Lib.hid hown
      have hsz : w.heap.size + 1 ≤ wr.heap.size := by have := hbel.size; simp at this; omega
      have er := ofNat_small (r := r) (by omega)
      have r0 : (0 : Int) ≤ r := by omega
      have r1 : (r : Int) ≤ 255 := by omega
      have ll : o.length < 1000000000 := by omega
      have F0 : 0 ≤ F := by omega
      have F1 : F ≤ 256 := by omega
      have HS := Lib.hid (show ∀ w, _ from fun w => isSet_any zs hz k hlt w)
      have HER := Lib.hid er
      have HF := Lib.hid hF
      clear hP hbox hown er
      generalize hasN zs k = s at *
      cases b <;> cases s
      · have HN := Lib.hid (HMiss.out rfl)
        go_wp2_with (first
          | (refine wpList_load_row rfl 26 (.tmp 1) rfl w.heap.size rfl 26 (mk zs) (0, 0) _ HB.out Try.underlying26 rfl hi ?_)
          | (go_at_call 83; refine (HS.out _).mono ?_; rintro e w1 ⟨rfl, hb1⟩))
        have hbF := hbel.trans (hb1.mono (by omega))
        go_wp2
        go_roundw
        case rel => exact ⟨k + 1, F, by omega, by go_num, by rw [HN.out], rfl, by rw [HN.out]; have := HF.out; show ((k + 1 : Nat) : Int) - F = ((r + 1 : Nat) : Int); omega, by rw [HN.out]; exact own_call HO.out hb1, hbF⟩
        case measure => simp [intOf]; omega
      · have HN := Lib.hid (HHit.out rfl)
        go_wp2_with (first
          | (refine wpList_load_row rfl 26 (.tmp 1) rfl w.heap.size rfl 26 (mk zs) (0, 0) _ HB.out Try.underlying26 rfl hi ?_)
          | (go_at_call 83; refine (HS.out _).mono ?_; rintro e w1 ⟨rfl, hb1⟩; have hbF := hbel.trans (hb1.mono (by omega)))
          | (at_builtin; refine wpList_pushByte rfl (.tmp 16) (.tmp 21) 45 rfl (w.heap.size + 1) 5 Try.underlying45 info5 _ _ (UInt8.ofNat r) _ HER.out rfl (own_call HO.out hb1) hbF (by simp) rfl ll ?_))
        intro v' w' hO hB
        go_wp2
        go_roundw
        case rel => exact ⟨k + 1, k, by omega, by go_num, by rw [HN.out]; rfl, rfl, by rw [HN.out]; show ((k + 1 : Nat) : Int) - k = ((1 : Nat) : Int); omega, by rw [HN.out]; exact hO, hB⟩
        case measure => simp [intOf]; omega
      · have HN := Lib.hid (HHit.out rfl)
        go_wp2_with (first
          | (refine wpList_load_row rfl 26 (.tmp 1) rfl w.heap.size rfl 26 (mk zs) (0, 0) _ HB.out Try.underlying26 rfl hi ?_)
          | (go_at_call 83; refine (HS.out _).mono ?_; rintro e w1 ⟨rfl, hb1⟩; have hbF := hbel.trans (hb1.mono (by omega)))
          | (at_builtin; refine wpList_pushByte rfl (.tmp 16) (.tmp 21) 45 rfl (w.heap.size + 1) 5 Try.underlying45 info5 _ _ (UInt8.ofNat r) _ HER.out rfl (own_call HO.out hb1) hbF (by simp) rfl ll ?_))
        intro v' w' hO hB
        go_wp2
        go_roundw
        case rel => exact ⟨k + 1, k, by omega, by go_num, by rw [HN.out]; rfl, rfl, by rw [HN.out]; show ((k + 1 : Nat) : Int) - k = ((1 : Nat) : Int); omega, by rw [HN.out]; exact hO, hB⟩
        case measure => simp [intOf]; omega
      · have HN := Lib.hid (HMiss.out rfl)
        go_wp2_with (first
          | (refine wpList_load_row rfl 26 (.tmp 1) rfl w.heap.size rfl 26 (mk zs) (0, 0) _ HB.out Try.underlying26 rfl hi ?_)
          | (go_at_call 83; refine (HS.out _).mono ?_; rintro e w1 ⟨rfl, hb1⟩))
        have hbF := hbel.trans (hb1.mono (by omega))
        go_wp2
        go_roundw
        case rel => exact ⟨k + 1, F, by omega, by go_num, by rw [HN.out], rfl, by rw [HN.out]; have := HF.out; show ((k + 1 : Nat) : Int) - F = ((r + 1 : Nat) : Int); omega, by rw [HN.out]; exact own_call HO.out hb1, hbF⟩
        case measure => simp [intOf]; omega
    · obtain rfl : k = 256 := by omega
      go_wp2
      go_ret
      exact ⟨_, rfl, hown, (below_al (Below.refl _ _) (Nat.le_refl _) _).trans (hbel.mono (by omega))⟩

theorem sPackM (zs : List Int) (hz : zs.length = 16) (w : World) :
    Calls Try.prog 42 #[.agg (mk zs)] w fun e w' => ∃ g cap, e = .returned (.slice (some ⟨g, 0, none⟩) (packL zs).length cap) ∧ w.heap.size ≤ g ∧ MB w' g 5 cap (packL zs).length (fun j => .int .u8 (bt (packL zs) j)) ∧ Below w.heap.size w w' := by
  refine (sPack zs hz w).mono ?_
  rintro e w' ⟨v, rfl, ho, hb⟩
  obtain ⟨g, cap, rfl, hg, hm⟩ := own_mb ho
  exact ⟨g, cap, rfl, by omega, hm, hb⟩
theorem iPackM (zs : List Int) (hz : zs.length = 16) (w : World) :
    Calls Try.prog 43 #[.agg (mk zs)] w fun e w' => ∃ g cap, e = .returned (.slice (some ⟨g, 0, none⟩) (packL zs).length cap) ∧ w.heap.size ≤ g ∧ MB w' g 5 cap (packL zs).length (fun j => .int .u8 (bt (packL zs) j)) ∧ Below w.heap.size w w' := by
  refine (iPack zs hz w).mono ?_
  rintro e w' ⟨v, rfl, ho, hb⟩
  obtain ⟨g, cap, rfl, hg, hm⟩ := own_mb ho
  exact ⟨g, cap, rfl, by omega, hm, hb⟩

set_option maxHeartbeats 1600000 in
theorem packWalk (zs : List Int) (w : World) (hz : zs.length = 16) (hw : ∀ z ∈ zs, (Lit.int .u16 z).wf = true) :
    Calls Try.prog 13 #[.agg (zs.map (Value.int .u16)).toArray] w fun e w' => e = .returned (.bool true) ∧ Below w.heap.size w w' := by
  show Calls Try.prog 13 #[.agg (mk zs)] w _
  have S0 := Ms.zero (w.alloc (.cells (mk zs) 23))
  have hi := infoSize23 zs hz
  have hlen : (packL zs).length ≤ 256 := (pk_lim zs 256).2
  have KS := Lib.hid (show ∀ w, _ from fun w => sPackM zs hz w)
  have KI := Lib.hid (show ∀ w, _ from fun w => iPackM zs hz w)
  generalize packL zs = l at *
  have nn : l.length ≤ 1000000 := by omega
  go_enter Try.func13, Try.ntmps13
  go_wp2_with (first
      | (refine wpList_load_row rfl 23 (.tmp 1) rfl w.heap.size rfl 23 (mk zs) (0, 0) _ (Ms.box (by assumption)) Try.underlying23 rfl hi ?_)
      | (go_at_call 20; refine (toMask_any zs hz _).mono ?_; rintro e w1 ⟨rfl, hb⟩; have hS := Ms.call hb (by assumption); clear hb)
      | (go_at_call 42; refine (KS.out _).mono ?_; rintro e w1 ⟨g0, c0, rfl, hg, hm, hb⟩; have hS := Ms.add (by assumption) hb hg hm; clear hb hg hm)
      | (go_at_call 43; refine (KI.out _).mono ?_; rintro e w1 ⟨g1, c1, rfl, hg, hm, hb⟩; have hlt := Nat.lt_of_lt_of_le (Ms.lt (by assumption) 0 rfl) hg; have hS := Ms.add (by assumption) hb hg hm; clear hb hg hm)
      | (go_at_call 44; refine (eqB_any _ _ _ _ _ _ _ (bt l) nn _ (Ms.at (by assumption) 1 rfl) (Ms.at (by assumption) 0 rfl)).mono ?_; rintro e w1 ⟨rfl, hb⟩; have hS := Ms.call hb (by assumption); clear hb)
      | (go_at_call 44; refine (eqB_any _ _ _ _ _ _ _ (bt l) nn _ (Ms.at (by assumption) 2 rfl) (Ms.at (by assumption) 0 rfl)).mono ?_; rintro e w1 ⟨rfl, hb⟩; have hS := Ms.call hb (by assumption); clear hb)
      | (go_at_call 45; refine (markB1 _ _ _ _ _ nn _ (Ms.at (by assumption) 1 rfl)).mono ?_; rintro e w1 ⟨rfl, hm, hb⟩; have hS := Ms.mark2 (by assumption) (by assumption) hb hm; clear hb hm)
      | (go_at_call 46; refine (heldB1 _ _ _ _ nn _ (Ms.at (by assumption) 1 rfl)).mono ?_; rintro e w1 ⟨rfl, hb⟩; have hS := Ms.call hb (by assumption); clear hb))
  go_ret
  exact ⟨rfl, Ms.end_ (by assumption)⟩
end Go.Proofs.Ytbkbjiifklhgiaa
