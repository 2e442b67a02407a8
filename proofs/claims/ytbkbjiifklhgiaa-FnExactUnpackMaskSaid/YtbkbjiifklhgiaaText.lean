/- MaskText: the walks of both sides. Conditions: none. -/
import Derived.Test.YtbkbjiifklhgiaaCell
import Derived.Test.YtbkbjiifklhgiaaByt
namespace Go.Proofs.Ytbkbjiifklhgiaa
open Go.RowKit

theorem info5 : (Try.prog.info? 5).map (fun i => (i.zero, i.size, i.bytes)) = some (some (.int .u8 0), 1, 1) := by kernel_rfl

/-- The sign of a cell. -/
def sign (b : Bool) : UInt8 := if b then 35 else 46
/-- The first x signs of row y. -/
def rowTo (zs : List Int) (y x : Nat) : List UInt8 := (List.range x).map fun i => sign (has zs i y)
/-- The text of the first y rows. -/
def textTo (zs : List Int) (y : Nat) : List UInt8 := (List.range y).flatMap fun j => rowTo zs j 16 ++ [10]
theorem rowTo_snoc (zs : List Int) (y x : Nat) : rowTo zs y (x + 1) = rowTo zs y x ++ [sign (has zs x y)] := by simp [rowTo, List.range_succ]
theorem textTo_snoc (zs : List Int) (y : Nat) : textTo zs (y + 1) = textTo zs y ++ rowTo zs y 16 ++ [10] := by simp [textTo, List.range_succ]
theorem rowTo_len (zs : List Int) (y x : Nat) : (rowTo zs y x).length = x := by simp [rowTo]
theorem textTo_len (zs : List Int) (y : Nat) : (textTo zs y).length = 17 * y := by
  induction y with
  | zero => rfl
  | succ y ih => rw [textTo_snoc]; simp [ih, rowTo_len]; omega

set_option maxHeartbeats 400000 in
theorem has_any (zs : List Int) (hz : zs.length = 16) (b x y : Nat) (hx : x < 16) (hy : y < 16) (w : World) (hb : w.heap[b]? = some (.cells (mk zs) 26 (0, 0))) :
    Calls Try.prog 67 #[.pointer (some ⟨b, 0, none⟩), .int .i64 x, .int .i64 y] w fun e w' => e = .returned (.bool (has zs x y)) ∧ w = w' := by
  have g1 : w.cell? ⟨b, y, none⟩ = some (.int .u16 (nth zs y)) := by rw [cell_of_row w b y _ _ _ hb]; exact mk_get zs y (by omega)
  have i1 : (x : Int) ≤ 15 := by omega
  have i2 : (y : Int) ≤ 15 := by omega
  clear hb
  go_enter Try.func67, Try.ntmps67
  go_wp2
  go_ret
  exact ⟨rfl, rfl⟩

set_option maxHeartbeats 800000 in
theorem sText (zs : List Int) (hz : zs.length = 16) (w : World) :
    Calls Try.prog 31 #[.agg (mk zs)] w fun e w' => e = .returned (.string ⟨(textTo zs 16).toArray⟩) ∧ Below w.heap.size w w' := by
  go_enter Try.func31, Try.ntmps31
  go_wp2
  go_loopw [3, 4] (fun v y wr => ∃ k : Nat, k ≤ 16 ∧ y = .int .i64 k ∧ Own wr (w.heap.size + 1) 5 v (textTo zs k) ∧ Below (w.heap.size + 1) (w.alloc (.cells (mk zs) 26)) wr) (fun _ y _ => 16 - (intOf y).toNat)
  case atStart => exact ⟨0, by omega, rfl, by have := own_made (w.alloc (.cells (mk zs) 26)) (w.heap.size + 1) 5 (by simp); rw [size_al] at this; exact this, (Below.refl _ _).alloc (by simp) _⟩
  case round =>
    obtain ⟨k, hk, rfl, hown, hbel⟩ := hrel
    obtain ⟨wo, rfl⟩ : ∃ wo : World, wo = wr := ⟨_, rfl⟩
    by_cases hlt : k < 16
    · have tl := textTo_len zs k
      have i1 : (k : Int) < 16 := by omega
      go_wp2
      go_loopw [3, 5] (fun v x wr => ∃ j : Nat, j ≤ 16 ∧ x = .int .i64 j ∧ Own wr (w.heap.size + 1) 5 v (textTo zs k ++ rowTo zs k j) ∧ Below (w.heap.size + 1) (w.alloc (.cells (mk zs) 26)) wr) (fun _ x _ => 16 - (intOf x).toNat)
      case atStart => exact ⟨0, by omega, rfl, by simpa [rowTo] using hown, hbel⟩
      case round =>
        obtain ⟨j, hj, rfl, hown2, hbel2⟩ := hrel
        have ll : (textTo zs k ++ rowTo zs k j).length < 1000000000 := by simp [tl, rowTo_len]; omega
        by_cases hjt : j < 16
        · have hbox : wr.heap[w.heap.size]? = some (.cells (mk zs) 26 (0, 0)) := by rw [hbel2.block _ (by omega)]; exact one_first _ _
          have HB := Lib.hid hbox
          clear hbox hown tl
          have rs := rowTo_snoc zs k j
          have HR := Lib.hid rs
          clear rs
          cases hh : has zs j k
          all_goals
            go_wp2_with (first
              | (go_at_call 67; refine (has_any zs hz _ j k hjt hlt _ HB.out).mono ?_; rintro e w1 ⟨rfl, rfl⟩)
              | (at_builtin; refine wpList_pushByte rfl (.tmp 18) (.tmp 19) 45 rfl (w.heap.size + 1) 5 Try.underlying45 info5 _ _ 35 35 rfl rfl hown2 hbel2 (by simp) rfl ll ?_)
              | (at_builtin; refine wpList_pushByte rfl (.tmp 21) (.tmp 22) 45 rfl (w.heap.size + 1) 5 Try.underlying45 info5 _ _ 46 46 rfl rfl hown2 hbel2 (by simp) rfl ll ?_))
            intro v' w' hO hB
            go_wp2
            go_roundw
            case rel => exact ⟨j + 1, by omega, by go_num, by rw [HR.out, hh]; simpa [sign] using hO, hB⟩
            case measure => simp [intOf]; omega
        · obtain rfl : j = 16 := by omega
          have tn := textTo_snoc zs k
          have HR := Lib.hid tn
          clear tn hown tl
          go_wp2_with (at_builtin; refine wpList_pushByte rfl (.tmp 24) (.tmp 25) 45 rfl (w.heap.size + 1) 5 Try.underlying45 info5 _ _ 10 10 rfl rfl hown2 hbel2 (by simp) rfl ll ?_)
          intro v' w' hO hB
          go_wp2
          go_roundw
          case rel => exact ⟨k + 1, by omega, by go_num, by rw [HR.out]; simpa using hO, hB⟩
          case measure => simp [intOf]; omega
    · obtain rfl : k = 16 := by omega
      go_wp2_with (refine wpList_str rfl (.tmp 27) 45 9 rfl (w.heap.size + 1) 5 Try.underlying45 Try.underlying5 Try.underlying9 (textTo zs 16) hown ?_)
      go_ret
      exact ⟨rfl, (below_al (Below.refl _ _) (Nat.le_refl _) _).trans (hbel.mono (by omega))⟩

set_option maxHeartbeats 800000 in
theorem iText (zs : List Int) (hz : zs.length = 16) (w : World) :
    Calls Try.prog 32 #[.agg (mk zs)] w fun e w' => e = .returned (.string ⟨(textTo zs 16).toArray⟩) ∧ Below w.heap.size w w' := by
  have hi := infoSize26 zs hz
  go_enter Try.func32, Try.ntmps32
  go_wp2_with (refine wpList_load_row rfl 26 (.tmp 1) rfl w.heap.size rfl 26 (mk zs) (0, 0) _ (two_first _ _ _) Try.underlying26 rfl hi ?_)
  go_loopw [3, 9] (fun v y wr => ∃ k : Nat, k ≤ 16 ∧ y = .int .i64 k ∧ Own wr (w.heap.size + 1) 5 v (textTo zs k) ∧ Below (w.heap.size + 1) (w.alloc (.cells (mk zs) 26)) wr) (fun _ y _ => 16 - (intOf y).toNat)
  case atStart => exact ⟨0, by omega, rfl, by have := own_made (w.alloc (.cells (mk zs) 26)) (w.heap.size + 1) 5 (by simp); rw [size_al] at this; exact this, (Below.refl _ _).alloc (by simp) _⟩
  case round =>
    obtain ⟨k, hk, rfl, hown, hbel⟩ := hrel
    obtain ⟨wo, rfl⟩ : ∃ wo : World, wo = wr := ⟨_, rfl⟩
    by_cases hlt : k < 16
    · have tl := textTo_len zs k
      have i1 : (k : Int) < 16 := by omega
      have hix := run_index_mk zs hz k hlt
      go_wp2
      go_loopw [3, 12] (fun v x wr => ∃ j : Nat, j ≤ 16 ∧ x = .int .i64 j ∧ Own wr (w.heap.size + 1) 5 v (textTo zs k ++ rowTo zs k j) ∧ Below (w.heap.size + 1) (w.alloc (.cells (mk zs) 26)) wr) (fun _ x _ => 16 - (intOf x).toNat)
      case atStart => exact ⟨0, by omega, rfl, by simpa [rowTo] using hown, hbel⟩
      case round =>
        obtain ⟨j, hj, rfl, hown2, hbel2⟩ := hrel
        have ll : (textTo zs k ++ rowTo zs k j).length < 1000000000 := by simp [tl, rowTo_len]; omega
        by_cases hjt : j < 16
        · clear hown tl
          have i2 : (j : Int) < 16 := by omega
          have rs := rowTo_snoc zs k j
          have HR := Lib.hid rs
          clear rs
          cases hh : has zs j k
          all_goals
            have HH := Lib.hid hh
            unfold has at hh
            go_wp2_with (first
              | (at_builtin; refine wpList_pushByte rfl (.tmp 20) (.tmp 21) 45 rfl (w.heap.size + 1) 5 Try.underlying45 info5 _ _ 35 35 rfl rfl hown2 hbel2 (by simp) rfl ll ?_)
              | (at_builtin; refine wpList_pushByte rfl (.tmp 23) (.tmp 24) 45 rfl (w.heap.size + 1) 5 Try.underlying45 info5 _ _ 46 46 rfl rfl hown2 hbel2 (by simp) rfl ll ?_))
            intro v' w' hO hB
            go_wp2
            go_roundw
            case rel => exact ⟨j + 1, by omega, by go_num, by rw [HR.out, HH.out]; simpa [sign] using hO, hB⟩
            case measure => simp [intOf]; omega
        · obtain rfl : j = 16 := by omega
          have tn := textTo_snoc zs k
          have HR := Lib.hid tn
          clear tn hown tl
          go_wp2_with (at_builtin; refine wpList_pushByte rfl (.tmp 27) (.tmp 28) 45 rfl (w.heap.size + 1) 5 Try.underlying45 info5 _ _ 10 10 rfl rfl hown2 hbel2 (by simp) rfl ll ?_)
          intro v' w' hO hB
          go_wp2
          go_roundw
          case rel => exact ⟨k + 1, by omega, by go_num, by rw [HR.out]; simpa using hO, hB⟩
          case measure => simp [intOf]; omega
    · obtain rfl : k = 16 := by omega
      go_wp2_with (refine wpList_str rfl (.tmp 31) 45 9 rfl (w.heap.size + 1) 5 Try.underlying45 Try.underlying5 Try.underlying9 (textTo zs 16) hown ?_)
      go_ret
      exact ⟨rfl, (below_al (Below.refl _ _) (Nat.le_refl _) _).trans (hbel.mono (by omega))⟩

set_option maxHeartbeats 400000 in
theorem textWalk (zs : List Int) (w : World) (hz : zs.length = 16) (_ : ∀ z ∈ zs, (Lit.int .u16 z).wf = true) :
    Calls Try.prog 8 #[.agg (zs.map (Value.int .u16)).toArray] w fun e w' => e = .returned (.bool true) ∧ Below w.heap.size w w' := by
  show Calls Try.prog 8 #[.agg (mk zs)] w _
  have S0 := St.one w (.cells (mk zs) 23)
  have hi := infoSize23 zs hz
  have KS := sText zs hz
  have KI := iText zs hz
  obtain ⟨t, ht⟩ : ∃ t : ByteArray, t = ⟨(textTo zs 16).toArray⟩ := ⟨_, rfl⟩
  rw [← ht] at KS KI
  have HS := Lib.hid KS
  have HI := Lib.hid KI
  clear KS KI ht
  go_enter Try.func8, Try.ntmps8
  go_wp2_with (first
      | (go_at_call 20; refine (toMask_any zs hz _).mono ?_; rintro e w1 ⟨rfl, hb⟩; have hS := St.call hb (by assumption); clear hb)
      | (go_at_call 31; refine (HS.out _).mono ?_; rintro e w1 ⟨rfl, hb⟩; have hS := St.call hb (by assumption); clear hb)
      | (go_at_call 32; refine (HI.out _).mono ?_; rintro e w1 ⟨rfl, hb⟩; have hS := St.call hb (by assumption); clear hb)
      | (refine wpList_load_row rfl 23 (.tmp 1) rfl w.heap.size rfl 23 (mk zs) (0, 0) _ (St.get (by assumption) 0 rfl) Try.underlying23 rfl hi ?_))
  go_ret
  exact ⟨rfl, St.below (by assumption)⟩

end Go.Proofs.Ytbkbjiifklhgiaa
