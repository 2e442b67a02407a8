/- CellsOf: the walks of both sides. Conditions: none. -/
import Derived.Test.YtbkbjiifklhgiaaText
namespace Go.Proofs.Ytbkbjiifklhgiaa
open Go.RowKit

theorem info35 : (Try.prog.info? 35).map (fun i => (i.zero, i.size, i.bytes)) = some (some (.agg #[.int .i32 0, .int .i32 0]), 2, 8) := by kernel_rfl

/-- The cells of row y in the first x columns. -/
def cellsIn (zs : List Int) (y x : Nat) : List (Nat × Nat) := ((List.range x).filter fun i => has zs i y).map fun i => (i, y)
/-- The cells of the first y rows. -/
def cellsTo (zs : List Int) (y : Nat) : List (Nat × Nat) := (List.range y).flatMap fun j => cellsIn zs j 16
theorem cellsIn_snoc (zs : List Int) (y x : Nat) : cellsIn zs y (x + 1) = cellsIn zs y x ++ if has zs x y then [(x, y)] else [] := by
  simp only [cellsIn, List.range_succ, List.filter_append, List.map_append]
  congr 1
  cases h : has zs x y <;> simp [h]
theorem cellsTo_snoc (zs : List Int) (y : Nat) : cellsTo zs (y + 1) = cellsTo zs y ++ cellsIn zs y 16 := by simp [cellsTo, List.range_succ]
theorem cellsIn_len (zs : List Int) (y x : Nat) : (cellsIn zs y x).length ≤ x := by
  simp only [cellsIn, List.length_map]
  exact Nat.le_trans (List.length_filter_le _ _) (by simp)
theorem cellsTo_len (zs : List Int) (y : Nat) : (cellsTo zs y).length ≤ 16 * y := by
  induction y with
  | zero => simp [cellsTo]
  | succ y ih => rw [cellsTo_snoc, List.length_append]; have := cellsIn_len zs y 16; omega
/-- Cells as values. -/
def pairVals (l : List (Nat × Nat)) : List Value := l.flatMap fun c => [.int .i32 c.1, .int .i32 c.2]
theorem pairVals_snoc (l : List (Nat × Nat)) (x y : Nat) : pairVals (l ++ [(x, y)]) = pairVals l ++ [.int .i32 x, .int .i32 y] := by simp [pairVals]
/-- A list of cells of the call's own. -/
def Cells (w : World) (B : Nat) (v : Value) (l : List (Nat × Nat)) : Prop := Row w B 35 2 v l.length (pairVals l)

/-- 'append(out, [2]int32{x, y})'. -/
theorem wpList_pushCell {W1 wr : World} {ops : Array Oper} {rest : List Oper} {o : Oper} {a : Act} {Q : Exit → Act → World → Prop} (hgd : o.guard = none) (s x : Operand)
    (ho : o.op = .call { callee := .builtin .append, args := #[s, x], argTypes := #[49, 49] })
    (B : Nat) (v : Value) (l : List (Nat × Nat)) (i j : Nat) (hs : a.eval s = v) (hown : Cells wr B v l) (hb : Below B W1 wr) (hBW : B ≤ W1.heap.size)
    (hx : a.eval x = .slice (some ⟨wr.heap.size, 0, none⟩) 1 1) (hlen : l.length < 1000000000)
    (h : ∀ v' w', Cells w' B v' (l ++ [(i, j)]) → Below B W1 w' → wpList Try.prog ops Q rest (a.put o.dst v') w') : wpList Try.prog ops Q (o :: rest) a (wr.alloc (.cells #[.int .i32 i, .int .i32 j] 35)) := by
  refine wpList_push hgd s x 49 ho B 35 (.agg #[.int .i32 0, .int .i32 0]) 2 8 Try.underlying49 info35 rfl (by decide) v l.length (pairVals l) hs hown hb hBW #[.int .i32 i, .int .i32 j] hx rfl (by simp [Value.oneCell']) hlen (by omega) fun v' w' ho hb' => h v' w' ?_ hb'
  unfold Cells
  rw [pairVals_snoc, List.length_append]
  exact ho

set_option maxHeartbeats 800000 in
theorem sCells (zs : List Int) (hz : zs.length = 16) (w : World) :
    Calls Try.prog 47 #[.agg (mk zs)] w fun e w' => ∃ v, e = .returned v ∧ Cells w' (w.heap.size + 1) v (cellsTo zs 16) ∧ Below w.heap.size w w' := by
  have hi := infoSize26 zs hz
  go_enter Try.func47, Try.ntmps47
  go_wp2
  go_loopw [3, 4] (fun v y wr => ∃ k : Nat, k ≤ 16 ∧ y = .int .i64 k ∧ Cells wr (w.heap.size + 1) v (cellsTo zs k) ∧ Below (w.heap.size + 1) (w.alloc (.cells (mk zs) 26)) wr) (fun _ y _ => 16 - (intOf y).toNat)
  case atStart => exact ⟨0, by omega, rfl, by have := row_made (w.alloc (.cells (mk zs) 26)) (w.heap.size + 1) 35 2 (by simp); rw [size_al] at this; exact this, (Below.refl _ _).alloc (by simp) _⟩
  case round =>
    obtain ⟨k, hk, rfl, hown, hbel⟩ := hrel
    obtain ⟨wo, rfl⟩ : ∃ wo : World, wo = wr := ⟨_, rfl⟩
    by_cases hlt : k < 16
    · have tl := cellsTo_len zs k
      have i1 : (k : Int) < 16 := by omega
      have hix := run_index_mk zs hz k hlt
      go_wp2
      go_loopw [3, 5] (fun v x wr => ∃ j : Nat, j ≤ 16 ∧ x = .int .i64 j ∧ Cells wr (w.heap.size + 1) v (cellsTo zs k ++ cellsIn zs k j) ∧ Below (w.heap.size + 1) (w.alloc (.cells (mk zs) 26)) wr) (fun _ x _ => 16 - (intOf x).toNat)
      case atStart => exact ⟨0, by omega, rfl, by simpa [cellsIn] using hown, hbel⟩
      case round =>
        obtain ⟨j, hj, rfl, hown2, hbel2⟩ := hrel
        have ll : (cellsTo zs k ++ cellsIn zs k j).length < 1000000000 := by have := cellsIn_len zs k j; simp; omega
        by_cases hjt : j < 16
        · have hbox : wr.heap[w.heap.size]? = some (.cells (mk zs) 26 (0, 0)) := by rw [hbel2.block _ (by omega)]; exact one_first _ _
          have HB := Lib.hid hbox
          have i2 : (j : Int) < 16 := by omega
          clear hown tl hbox
          have rs := cellsIn_snoc zs k j
          have HR := Lib.hid rs
          have HO := Lib.hid hown2
          clear rs hown2
          cases hh : has zs j k
          all_goals
            have HH := Lib.hid hh
            skip
            go_wp2_with (first
              | (go_at_call 67; refine (has_any zs hz _ j k hjt hlt _ HB.out).mono ?_; rintro e w1 ⟨rfl, rfl⟩)
              | (at_builtin; refine wpList_pushCell rfl (.tmp 18) (.tmp 24) rfl (w.heap.size + 1) _ _ j k rfl HO.out hbel2 (by simp) rfl ll ?_))
            try intro v' w' hO hB
            try go_wp2
            go_roundw
            case rel => exact ⟨j + 1, by omega, by go_num, by rw [HR.out, HH.out]; first | (simpa using hO) | (simpa using HO.out), by assumption⟩
            case measure => simp [intOf]; omega
        · obtain rfl : j = 16 := by omega
          have tn := cellsTo_snoc zs k
          have HR := Lib.hid tn
          clear tn hown tl
          go_wp2
          go_roundw
          case rel => exact ⟨k + 1, by omega, by go_num, by rw [HR.out]; exact hown2, hbel2⟩
          case measure => simp [intOf]; omega
    · obtain rfl : k = 16 := by omega
      go_wp2
      go_ret
      exact ⟨_, rfl, hown, (below_al (Below.refl _ _) (Nat.le_refl _) _).trans (hbel.mono (by omega))⟩

set_option maxHeartbeats 800000 in
theorem iCells (zs : List Int) (hz : zs.length = 16) (w : World) :
    Calls Try.prog 48 #[.agg (mk zs)] w fun e w' => ∃ v, e = .returned v ∧ Cells w' (w.heap.size + 1) v (cellsTo zs 16) ∧ Below w.heap.size w w' := by
  have hi := infoSize26 zs hz
  go_enter Try.func48, Try.ntmps48
  go_wp2_with (refine wpList_load_row rfl 26 (.tmp 1) rfl w.heap.size rfl 26 (mk zs) (0, 0) _ (two_first _ _ _) Try.underlying26 rfl hi ?_)
  go_loopw [3, 9] (fun v y wr => ∃ k : Nat, k ≤ 16 ∧ y = .int .i64 k ∧ Cells wr (w.heap.size + 1) v (cellsTo zs k) ∧ Below (w.heap.size + 1) (w.alloc (.cells (mk zs) 26)) wr) (fun _ y _ => 16 - (intOf y).toNat)
  case atStart => exact ⟨0, by omega, rfl, by have := row_made (w.alloc (.cells (mk zs) 26)) (w.heap.size + 1) 35 2 (by simp); rw [size_al] at this; exact this, (Below.refl _ _).alloc (by simp) _⟩
  case round =>
    obtain ⟨k, hk, rfl, hown, hbel⟩ := hrel
    obtain ⟨wo, rfl⟩ : ∃ wo : World, wo = wr := ⟨_, rfl⟩
    by_cases hlt : k < 16
    · have tl := cellsTo_len zs k
      have i1 : (k : Int) < 16 := by omega
      have hix := run_index_mk zs hz k hlt
      go_wp2
      go_loopw [3, 13] (fun v x wr => ∃ j : Nat, j ≤ 16 ∧ x = .int .i64 j ∧ Cells wr (w.heap.size + 1) v (cellsTo zs k ++ cellsIn zs k j) ∧ Below (w.heap.size + 1) (w.alloc (.cells (mk zs) 26)) wr) (fun _ x _ => 16 - (intOf x).toNat)
      case atStart => exact ⟨0, by omega, rfl, by simpa [cellsIn] using hown, hbel⟩
      case round =>
        obtain ⟨j, hj, rfl, hown2, hbel2⟩ := hrel
        have ll : (cellsTo zs k ++ cellsIn zs k j).length < 1000000000 := by have := cellsIn_len zs k j; simp; omega
        by_cases hjt : j < 16
        · have hbox : wr.heap[w.heap.size]? = some (.cells (mk zs) 26 (0, 0)) := by rw [hbel2.block _ (by omega)]; exact one_first _ _
          have HB := Lib.hid hbox
          have i2 : (j : Int) < 16 := by omega
          clear hown tl hbox
          have rs := cellsIn_snoc zs k j
          have HR := Lib.hid rs
          have HO := Lib.hid hown2
          clear rs hown2
          cases hh : has zs j k
          all_goals
            have HH := Lib.hid hh
            unfold has at hh
            go_wp2_with (first
              | (at_builtin; refine wpList_pushCell rfl (.tmp 21) (.tmp 27) rfl (w.heap.size + 1) _ _ j k rfl HO.out hbel2 (by simp) rfl ll ?_))
            try intro v' w' hO hB
            try go_wp2
            go_roundw
            case rel => exact ⟨j + 1, by omega, by go_num, by rw [HR.out, HH.out]; first | (simpa using hO) | (simpa using HO.out), by assumption⟩
            case measure => simp [intOf]; omega
        · obtain rfl : j = 16 := by omega
          have tn := cellsTo_snoc zs k
          have HR := Lib.hid tn
          clear tn hown tl
          go_wp2
          go_roundw
          case rel => exact ⟨k + 1, by omega, by go_num, by rw [HR.out]; exact hown2, hbel2⟩
          case measure => simp [intOf]; omega
    · obtain rfl : k = 16 := by omega
      go_wp2
      go_ret
      exact ⟨_, rfl, hown, (below_al (Below.refl _ _) (Nat.le_refl _) _).trans (hbel.mono (by omega))⟩

end Go.Proofs.Ytbkbjiifklhgiaa
