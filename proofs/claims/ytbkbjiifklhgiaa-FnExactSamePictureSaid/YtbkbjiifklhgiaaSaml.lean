/- SamePicture: the law's copies compared, and the walk of the law. Conditions: none. -/
import Derived.Test.YtbkbjiifklhgiaaSam
import Derived.Test.YtbkbjiifklhgiaaBlock
import Derived.Deep.RegionHeld3
namespace Go.Proofs.Ytbkbjiifklhgiaa
open Go.RowKit
set_option linter.unusedVariables false
set_option linter.unusedSimpArgs false

set_option maxHeartbeats 800000 in
theorem eqCor_any (a b : Int) (w : World) :
    Calls Try.prog 35 #[.agg #[.int .i32 a, .int .i32 b], .agg #[.int .i32 a, .int .i32 b]] w fun e w' => e = .returned (.bool true) ∧ Below w.heap.size w w' := by
  have hg : ∀ k, k < 2 → (#[Value.int .i32 a, .int .i32 b] : Array Value)[k]? = some (.int .i32 (if k = 0 then a else b)) := fun k h => by
    match k, h with
    | 0, _ => rfl
    | 1, _ => rfl
  have HG := Lib.hid hg
  obtain ⟨cs, hcs⟩ : ∃ cs, cs = (#[Value.int .i32 a, .int .i32 b] : Array Value) := ⟨_, rfl⟩
  rw [← hcs] at HG ⊢
  clear hg hcs
  go_enter Try.func35, Try.ntmps35
  go_wp2
  go_loopw [5] (fun i wr => ∃ k : Nat, k ≤ 2 ∧ i = .int .i64 k ∧ ∃ n, wr = ((w.alloc (.cells cs 36)).alloc (.cells cs 36)).drewN n) (fun i _ => 2 - (intOf i).toNat)
  case atStart => exact ⟨0, by omega, rfl, 0, rfl⟩
  case round =>
    obtain ⟨k, hk, rfl, n, rfl⟩ := hrel
    by_cases hlt : k < 2
    · have g1 := HG.out k hlt
      obtain ⟨z, hz⟩ : ∃ z : Int, z = if k = 0 then a else b := ⟨_, rfl⟩
      rw [← hz] at g1
      have i1 : (0 : Int) ≤ (k : Int) := by omega
      have i2 : (k : Int) < 2 := by omega
      clear hz
      go_wp2
      go_quiet (fail)
      go_wp2
      go_roundw
      case rel => exact ⟨k + 1, by omega, by go_num, n + nq, rfl⟩
      case measure => simp [intOf]; omega
    · obtain rfl : k = 2 := by omega
      go_wp2
      go_ret
      refine ⟨rfl, ?_⟩
      exact below_drewN (below_al (below_al (Below.refl _ _) (Nat.le_refl _) _) (Nat.le_refl _) _) _

theorem eqCor_list (xs : List Int) (h : xs.length = 2) (w : World) :
    Calls Try.prog 35 #[.agg (xs.map (Value.int .i32)).toArray, .agg (xs.map (Value.int .i32)).toArray] w fun e w' => e = .returned (.bool true) ∧ Below w.heap.size w w' := by
  match xs, h with
  | [a, b], _ => exact eqCor_any a b w

set_option maxHeartbeats 1600000 in
theorem eqBlk_any (xs ys : List Int) (hx : xs.length = 2) (hy : ys.length = 16) (w : World) :
    Calls Try.prog 91 #[.agg (blk xs ys).toArray, .agg (blk xs ys).toArray] w fun e w' => e = .returned (.bool true) ∧ Below w.heap.size w w' := by
  have hS := St.two w (.cells (blk xs ys).toArray 87) (.cells (blk xs ys).toArray 87)
  have X2 := Lib.hid hx
  have Y2 := Lib.hid hy
  have HS := Lib.hid hS
  have RX : ∀ (w' : World) (g : Nat), w'.heap[g]? = some (.cells (blk xs ys).toArray 87 (0, 0)) → w'.rangeAt g 0 (xs.map (Value.int .i32)) ∧ w'.rangeAt g 2 (ys.map (Value.int .u16)) := fun w' g h => by
    have r0 := range_row h
    have r1 := range_right (X := xs.map (Value.int .i32)) (Y := ys.map (Value.int .u16)) r0
    rw [List.length_map, X2.out, Nat.zero_add] at r1
    exact ⟨range_left r0, r1⟩
  have i36 := Lib.hid (show (Try.prog.info? 36).map (·.size) = some (xs.map (Value.int .i32)).length by rw [List.length_map, hx]; kernel_rfl)
  have i26 := Lib.hid (show (Try.prog.info? 26).map (·.size) = some (ys.map (Value.int .u16)).length by rw [List.length_map, hy]; kernel_rfl)
  have HR := Lib.hid RX
  clear hx hy hS RX
  go_enter Try.func91, Try.ntmps91
  have hS := HS.out
  clear HS
  go_wp2_with (first
    | (refine wpList_load_mid rfl 36 (.tmp 5) rfl w.heap.size 0 rfl (xs.map (Value.int .i32)) _ (HR.out _ _ (St.get (by assumption) 0 rfl)).1 Try.underlying36 rfl i36.out ?_)
    | (refine wpList_load_mid rfl 36 (.tmp 7) rfl (w.heap.size + 1) 0 rfl (xs.map (Value.int .i32)) _ (HR.out _ _ (St.get (by assumption) 1 rfl)).1 Try.underlying36 rfl i36.out ?_)
    | (go_at_call 35; refine (eqCor_list xs X2.out _).mono ?_; rintro e w1 ⟨rfl, hb⟩; have hS1 := St.call hb (by assumption); clear hb)
    | (refine wpList_load_mid rfl 26 (.tmp 11) rfl w.heap.size 2 rfl (ys.map (Value.int .u16)) _ (HR.out _ _ (St.get hS1 0 rfl)).2 Try.underlying26 rfl i26.out ?_)
    | (refine wpList_load_mid rfl 26 (.tmp 13) rfl (w.heap.size + 1) 2 rfl (ys.map (Value.int .u16)) _ (HR.out _ _ (St.get hS1 1 rfl)).2 Try.underlying26 rfl i26.out ?_)
    | (go_at_call 24; refine (eqMask_any ys Y2.out _).mono ?_; rintro e w2 ⟨rfl, hb⟩; have hS2 := St.call hb hS1; clear hb))
  go_ret
  exact ⟨rfl, hS2.below⟩

set_option maxHeartbeats 1600000 in
theorem eqBls_any (A1 A2 : Option Addr) (n c1 c2 : Nat) (X Y : Nat → List Int) (hn : n ≤ 1048576) (hX : ∀ k, k < n → (X k).length = 2 ∧ (Y k).length = 16) (w : World) (h1 : Bls w A1 n X Y) (h2 : Bls w A2 n X Y) :
    Calls Try.prog 62 #[.slice A1 n c1, .slice A2 n c2] w fun e w' => e = .returned (.bool true) ∧ Below w.heap.size w w' := by
  have H1 := Lib.hid h1
  have H2 := Lib.hid h2
  have HX := Lib.hid hX
  clear h1 h2 hX
  go_enter Try.func62, Try.ntmps62
  go_wp2
  go_loopw [5] (fun i wr => ∃ k : Nat, k ≤ n ∧ i = .int .i64 k ∧ Below w.heap.size w wr) (fun i _ => n - (intOf i).toNat)
  case atStart => exact ⟨0, by omega, rfl, Below.refl _ _⟩
  case round =>
    obtain ⟨k, hk, rfl, hb⟩ := hrel
    by_cases hlt : k < n
    · have i0 : (0 : Int) ≤ k := by omega
      have i1 : (k : Int) < n := by omega
      obtain ⟨b1, o1, rfl, hl1, hc1⟩ := H1.out.call hb (by omega)
      obtain ⟨b2, o2, rfl, hl2, hc2⟩ := H2.out.call hb (by omega)
      have R1 := hc1 k hlt
      have R2 := hc2 k hlt
      have L := Lib.hid (blk_len (HX.out k hlt).1 (HX.out k hlt).2)
      have HK := Lib.hid (HX.out k hlt)
      clear hc1 hc2
      go_wp2
      refine wp_region_held_drew (S := fun w' => w'.rangeAt b1 (o1 + k * 18) (blk (X k) (Y k)) ∧ w'.rangeAt b2 (o2 + k * 18) (blk (X k) (Y k)) ∧ b1 < w'.heap.size ∧ b2 < w'.heap.size ∧ Below w.heap.size w w') (by kernel_rfl) ⟨R1, R2, hl1, hl2, hb.drew⟩ (fun hHeld => ?_)
      refine wpAnyH_take (i := 0) (v := ?v1) rfl (by kernel_rfl) (by kernel_rfl) (by kernel_rfl) (fun _ _ _ h => h) ?hy1 (by assumption) ?rest1
      case hy1 => (refine Or.inl ⟨by rfl, ?_⟩; intro w hSw; clear hSw; go_simp; with_reducible rfl)
      try simp only [Act.put, List.setIfInBounds_toArray, List.set_cons_zero, List.set_cons_succ, List.getElem_toArray, List.getElem_cons_zero, List.getElem_cons_succ]
      refine wpAnyH_take (i := 1) (v := ?v2) rfl (by kernel_rfl) (by kernel_rfl) (by kernel_rfl) (fun _ _ _ h => h) ?hy2 (by assumption) ?rest2
      case hy2 => (refine Or.inl ⟨by rfl, ?_⟩; intro w hSw; clear hSw; go_simp; with_reducible rfl)
      try simp only [Act.put, List.setIfInBounds_toArray, List.set_cons_zero, List.set_cons_succ, List.getElem_toArray, List.getElem_cons_zero, List.getElem_cons_succ]
      refine wpAnyH_take (i := 2) (v := ?v3) rfl (by kernel_rfl) (by kernel_rfl) (by kernel_rfl) (fun _ _ _ h => h) ?hy3 (by assumption) ?rest3
      case hy3 => (refine Or.inl ⟨by rfl, ?_⟩; intro w hSw; clear hSw; go_simp; with_reducible rfl)
      try simp only [Act.put, List.setIfInBounds_toArray, List.set_cons_zero, List.set_cons_succ, List.getElem_toArray, List.getElem_cons_zero, List.getElem_cons_succ]
      refine wpAnyH_take (i := 3) (v := (.agg (blk (X k) (Y k)).toArray)) rfl (by kernel_rfl) (by kernel_rfl) (by kernel_rfl) (fun _ _ _ h => h) ?hy4 (by assumption) ?rest4
      case hy4 => refine yieldsIf_load_mid (by rfl) 87 (.tmp 19) rfl b1 (o1 + k * 18) rfl (blk (X k) (Y k)) _ (by intro w hw; exact hw.1) Try.underlying87 rfl (by rw [L.out]; exact info87)
      try simp only [Act.put, List.setIfInBounds_toArray, List.set_cons_zero, List.set_cons_succ, List.getElem_toArray, List.getElem_cons_zero, List.getElem_cons_succ]
      refine wpAnyH_take (i := 4) (v := ?v5) rfl (by kernel_rfl) (by kernel_rfl) (by kernel_rfl) (fun _ _ _ h => h) ?hy5 (by assumption) ?rest5
      case hy5 => (refine Or.inl ⟨by rfl, ?_⟩; intro w hSw; clear hSw; go_simp; with_reducible rfl)
      try simp only [Act.put, List.setIfInBounds_toArray, List.set_cons_zero, List.set_cons_succ, List.getElem_toArray, List.getElem_cons_zero, List.getElem_cons_succ]
      refine wpAnyH_take (i := 5) (v := ?v6) rfl (by kernel_rfl) (by kernel_rfl) (by kernel_rfl) (fun _ _ _ h => h) ?hy6 (by assumption) ?rest6
      case hy6 => (refine Or.inl ⟨by rfl, ?_⟩; intro w hSw; clear hSw; go_simp; with_reducible rfl)
      try simp only [Act.put, List.setIfInBounds_toArray, List.set_cons_zero, List.set_cons_succ, List.getElem_toArray, List.getElem_cons_zero, List.getElem_cons_succ]
      refine wpAnyH_take (i := 6) (v := ?v7) rfl (by kernel_rfl) (by kernel_rfl) (by kernel_rfl) (fun _ _ _ h => h) ?hy7 (by assumption) ?rest7
      case hy7 => (refine Or.inl ⟨by rfl, ?_⟩; intro w hSw; clear hSw; go_simp; with_reducible rfl)
      try simp only [Act.put, List.setIfInBounds_toArray, List.set_cons_zero, List.set_cons_succ, List.getElem_toArray, List.getElem_cons_zero, List.getElem_cons_succ]
      refine wpAnyH_take (i := 7) (v := (.agg (blk (X k) (Y k)).toArray)) rfl (by kernel_rfl) (by kernel_rfl) (by kernel_rfl) (fun _ _ _ h => h) ?hy8 (by assumption) ?rest8
      case hy8 => refine yieldsIf_load_mid (by rfl) 87 (.tmp 23) rfl b2 (o2 + k * 18) rfl (blk (X k) (Y k)) _ (by intro w hw; exact hw.2.1) Try.underlying87 rfl (by rw [L.out]; exact info87)
      try simp only [Act.put, List.setIfInBounds_toArray, List.set_cons_zero, List.set_cons_succ, List.getElem_toArray, List.getElem_cons_zero, List.getElem_cons_succ]
      refine wpAnyH_ready (rs := [8]) (by kernel_rfl) (by simp) ?_
      refine AllReadyH.cons rfl (fun K hK => ?_) AllReadyH.nil
      go_simp
      refine (eqBlk_any (X k) (Y k) HK.out.1 HK.out.2 _).mono ?_
      rintro e w1 ⟨rfl, hb1⟩
      have hN : w1.rangeAt b1 (o1 + k * 18) (blk (X k) (Y k)) ∧ w1.rangeAt b2 (o2 + k * 18) (blk (X k) (Y k)) ∧ b1 < w1.heap.size ∧ b2 < w1.heap.size ∧ Below w.heap.size w w1 := ⟨rangeAt_call hHeld.1 hb1 hHeld.2.2.1, rangeAt_call hHeld.2.1 hb1 hHeld.2.2.2.1, Nat.lt_of_lt_of_le hHeld.2.2.1 hb1.size, Nat.lt_of_lt_of_le hHeld.2.2.2.1 hb1.size, hHeld.2.2.2.2.trans (hb1.mono hHeld.2.2.2.2.size)⟩
      refine hK.out _ _ hN (fun hHeld2 => ?_)
      clear hK K
      try simp only [Act.put, List.setIfInBounds_toArray, List.set_cons_zero, List.set_cons_succ, List.getElem_toArray, List.getElem_cons_zero, List.getElem_cons_succ]
      refine wpAnyH_take (i := 9) (v := ?v9) rfl (by kernel_rfl) (by kernel_rfl) (by kernel_rfl) (fun _ _ _ h => h) ?hy9 hN ?rest9
      case hy9 => (refine Or.inl ⟨by rfl, ?_⟩; intro w hSw; clear hSw; go_simp; with_reducible rfl)
      try simp only [Act.put, List.setIfInBounds_toArray, List.set_cons_zero, List.set_cons_succ, List.getElem_toArray, List.getElem_cons_zero, List.getElem_cons_succ]
      refine wpAnyH_done (by kernel_rfl) ?_ _
      have hbF := hN.2.2.2.2
      clear hN
      go_wp2
      go_roundw
      case rel => exact ⟨k + 1, by omega, by go_num, hbF⟩
      case measure => simp [intOf]; omega
    · obtain rfl : k = n := by omega
      go_wp2
      go_ret
      exact ⟨rfl, hb⟩
end Go.Proofs.Ytbkbjiifklhgiaa
