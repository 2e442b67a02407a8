/- MaskOf: the walks of both sides. Conditions: none. -/
import Derived.Test.YtbkbjiifklhgiaaPrs
namespace Go.Proofs.Ytbkbjiifklhgiaa
open Go.RowKit
set_option linter.unusedVariables false

def inB (n : Int) : Bool := decide (0 ≤ n) && decide (n ≤ 15)
theorem inB_yes {n : Int} (h : inB n = true) : ∃ k : Nat, n = k ∧ k < 16 := by
  simp [inB] at h
  exact ⟨n.toNat, by omega, by omega⟩
/-- The mask of the first k cells. -/
def mo (f : Nat → Int) : Nat → List Int
  | 0 => zs0
  | k + 1 => (mo f k).set (f (k * 2 + 1)).toNat (bits BinOp.or IntKind.u16 (nth (mo f k) (f (k * 2 + 1)).toNat) (IntKind.u16.wrap (2 ^ (f (k * 2)).toNat)))
theorem mo_len (f : Nat → Int) : ∀ k, (mo f k).length = 16
  | 0 => rfl
  | k + 1 => by show ((mo f k).set _ _).length = 16; rw [List.length_set, mo_len f k]

set_option maxHeartbeats 400000 in
theorem in_any (x y : Int) (w : World) : Calls Try.prog 66 #[.int .i64 x, .int .i64 y] w fun e w' => e = .returned (.bool (inB x && inB y)) ∧ w' = w := by
  have cs : (0 ≤ x ∧ x ≤ 15 ∧ 0 ≤ y ∧ y ≤ 15) ∨ (x < 0) ∨ (0 ≤ x ∧ 15 < x) ∨ (0 ≤ x ∧ x ≤ 15 ∧ y < 0) ∨ (0 ≤ x ∧ x ≤ 15 ∧ 0 ≤ y ∧ 15 < y) := by omega
  rcases cs with ⟨h1, h2, h3, h4⟩ | h1 | ⟨h1, h2⟩ | ⟨h1, h2, h3⟩ | ⟨h1, h2, h3, h4⟩
  · go_enter Try.func66, Try.ntmps66
    go_wp2
    go_ret
    exact ⟨by simp [inB, h1, h2, h3, h4], rfl⟩
  · have d : decide (0 ≤ x) = false := by simp; omega
    go_enter Try.func66, Try.ntmps66
    go_wp2
    go_ret
    exact ⟨by simp [inB, d], rfl⟩
  · have d : decide (x ≤ 15) = false := by simp; omega
    go_enter Try.func66, Try.ntmps66
    go_wp2
    go_ret
    exact ⟨by simp [inB, d], rfl⟩
  · have d : decide (0 ≤ y) = false := by simp; omega
    go_enter Try.func66, Try.ntmps66
    go_wp2
    go_ret
    exact ⟨by simp [inB, d], rfl⟩
  · have d : decide (y ≤ 15) = false := by simp; omega
    go_enter Try.func66, Try.ntmps66
    go_wp2
    go_ret
    exact ⟨by simp [inB, d], rfl⟩
set_option maxHeartbeats 400000 in
theorem pl_any (x : Int) (w : World) : Calls Try.prog 68 #[.int .i64 x] w fun e w' => e = .returned (.bool (inB x)) ∧ w' = w := by
  have cs : (0 ≤ x ∧ x ≤ 15) ∨ (x < 0) ∨ (0 ≤ x ∧ 15 < x) := by omega
  rcases cs with ⟨h1, h2⟩ | h1 | ⟨h1, h2⟩
  · go_enter Try.func68, Try.ntmps68
    go_wp2
    go_ret
    exact ⟨by simp [inB, h1, h2], rfl⟩
  · have d : decide (0 ≤ x) = false := by simp; omega
    go_enter Try.func68, Try.ntmps68
    go_wp2
    go_ret
    exact ⟨by simp [inB, d], rfl⟩
  · have d : decide (x ≤ 15) = false := by simp; omega
    go_enter Try.func68, Try.ntmps68
    go_wp2
    go_ret
    exact ⟨by simp [inB, d], rfl⟩

theorem put_row {w : World} {M y : Nat} {v : Value} {cs : Array Value} {t : TypeId} {fr : Nat × Nat} (h : w.heap[M]? = some (.cells cs t fr)) : (w.setCell ⟨M, y, none⟩ v).heap[M]? = some (.cells (cs.setIfInBounds y v) t fr) := by
  simp [World.setCell, Array.getElem?_modify, h]
theorem put_other {w : World} {M g y : Nat} {v : Value} (h : M ≠ g) : (w.setCell ⟨M, y, none⟩ v).heap[g]? = w.heap[g]? := by
  simp [World.setCell, Array.getElem?_modify, h]
/-- The world in which a mask grows: the result's box, the mask's box. -/
def Gr (w wr : World) (zs : List Int) : Prop := wr.heap[w.heap.size]? = some (.cells (mk zs0) 26 (0, 0)) ∧ wr.heap[w.heap.size + 1]? = some (.cells (mk zs) 26 (0, 0)) ∧ Below w.heap.size w wr
theorem gr_start (w : World) : Gr w (((w.alloc (.cells (mk zs0) 26)).alloc (.cells (mk zs0) 26)).setRow (w.heap.size + 1) (mk zs0)) zs0 := by
  have h := St.fresh (St.one w (.cells (mk zs0) 26)) (mk zs0) (mk zs0) 26
  rw [size_al] at h
  exact ⟨h.get 0 rfl, h.get 1 rfl, h.below⟩
theorem Gr.drewN {w wr : World} {zs : List Int} (h : Gr w wr zs) (q : Nat) : Gr w (wr.drewN q) zs := ⟨h.1, h.2.1, below_drewN h.2.2 q⟩
theorem Gr.put {w wr : World} {zs : List Int} (h : Gr w wr zs) (y : Nat) (z : Int) : Gr w (wr.setCell ⟨w.heap.size + 1, y, none⟩ (.int .u16 z)) (zs.set y z) :=
  ⟨(put_other (by omega)).trans h.1, by rw [put_row h.2.1, mk_set], h.2.2.setCell (p := ⟨w.heap.size + 1, y, none⟩) (by show _ ≤ w.heap.size + 1; omega) _⟩
theorem Gr.cell {w wr : World} {zs : List Int} (h : Gr w wr zs) {y : Nat} (hy : y < zs.length) : wr.cell? ⟨w.heap.size + 1, y, none⟩ = some (.int .u16 (nth zs y)) := by
  simp [World.cell?, h.2.1, mk_get zs y hy]
theorem Gr.free {w wr : World} {zs : List Int} (h : Gr w wr zs) (y : Nat) : wr.frozen? ⟨w.heap.size + 1, y, none⟩ = false := by
  simp [World.frozen?, h.2.1]

set_option maxHeartbeats 3200000 in
theorem sMof (A : Option Addr) (n c : Nat) (f : Nat → Int) (hn : n ≤ 1024) (hf : ∀ k, k < n → inB (f (k * 2)) = true ∧ inB (f (k * 2 + 1)) = true) (w : World) (h : Prs w A n f) :
    Calls Try.prog 55 #[.slice A n c] w fun e w' => e = .returned (.tuple #[.agg (mk (mo f n)), .int .i64 0]) ∧ Below w.heap.size w w' := by
  have H := Lib.hid h
  have HF := Lib.hid hf
  have Z := lit0
  have h1024 : ¬ (1024 : Int) < n := by omega
  clear h hf
  go_enter Try.func55, Try.ntmps55
  go_wp2_with (first | (refine wpList_build rfl 26 #[] rfl bzs ?_) | (refine wpList_store_row rfl 26 (.tmp 4) (.tmp 6) rfl (w.heap.size + 1) (mk zs0) rfl (congrArg Value.agg bz) 26 (mk zs0) (two_second _ _ _) (infoSize26 _ rfl) rfl (mk_one _) ?_))
  go_loopw [5] (fun i wr => ∃ k : Nat, k ≤ n ∧ i = .int .i64 k ∧ Gr w wr (mo f k)) (fun i _ => n - (intOf i).toNat)
  case atStart => exact ⟨0, by omega, rfl, gr_start w⟩
  case round =>
    obtain ⟨k, hk, rfl, hg⟩ := hrel
    by_cases hlt : k < n
    · have i0 : (0 : Int) ≤ k := by omega
      have i1 : (k : Int) < n := by omega
      obtain ⟨b, o, rfl, hbl, hc⟩ := H.out (by omega)
      have hfk := HF.out k hlt
      obtain ⟨x, hx, hx16⟩ := inB_yes hfk.1
      obtain ⟨y, hy, hy16⟩ := inB_yes hfk.2
      have ca : wr.cell? ⟨b, o + k * 2, none⟩ = some (.int .i32 x) := (hg.2.2.cell (p := ⟨b, o + k * 2, none⟩) hbl).trans (by rw [← hx]; exact hc _ (by omega))
      have cb : wr.cell? ⟨b, o + k * 2 + 1, none⟩ = some (.int .i32 y) := (hg.2.2.cell (p := ⟨b, o + k * 2 + 1, none⟩) hbl).trans (by rw [← hy]; exact hc (k * 2 + 1) (by omega))
      have cm := hg.cell (y := y) (by rw [mo_len]; exact hy16)
      have fm := hg.free y
      have hgh := Lib.hid hg
      have hmo : mo f (k + 1) = (mo f k).set y (bits BinOp.or IntKind.u16 (nth (mo f k) y) (IntKind.u16.wrap (2 ^ x))) := by
        show (mo f k).set _ _ = _
        rw [hx, hy]; simp
      have HMO := Lib.hid hmo
      have hin := fun w => in_any x y w
      rw [show (inB x && inB y) = true by rw [← hx, ← hy, hfk.1, hfk.2]; rfl] at hin
      have HIN := Lib.hid hin
      have wx : IntKind.i64.wrap (x : Int) = x := Go.IntWalk.i64_in _ (by omega)
      have wy : IntKind.i64.wrap (y : Int) = y := Go.IntWalk.i64_in _ (by omega)
      have j0 : (0 : Int) ≤ (y : Int) := by omega
      have j1 : (y : Int) < 16 := by omega
      clear hin hmo hg hc hfk hx hy
      go_wp2
      go_quiet ((go_at_call 66; exact Calls.quiet_of_same (HIN.out _)))
      go_wp2
      go_region
      go_wp2
      go_roundw
      case rel => exact ⟨k + 1, by omega, by go_num, by rw [HMO.out]; exact (hgh.out.drewN _).put y _⟩
      case measure => simp [intOf]; omega
    · obtain rfl : k = n := by omega
      have ml := mo_len f k
      have hR := Lib.hid hg.1
      have hM := Lib.hid hg.2.1
      have hB := Lib.hid hg.2.2
      clear hg
      go_wp2_with (first | (refine wpList_load_row rfl 26 (.tmp 4) rfl (w.heap.size + 1) rfl 26 (mk (mo f k)) (0, 0) _ hM.out Try.underlying26 rfl (infoSize26 _ ml) ?_) | (refine wpList_store_row rfl 26 (.tmp 2) (.tmp 48) rfl w.heap.size (mk (mo f k)) rfl rfl 26 (mk zs0) hR.out (infoSize26 _ ml) (mk_same _ ml) (mk_one _) ?_))
      refine bodyPost_ret (results_row_tmp rfl _ _ w.heap.size 26 (mk (mo f k)) (0, 0) _ rfl (setRow_heap _ _ (mk zs0) _ _ _ hR.out) Try.underlying26 rfl (infoSize26 _ ml)) rfl ⟨rfl, ?_⟩
      exact below_setRow hB.out (Nat.le_refl _) _
set_option maxHeartbeats 3200000 in
theorem sMof_bad (A : Option Addr) (n c : Nat) (f : Nat → Int) (hn : n ≤ 1024) (K : Nat) (hK : K < n) (hf : ∀ k, k < K → inB (f (k * 2)) = true ∧ inB (f (k * 2 + 1)) = true) (hb : (inB (f (K * 2)) && inB (f (K * 2 + 1))) = false) (hw : ∀ j, j < n * 2 → (Lit.int .i32 (f j)).wf = true) (w : World) (h : Prs w A n f) :
    Calls Try.prog 55 #[.slice A n c] w fun e w' => e = .returned (.tuple #[.agg (mk zs0), .int .i64 2]) ∧ Below w.heap.size w w' := by
  have H := Lib.hid h
  have HF := Lib.hid hf
  have Z := lit0
  have h1024 : ¬ (1024 : Int) < n := by omega
  have HBad := Lib.hid hb
  have HW := Lib.hid hw
  clear h hf hb hw
  go_enter Try.func55, Try.ntmps55
  go_wp2_with (first | (refine wpList_build rfl 26 #[] rfl bzs ?_) | (refine wpList_store_row rfl 26 (.tmp 4) (.tmp 6) rfl (w.heap.size + 1) (mk zs0) rfl (congrArg Value.agg bz) 26 (mk zs0) (two_second _ _ _) (infoSize26 _ rfl) rfl (mk_one _) ?_))
  go_loopw [5] (fun i wr => ∃ k : Nat, k ≤ K ∧ i = .int .i64 k ∧ Gr w wr (mo f k)) (fun i _ => K - (intOf i).toNat)
  case atStart => exact ⟨0, by omega, rfl, gr_start w⟩
  case round =>
    obtain ⟨k, hk, rfl, hg⟩ := hrel
    by_cases hlt : k < K
    · have i0 : (0 : Int) ≤ k := by omega
      have i1 : (k : Int) < n := by omega
      obtain ⟨b, o, rfl, hbl, hc⟩ := H.out (by omega)
      have hfk := HF.out k hlt
      obtain ⟨x, hx, hx16⟩ := inB_yes hfk.1
      obtain ⟨y, hy, hy16⟩ := inB_yes hfk.2
      have ca : wr.cell? ⟨b, o + k * 2, none⟩ = some (.int .i32 x) := (hg.2.2.cell (p := ⟨b, o + k * 2, none⟩) hbl).trans (by rw [← hx]; exact hc _ (by omega))
      have cb : wr.cell? ⟨b, o + k * 2 + 1, none⟩ = some (.int .i32 y) := (hg.2.2.cell (p := ⟨b, o + k * 2 + 1, none⟩) hbl).trans (by rw [← hy]; exact hc (k * 2 + 1) (by omega))
      have cm := hg.cell (y := y) (by rw [mo_len]; exact hy16)
      have fm := hg.free y
      have hgh := Lib.hid hg
      have hmo : mo f (k + 1) = (mo f k).set y (bits BinOp.or IntKind.u16 (nth (mo f k) y) (IntKind.u16.wrap (2 ^ x))) := by
        show (mo f k).set _ _ = _
        rw [hx, hy]; simp
      have HMO := Lib.hid hmo
      have hin := fun w => in_any x y w
      rw [show (inB x && inB y) = true by rw [← hx, ← hy, hfk.1, hfk.2]; rfl] at hin
      have HIN := Lib.hid hin
      have wx : IntKind.i64.wrap (x : Int) = x := Go.IntWalk.i64_in _ (by omega)
      have wy : IntKind.i64.wrap (y : Int) = y := Go.IntWalk.i64_in _ (by omega)
      have j0 : (0 : Int) ≤ (y : Int) := by omega
      have j1 : (y : Int) < 16 := by omega
      clear hin hmo hg hc hfk hx hy
      go_wp2
      go_quiet ((go_at_call 66; exact Calls.quiet_of_same (HIN.out _)))
      go_wp2
      go_region
      go_wp2
      go_roundw
      case rel => exact ⟨k + 1, by omega, by go_num, by rw [HMO.out]; exact (hgh.out.drewN _).put y _⟩
      case measure => simp [intOf]; omega
    · obtain rfl : k = K := by omega
      have i0 : (0 : Int) ≤ k := by omega
      have i1 : (k : Int) < n := by omega
      obtain ⟨b, o, rfl, hbl, hc⟩ := H.out (by omega)
      have bx := HW.out (k * 2) (by omega)
      have by_ := HW.out (k * 2 + 1) (by omega)
      have hbad := HBad.out
      have ca := (hg.2.2.cell (p := ⟨b, o + k * 2, none⟩) hbl).trans (hc _ (by omega))
      have cb : wr.cell? ⟨b, o + k * 2 + 1, none⟩ = some (.int .i32 (f (k * 2 + 1))) := (hg.2.2.cell (p := ⟨b, o + k * 2 + 1, none⟩) hbl).trans (hc (k * 2 + 1) (by omega))
      clear hc
      generalize f (k * 2) = x at *
      generalize f (k * 2 + 1) = y at *
      have hin := fun w => in_any x y w
      rw [hbad] at hin
      have HIN := Lib.hid hin
      simp [Lit.wf, IntKind.min, IntKind.max, IntKind.signed, IntKind.bits] at bx by_
      have wx : IntKind.i64.wrap x = x := Go.IntWalk.i64_in _ (by omega)
      have wy : IntKind.i64.wrap y = y := Go.IntWalk.i64_in _ (by omega)
      have hR := Lib.hid hg.1
      have hB := Lib.hid hg.2.2
      clear hin hg hbad bx by_
      go_wp2
      go_quiet ((go_at_call 66; exact Calls.quiet_of_same (HIN.out _)))
      go_wp2_with (first | (refine wpList_build rfl 26 #[] rfl bzs ?_) | (refine wpList_store_row rfl 26 (.tmp 2) (.tmp 31) rfl w.heap.size (mk zs0) rfl (congrArg Value.agg bz) 26 (mk zs0) hR.out (infoSize26 _ rfl) rfl (mk_one _) ?_))
      refine bodyPost_ret (results_row_tmp rfl _ _ w.heap.size 26 (mk zs0) (0, 0) _ rfl (setRow_heap _ _ (mk zs0) _ _ _ hR.out) Try.underlying26 rfl (infoSize26 _ rfl)) rfl ⟨rfl, ?_⟩
      exact below_setRow (below_drewN hB.out _) (Nat.le_refl _) _

set_option maxHeartbeats 400000 in
theorem sMof_big (A : Option Addr) (n c : Nat) (hn : 1024 < n) (w : World) :
    Calls Try.prog 55 #[.slice A n c] w fun e w' => e = .returned (.tuple #[.agg (mk zs0), .int .i64 3]) ∧ Below w.heap.size w w' := by
  have Z := lit0
  have h1024 : (1024 : Int) < n := by omega
  go_enter Try.func55, Try.ntmps55
  go_wp2_with (first | (refine wpList_build rfl 26 #[] rfl bzs ?_) | (refine wpList_store_row rfl 26 (.tmp 4) (.tmp 6) rfl (w.heap.size + 1) (mk zs0) rfl (congrArg Value.agg bz) 26 (mk zs0) (two_second _ _ _) (infoSize26 _ rfl) rfl (mk_one _) ?_; have hG := Lib.hid (gr_start w)) | (refine wpList_load_row rfl 26 (.tmp 4) rfl (w.heap.size + 1) rfl 26 (mk zs0) (0, 0) _ hG.out.2.1 Try.underlying26 rfl (infoSize26 _ rfl) ?_) | (refine wpList_store_row rfl 26 (.tmp 2) (.tmp 10) rfl w.heap.size (mk zs0) rfl rfl 26 (mk zs0) hG.out.1 (infoSize26 _ rfl) rfl (mk_one _) ?_))
  refine bodyPost_ret (results_row_tmp rfl _ _ w.heap.size 26 (mk zs0) (0, 0) _ rfl (setRow_heap _ _ (mk zs0) _ _ _ hG.out.1) Try.underlying26 rfl (infoSize26 _ rfl)) rfl ⟨rfl, ?_⟩
  exact below_setRow hG.out.2.2 (Nat.le_refl _) _
set_option maxHeartbeats 400000 in
theorem iMof_big (A : Option Addr) (n c : Nat) (hn : 1024 < n) (w : World) :
    Calls Try.prog 57 #[.slice A n c] w fun e w' => e = .returned (.tuple #[.agg (mk zs0), .int .i64 3]) ∧ Below w.heap.size w w' := by
  have Z := lit0
  have h1024 : (1024 : Int) < n := by omega
  go_enter Try.func57, Try.ntmps57
  go_wp2_with (first | (refine wpList_build rfl 26 #[] rfl bzs ?_) | (refine wpList_store_row rfl 26 (.tmp 2) (.tmp 10) rfl w.heap.size (mk zs0) rfl (congrArg Value.agg bz) 26 (mk zs0) (one_first _ _) (infoSize26 _ rfl) rfl (mk_one _) ?_))
  refine bodyPost_ret (results_row_tmp rfl _ _ w.heap.size 26 (mk zs0) (0, 0) _ rfl (setRow_heap _ _ (mk zs0) _ _ _ (one_first _ _)) Try.underlying26 rfl (infoSize26 _ rfl)) rfl ⟨rfl, ?_⟩
  exact below_setRow (below_al (Below.refl _ _) (Nat.le_refl _) _) (Nat.le_refl _) _

theorem Gr.al {w wr : World} {zs : List Int} (h : Gr w wr zs) (o : Obj) : Gr w (wr.alloc o) zs := by
  have l0 := (Array.getElem?_eq_some_iff.1 h.1).1
  have l1 := (Array.getElem?_eq_some_iff.1 h.2.1).1
  refine ⟨?_, ?_, below_al h.2.2 (Nat.le_refl _) _⟩
  · rw [heap_al, if_neg (by omega)]; exact h.1
  · rw [heap_al, if_neg (by omega)]; exact h.2.1
def two (x y : Int) : Array Value := #[.int .i32 x, .int .i32 y]
theorem two_cell (w : World) (x y : Int) : (w.alloc (.cells (two x y) 35)).cell? ⟨w.heap.size, 0, none⟩ = some (.int .i32 x) ∧ (w.alloc (.cells (two x y) 35)).cell? ⟨w.heap.size, 1, none⟩ = some (.int .i32 y) := by
  have h := one_first w (.cells (two x y) 35)
  constructor
  · unfold World.cell?; rw [h]; rfl
  · unfold World.cell?; rw [h]; rfl
theorem two_info (x y : Int) : (Try.prog.info? 35).map (·.size) = some (two x y).size := by
  show _ = some 2
  kernel_rfl
theorem two_one (x y : Int) : (two x y).all (·.oneCell') = true := by simp [two, Value.oneCell']

set_option maxHeartbeats 3200000 in
theorem iMof (A : Option Addr) (n c : Nat) (f : Nat → Int) (hn : n ≤ 1024) (hf : ∀ k, k < n → inB (f (k * 2)) = true ∧ inB (f (k * 2 + 1)) = true) (w : World) (h : Prs w A n f) :
    Calls Try.prog 57 #[.slice A n c] w fun e w' => e = .returned (.tuple #[.agg (mk (mo f n)), .int .i64 0]) ∧ Below w.heap.size w w' := by
  have H := Lib.hid h
  have HF := Lib.hid hf
  have Z := lit0
  have h1024 : ¬ (1024 : Int) < n := by omega
  clear h hf
  go_enter Try.func57, Try.ntmps57
  go_wp2_with (first | (refine wpList_build rfl 26 #[] rfl bzs ?_) | (refine wpList_store_row rfl 26 (.tmp 4) (.tmp 11) rfl (w.heap.size + 1) (mk zs0) rfl (congrArg Value.agg bz) 26 (mk zs0) (two_second _ _ _) (infoSize26 _ rfl) rfl (mk_one _) ?_))
  go_loopw [14] (fun i wr => ∃ k : Nat, k ≤ n ∧ i = .int .i64 k ∧ Gr w wr (mo f k)) (fun i _ => n - (intOf i).toNat)
  case atStart => exact ⟨0, by omega, rfl, gr_start w⟩
  case round =>
    obtain ⟨k, hk, rfl, hg⟩ := hrel
    by_cases hlt : k < n
    · have i0 : (0 : Int) ≤ k := by omega
      have i1 : (k : Int) < n := by omega
      obtain ⟨b, o, rfl, hbl, hc⟩ := H.out (by omega)
      have hfk := HF.out k hlt
      obtain ⟨x, hx, hx16⟩ := inB_yes hfk.1
      obtain ⟨y, hy, hy16⟩ := inB_yes hfk.2
      have ca : wr.cell? ⟨b, o + k * 2, none⟩ = some (.int .i32 x) := (hg.2.2.cell (p := ⟨b, o + k * 2, none⟩) hbl).trans (by rw [← hx]; exact hc _ (by omega))
      have cb : wr.cell? ⟨b, o + k * 2 + 1, none⟩ = some (.int .i32 y) := (hg.2.2.cell (p := ⟨b, o + k * 2 + 1, none⟩) hbl).trans (by rw [← hy]; exact hc (k * 2 + 1) (by omega))
      have rg : wr.rangeAt b (o + k * 2) [.int .i32 x, .int .i32 y] := fun j v hj => by
        match j, hj with
        | 0, hj => simp at hj; rw [← hj]; exact ca
        | 1, hj => simp at hj; rw [← hj]; exact cb
        | j + 2, hj => simp at hj
      have RG := Lib.hid rg
      have hga := hg.al (.cells (two x y) 35)
      have cm := hga.cell (y := y) (by rw [mo_len]; exact hy16)
      have fm := hga.free y
      obtain ⟨c0, c1⟩ := two_cell wr x y
      unfold two at cm fm c0 c1
      have hgh := Lib.hid hga
      have hmo : mo f (k + 1) = (mo f k).set y (bits BinOp.or IntKind.u16 (nth (mo f k) y) (IntKind.u16.wrap (2 ^ x))) := by
        show (mo f k).set _ _ = _
        rw [hx, hy]; simp
      have HMO := Lib.hid hmo
      have px : inB x = true := by rw [← hx]; exact hfk.1
      have py : inB y = true := by rw [← hy]; exact hfk.2
      have wx : IntKind.i64.wrap (x : Int) = x := Go.IntWalk.i64_in _ (by omega)
      have wy : IntKind.i64.wrap (y : Int) = y := Go.IntWalk.i64_in _ (by omega)
      have j0 : (0 : Int) ≤ (y : Int) := by omega
      have j1 : (y : Int) < 16 := by omega
      clear hmo hg hga hc hfk hx hy rg ca cb
      go_wp2_with (first
        | (refine wpList_load_mid rfl 35 (.tmp 16) rfl b (o + k * 2) rfl _ _ RG.out Try.underlying35 rfl (by kernel_rfl) ?_)
        | (refine wpList_store_row rfl 35 (.tmp 6) (.tmp 17) rfl wr.heap.size (two x y) rfl rfl 35 (two 0 0) (one_first _ _) (two_info _ _) rfl (two_one _ _) ?_; rw [show (wr.alloc (.cells (two 0 0) 35)).setRow wr.heap.size (two x y) = wr.alloc (.cells (two x y) 35) from World.setRow_alloc_new _ _ _ _])
        | (go_at_call 68; refine (pl_any _ _).mono ?_; rintro e w1 ⟨rfl, rfl⟩))
      go_region
      go_wp2
      go_roundw
      case rel => exact ⟨k + 1, by omega, by go_num, by rw [HMO.out]; exact (hgh.out.drewN _).put y _⟩
      case measure => simp [intOf]; omega
    · obtain rfl : k = n := by omega
      have ml := mo_len f k
      have hR := Lib.hid hg.1
      have hM := Lib.hid hg.2.1
      have hB := Lib.hid hg.2.2
      clear hg
      go_wp2_with (first | (refine wpList_load_row rfl 26 (.tmp 4) rfl (w.heap.size + 1) rfl 26 (mk (mo f k)) (0, 0) _ hM.out Try.underlying26 rfl (infoSize26 _ ml) ?_) | (refine wpList_store_row rfl 26 (.tmp 2) (.tmp 41) rfl w.heap.size (mk (mo f k)) rfl rfl 26 (mk zs0) hR.out (infoSize26 _ ml) (mk_same _ ml) (mk_one _) ?_))
      refine bodyPost_ret (results_row_tmp rfl _ _ w.heap.size 26 (mk (mo f k)) (0, 0) _ rfl (setRow_heap _ _ (mk zs0) _ _ _ hR.out) Try.underlying26 rfl (infoSize26 _ ml)) rfl ⟨rfl, ?_⟩
      exact below_setRow hB.out (Nat.le_refl _) _

set_option maxHeartbeats 3200000 in
theorem iMof_bad (A : Option Addr) (n c : Nat) (f : Nat → Int) (hn : n ≤ 1024) (K : Nat) (hK : K < n) (hf : ∀ k, k < K → inB (f (k * 2)) = true ∧ inB (f (k * 2 + 1)) = true) (hb : (inB (f (K * 2)) && inB (f (K * 2 + 1))) = false) (hw : ∀ j, j < n * 2 → (Lit.int .i32 (f j)).wf = true) (w : World) (h : Prs w A n f) :
    Calls Try.prog 57 #[.slice A n c] w fun e w' => e = .returned (.tuple #[.agg (mk zs0), .int .i64 2]) ∧ Below w.heap.size w w' := by
  have H := Lib.hid h
  have HF := Lib.hid hf
  have Z := lit0
  have h1024 : ¬ (1024 : Int) < n := by omega
  have HBad := Lib.hid hb
  have HW := Lib.hid hw
  clear h hf hb hw
  go_enter Try.func57, Try.ntmps57
  go_wp2_with (first | (refine wpList_build rfl 26 #[] rfl bzs ?_) | (refine wpList_store_row rfl 26 (.tmp 4) (.tmp 11) rfl (w.heap.size + 1) (mk zs0) rfl (congrArg Value.agg bz) 26 (mk zs0) (two_second _ _ _) (infoSize26 _ rfl) rfl (mk_one _) ?_))
  go_loopw [14] (fun i wr => ∃ k : Nat, k ≤ K ∧ i = .int .i64 k ∧ Gr w wr (mo f k)) (fun i _ => K - (intOf i).toNat)
  case atStart => exact ⟨0, by omega, rfl, gr_start w⟩
  case round =>
    obtain ⟨k, hk, rfl, hg⟩ := hrel
    by_cases hlt : k < K
    · have i0 : (0 : Int) ≤ k := by omega
      have i1 : (k : Int) < n := by omega
      obtain ⟨b, o, rfl, hbl, hc⟩ := H.out (by omega)
      have hfk := HF.out k hlt
      obtain ⟨x, hx, hx16⟩ := inB_yes hfk.1
      obtain ⟨y, hy, hy16⟩ := inB_yes hfk.2
      have ca : wr.cell? ⟨b, o + k * 2, none⟩ = some (.int .i32 x) := (hg.2.2.cell (p := ⟨b, o + k * 2, none⟩) hbl).trans (by rw [← hx]; exact hc _ (by omega))
      have cb : wr.cell? ⟨b, o + k * 2 + 1, none⟩ = some (.int .i32 y) := (hg.2.2.cell (p := ⟨b, o + k * 2 + 1, none⟩) hbl).trans (by rw [← hy]; exact hc (k * 2 + 1) (by omega))
      have rg : wr.rangeAt b (o + k * 2) [.int .i32 x, .int .i32 y] := fun j v hj => by
        match j, hj with
        | 0, hj => simp at hj; rw [← hj]; exact ca
        | 1, hj => simp at hj; rw [← hj]; exact cb
        | j + 2, hj => simp at hj
      have RG := Lib.hid rg
      have hga := hg.al (.cells (two x y) 35)
      have cm := hga.cell (y := y) (by rw [mo_len]; exact hy16)
      have fm := hga.free y
      obtain ⟨c0, c1⟩ := two_cell wr x y
      unfold two at cm fm c0 c1
      have hgh := Lib.hid hga
      have hmo : mo f (k + 1) = (mo f k).set y (bits BinOp.or IntKind.u16 (nth (mo f k) y) (IntKind.u16.wrap (2 ^ x))) := by
        show (mo f k).set _ _ = _
        rw [hx, hy]; simp
      have HMO := Lib.hid hmo
      have px : inB x = true := by rw [← hx]; exact hfk.1
      have py : inB y = true := by rw [← hy]; exact hfk.2
      have wx : IntKind.i64.wrap (x : Int) = x := Go.IntWalk.i64_in _ (by omega)
      have wy : IntKind.i64.wrap (y : Int) = y := Go.IntWalk.i64_in _ (by omega)
      have j0 : (0 : Int) ≤ (y : Int) := by omega
      have j1 : (y : Int) < 16 := by omega
      clear hmo hg hga hc hfk hx hy rg ca cb
      go_wp2_with (first
        | (refine wpList_load_mid rfl 35 (.tmp 16) rfl b (o + k * 2) rfl _ _ RG.out Try.underlying35 rfl (by kernel_rfl) ?_)
        | (refine wpList_store_row rfl 35 (.tmp 6) (.tmp 17) rfl wr.heap.size (two x y) rfl rfl 35 (two 0 0) (one_first _ _) (two_info _ _) rfl (two_one _ _) ?_; rw [show (wr.alloc (.cells (two 0 0) 35)).setRow wr.heap.size (two x y) = wr.alloc (.cells (two x y) 35) from World.setRow_alloc_new _ _ _ _])
        | (go_at_call 68; refine (pl_any _ _).mono ?_; rintro e w1 ⟨rfl, rfl⟩))
      go_region
      go_wp2
      go_roundw
      case rel => exact ⟨k + 1, by omega, by go_num, by rw [HMO.out]; exact (hgh.out.drewN _).put y _⟩
      case measure => simp [intOf]; omega
    · obtain rfl : k = K := by omega
      have i0 : (0 : Int) ≤ k := by omega
      have i1 : (k : Int) < n := by omega
      obtain ⟨b, o, rfl, hbl, hc⟩ := H.out (by omega)
      have bx := HW.out (k * 2) (by omega)
      have by_ := HW.out (k * 2 + 1) (by omega)
      have hbad := HBad.out
      have ca := (hg.2.2.cell (p := ⟨b, o + k * 2, none⟩) hbl).trans (hc _ (by omega))
      have cb : wr.cell? ⟨b, o + k * 2 + 1, none⟩ = some (.int .i32 (f (k * 2 + 1))) := (hg.2.2.cell (p := ⟨b, o + k * 2 + 1, none⟩) hbl).trans (hc (k * 2 + 1) (by omega))
      clear hc
      generalize f (k * 2) = x at *
      generalize f (k * 2 + 1) = y at *
      have rg : wr.rangeAt b (o + k * 2) [.int .i32 x, .int .i32 y] := fun j v hj => by
        match j, hj with
        | 0, hj => simp at hj; rw [← hj]; exact ca
        | 1, hj => simp at hj; rw [← hj]; exact cb
        | j + 2, hj => simp at hj
      have RG := Lib.hid rg
      simp [Lit.wf, IntKind.min, IntKind.max, IntKind.signed, IntKind.bits] at bx by_
      have wx : IntKind.i64.wrap x = x := Go.IntWalk.i64_in _ (by omega)
      have wy : IntKind.i64.wrap y = y := Go.IntWalk.i64_in _ (by omega)
      have hga := hg.al (.cells (two x y) 35)
      obtain ⟨c0, c1⟩ := two_cell wr x y
      unfold two at c0 c1
      have hR := Lib.hid hga.1
      have hB := Lib.hid hga.2.2
      clear hg hga bx by_ rg ca cb
      cases px : inB x
      · clear hbad
        go_wp2_with (first
          | (refine wpList_load_mid rfl 35 (.tmp 16) rfl b (o + k * 2) rfl _ _ RG.out Try.underlying35 rfl (by kernel_rfl) ?_)
          | (refine wpList_store_row rfl 35 (.tmp 6) (.tmp 17) rfl wr.heap.size (two x y) rfl rfl 35 (two 0 0) (one_first _ _) (two_info _ _) rfl (two_one _ _) ?_; rw [show (wr.alloc (.cells (two 0 0) 35)).setRow wr.heap.size (two x y) = wr.alloc (.cells (two x y) 35) from World.setRow_alloc_new _ _ _ _])
          | (go_at_call 68; refine (pl_any _ _).mono ?_; rintro e w1 ⟨rfl, rfl⟩)
          | (refine wpList_build rfl 26 #[] rfl bzs ?_)
          | (refine wpList_store_row rfl 26 (.tmp 2) (.tmp 30) rfl w.heap.size (mk zs0) rfl (congrArg Value.agg bz) 26 (mk zs0) hR.out (infoSize26 _ rfl) rfl (mk_one _) ?_))
        refine bodyPost_ret (results_row_tmp rfl _ _ w.heap.size 26 (mk zs0) (0, 0) _ rfl (setRow_heap _ _ (mk zs0) _ _ _ hR.out) Try.underlying26 rfl (infoSize26 _ rfl)) rfl ⟨rfl, ?_⟩
        exact below_setRow hB.out (Nat.le_refl _) _
      · have py : inB y = false := by rw [px] at hbad; simpa using hbad
        clear hbad
        go_wp2_with (first
          | (refine wpList_load_mid rfl 35 (.tmp 16) rfl b (o + k * 2) rfl _ _ RG.out Try.underlying35 rfl (by kernel_rfl) ?_)
          | (refine wpList_store_row rfl 35 (.tmp 6) (.tmp 17) rfl wr.heap.size (two x y) rfl rfl 35 (two 0 0) (one_first _ _) (two_info _ _) rfl (two_one _ _) ?_; rw [show (wr.alloc (.cells (two 0 0) 35)).setRow wr.heap.size (two x y) = wr.alloc (.cells (two x y) 35) from World.setRow_alloc_new _ _ _ _])
          | (go_at_call 68; refine (pl_any _ _).mono ?_; rintro e w1 ⟨rfl, rfl⟩)
          | (refine wpList_build rfl 26 #[] rfl bzs ?_)
          | (refine wpList_store_row rfl 26 (.tmp 2) (.tmp 30) rfl w.heap.size (mk zs0) rfl (congrArg Value.agg bz) 26 (mk zs0) hR.out (infoSize26 _ rfl) rfl (mk_one _) ?_))
        refine bodyPost_ret (results_row_tmp rfl _ _ w.heap.size 26 (mk zs0) (0, 0) _ rfl (setRow_heap _ _ (mk zs0) _ _ _ hR.out) Try.underlying26 rfl (infoSize26 _ rfl)) rfl ⟨rfl, ?_⟩
        exact below_setRow hB.out (Nat.le_refl _) _
end Go.Proofs.Ytbkbjiifklhgiaa
