/- SamePicture: the copies of blocks. Conditions: none. -/
import Derived.Test.YtbkbjiifklhgiaaMofl
namespace Go.Proofs.Ytbkbjiifklhgiaa
open Go.RowKit
set_option linter.unusedVariables false

set_option maxHeartbeats 800000 in
theorem toCor_any (a b : Int) (w : World) :
    Calls Try.prog 93 #[.agg #[.int .i32 a, .int .i32 b]] w fun e w' => e = .returned (.agg #[.int .i32 a, .int .i32 b]) ∧ Below w.heap.size w w' := by
  obtain ⟨z, hz⟩ : ∃ z : Nat → Int, z = fun k => if k = 0 then a else b := ⟨_, rfl⟩
  have hg : ∀ k, k < 2 → (#[Value.int .i32 a, .int .i32 b] : Array Value)[k]? = some (.int .i32 (z k)) := fun k h => by
    subst hz
    match k, h with
    | 0, _ => rfl
    | 1, _ => rfl
  have HG := Lib.hid hg
  have hp : ∀ k, k < 2 → (pt a b k)[k]? = some (.int .i32 0) ∧ (pt a b k).setIfInBounds k (.int .i32 (z k)) = pt a b (k + 1) := fun k h => by
    subst hz
    match k, h with
    | 0, _ => exact ⟨rfl, rfl⟩
    | 1, _ => exact ⟨rfl, rfl⟩
  have HP := Lib.hid hp
  have hf : pt a b 2 = #[Value.int .i32 a, .int .i32 b] := rfl
  have hs0 : ∀ k, (pt a b k).size = 2 := fun k => rfl
  have h00 : pt a b 0 = #[Value.int .i32 0, .int .i32 0] := rfl
  have h1c : ∀ k, (pt a b k).all (·.oneCell') = true := fun k => by simp [pt, Value.oneCell']
  generalize hps : pt a b = ps at *
  rw [← hf] at HG ⊢
  clear hf hz hg hp hps
  have HS := Lib.hid hs0
  have H0 := Lib.hid h00
  have H1 := Lib.hid h1c
  clear hs0 h00 h1c
  go_enter Try.func93, Try.ntmps93
  go_wp2
  rw [← H0.out]
  go_loopw [4] (fun i wr => ∃ k : Nat, k ≤ 2 ∧ i = .int .i64 k ∧ wr = ((w.alloc (.cells (ps 2) 35)).alloc (.cells (ps 0) 36)).alloc (.cells (ps k) 36)) (fun i _ => 2 - (intOf i).toNat)
  case atStart => exact ⟨0, by omega, rfl, rfl⟩
  case round =>
    obtain ⟨k, hk, rfl, rfl⟩ := hrel
    by_cases hlt : k < 2
    · have g1 := HG.out k hlt
      have g2 := (HP.out k hlt).1
      have i1 : (0 : Int) ≤ (k : Int) := by omega
      have i2 : (k : Int) < 2 := by omega
      go_wp2
      go_roundw
      case rel => exact ⟨k + 1, by omega, by go_num, by rw [← (HP.out k hlt).2]⟩
      case measure => simp [intOf]; omega
    · obtain rfl : k = 2 := by omega
      have s1 := HS.out 2
      go_wp2_with (first | (refine wpList_load_row rfl 36 (.tmp 3) rfl (w.heap.size + 1 + 1) rfl 36 (ps 2) (0, 0) _ ?h1 Try.underlying36 rfl ?h2 ?_) | (refine wpList_store_row rfl 36 (.tmp 2) (.tmp 14) rfl (w.heap.size + 1) (ps 2) rfl rfl 36 (ps 0) ?h3 ?h4 ?h5 ?h6 ?_))
      case h1 => simp only [heap_al, size_al]; simp
      case h2 => rw [s1]; kernel_rfl
      case h3 => simp only [heap_al, size_al]; simp
      case h4 => rw [s1]; kernel_rfl
      case h5 => rw [s1, HS.out]
      case h6 => exact H1.out 2
      refine bodyPost_ret (results_cell_row rfl _ _ (w.heap.size + 1) 36 (ps 2) (0, 0) _ rfl (setRow_heap _ _ (ps 0) _ _ _ (by simp only [heap_al, size_al]; simp)) Try.underlying36 rfl (by rw [s1]; kernel_rfl)) rfl ⟨rfl, ?_⟩
      exact below_setRow (below_al (below_al (below_al (Below.refl _ _) (Nat.le_refl _) _) (Nat.le_refl _) _) (Nat.le_refl _) _) (by omega) _

/-- The cells of a block: its corner, its mask. -/
def blk (xs ys : List Int) : List Value := xs.map (Value.int .i32) ++ ys.map (Value.int .u16)
theorem blk_len {xs ys : List Int} (hx : xs.length = 2) (hy : ys.length = 16) : (blk xs ys).length = 18 := by simp [blk, hx, hy]
theorem blk_one (xs ys : List Int) : (blk xs ys).toArray.all (·.oneCell') = true :=
  all_oneCell_toArray fun v hv => by
    simp [blk] at hv
    rcases hv with ⟨a, _, rfl⟩ | ⟨a, _, rfl⟩ <;> rfl
theorem info87 : (Try.prog.info? 87).map (·.size) = some 18 := by kernel_rfl
theorem info90 : (Try.prog.info? 90).map (·.size) = some 18 := by kernel_rfl
theorem below_sets {B : Nat} {a : World} (b : Nat) (hb : B ≤ b) : ∀ (vs : List Value) (o : Nat) (w : World), Below B a w → Below B a (w.setCells b o vs)
  | [], _, _, h => h
  | v :: r, o, w, h => below_sets b hb r (o + 1) _ (h.setCell (p := ⟨b, o, none⟩) hb v)
theorem size_sets (b : Nat) : ∀ (vs : List Value) (o : Nat) (w : World), (w.setCells b o vs).heap.size = w.heap.size
  | [], _, _ => rfl
  | v :: r, o, w => by
    show ((w.setCell ⟨b, o, none⟩ v).setCells b (o + 1) r).heap.size = _
    rw [size_sets b r]; simp [World.setCell]
theorem rangeAt_call {w w' : World} {b o : Nat} {cs : List Value} (h : w.rangeAt b o cs) (hb : Below w.heap.size w w') (hl : b < w.heap.size) : w'.rangeAt b o cs := fun j v hv =>
  (hb.cell (p := ⟨b, o + j, none⟩) hl).trans (h j v hv)
theorem there_call {w w' : World} {b o n : Nat} (h : w.there b o n) (hb : Below w.heap.size w w') (hl : b < w.heap.size) : w'.there b o n := fun j hj => by
  have e := hb.block b hl
  refine ⟨by rw [hb.cell (p := ⟨b, o + j, none⟩) hl]; exact (h j hj).1, ?_⟩
  have := (h j hj).2
  unfold World.frozen? at this ⊢
  rw [e]; exact this
theorem there_part {w : World} {b o n : Nat} (h : w.there b o n) {k m : Nat} (hk : k + m ≤ n) : w.there b (o + k) m := fun j hj => by
  have := h (k + j) (by omega)
  rw [← Nat.add_assoc] at this; exact this
theorem there_row {w : World} {b : Nat} {cs : Array Value} {t : TypeId} (h : w.heap[b]? = some (.cells cs t (0, 0))) : w.there b 0 cs.size := fun j hj => by
  constructor
  · simp [World.cell?, h, hj]
  · simp [World.frozen?, h]
theorem range_row {w : World} {b : Nat} {cs : List Value} {t : TypeId} {fr : Nat × Nat} (h : w.heap[b]? = some (.cells cs.toArray t fr)) : w.rangeAt b 0 cs := fun j v hv => by
  simp [World.cell?, h, hv]
theorem range_left {w : World} {b o : Nat} {X Y : List Value} (h : w.rangeAt b o (X ++ Y)) : w.rangeAt b o X := fun j v hv => h j v (by rw [List.getElem?_append_left (List.getElem?_eq_some_iff.1 hv).1]; exact hv)
theorem range_right {w : World} {b o : Nat} {X Y : List Value} (h : w.rangeAt b o (X ++ Y)) : w.rangeAt b (o + X.length) Y := fun j v hv => by
  have := h (X.length + j) v (by rw [List.getElem?_append_right (by omega)]; simpa using hv)
  rw [← Nat.add_assoc] at this; exact this
theorem range_join {w : World} {b o : Nat} {X Y : List Value} (h1 : w.rangeAt b o X) (h2 : w.rangeAt b (o + X.length) Y) : w.rangeAt b o (X ++ Y) := fun j v hv => by
  by_cases hj : j < X.length
  · rw [List.getElem?_append_left hj] at hv; exact h1 j v hv
  · rw [List.getElem?_append_right (by omega)] at hv
    have := h2 (j - X.length) v hv
    rw [show o + X.length + (j - X.length) = o + j by omega] at this; exact this
theorem results_cell_mid {P : Program} {fn : Func} {p : Tmp} {ty : TypeId} (h : fn.results = #[.cell p ty]) (tmps : Array Value) (w : World) (g : Nat) (cs : List Value) (d : TypeDesc)
    (hp : tmps.getD p undef = .pointer (some ⟨g, 0, none⟩)) (hc : w.rangeAt g 0 cs)
    (hu : P.underlying ty = some d) (hd : d.isRow = true) (hi : (P.info? ty).map (·.size) = some cs.length) :
    (results fn tmps).run P w = .ok (.agg cs.toArray) w := by
  have hp' : tmps[p]?.getD undef = .pointer (some ⟨g, 0, none⟩) := by simpa using hp
  simp [results, h, hp', asAddr, run_loadVar_mid w g 0 ty cs d hc hu hd hi]

/-- The world in which a block is copied: the argument's box, the result's, the copy's. -/
def TB (w wr : World) (X Y X' Y' : List Value) : Prop :=
  Below w.heap.size w wr ∧ w.heap.size + 1 + 1 < wr.heap.size ∧ wr.rangeAt w.heap.size 0 X ∧ wr.rangeAt w.heap.size 2 Y ∧ wr.there (w.heap.size + 1) 0 18 ∧ wr.there (w.heap.size + 1 + 1) 0 18 ∧ wr.rangeAt (w.heap.size + 1 + 1) 0 X' ∧ wr.rangeAt (w.heap.size + 1 + 1) 2 Y'
theorem TB.call {w w1 w2 : World} {X Y X' Y' : List Value} (h : TB w w1 X Y X' Y') (hb : Below w1.heap.size w1 w2) : TB w w2 X Y X' Y' := by
  obtain ⟨h1, h2, h3, h4, h5, h6, h7, h8⟩ := h
  exact ⟨h1.trans (hb.mono h1.size), Nat.lt_of_lt_of_le h2 hb.size, rangeAt_call h3 hb (by omega), rangeAt_call h4 hb (by omega), there_call h5 hb (by omega), there_call h6 hb h2, rangeAt_call h7 hb h2, rangeAt_call h8 hb h2⟩
theorem TB.set1 {w w1 : World} {X Y : List Value} (h : TB w w1 X Y [] []) (hX : X.length = 2) : TB w (w1.setCells (w.heap.size + 1 + 1) 0 X) X Y X [] := by
  obtain ⟨h1, h2, h3, h4, h5, h6, h7, h8⟩ := h
  refine ⟨below_sets _ (by omega) X 0 w1 h1, by rw [size_sets]; exact h2, World.rangeAt_setCells_apart h3 _ _ _ (by omega), World.rangeAt_setCells_apart h4 _ _ _ (by omega), World.there_setCells h5 _ _ _, World.there_setCells h6 _ _ _, World.rangeAt_setCells_same _ _ _ _ (there_part h6 (k := 0) (by omega)), fun j v hv => by simp at hv⟩
theorem TB.set2 {w w1 : World} {X Y : List Value} (h : TB w w1 X Y X []) (hX : X.length = 2) (hY : Y.length = 16) : TB w (w1.setCells (w.heap.size + 1 + 1) 2 Y) X Y X Y := by
  obtain ⟨h1, h2, h3, h4, h5, h6, h7, h8⟩ := h
  refine ⟨below_sets _ (by omega) Y 2 w1 h1, by rw [size_sets]; exact h2, World.rangeAt_setCells_apart h3 _ _ _ (by omega), World.rangeAt_setCells_apart h4 _ _ _ (by omega), World.there_setCells h5 _ _ _, World.there_setCells h6 _ _ _, World.rangeAt_setCells_apart h7 _ _ _ (by omega), World.rangeAt_setCells_same _ _ _ _ (there_part h6 (k := 2) (by omega))⟩

theorem info35s (xs : List Int) (h : xs.length = 2) : (Try.prog.info? 35).map (·.size) = some (xs.map (Value.int .i32)).length := by rw [List.length_map, h]; kernel_rfl
theorem info23s (xs : List Int) (h : xs.length = 16) : (Try.prog.info? 23).map (·.size) = some (xs.map (Value.int .u16)).length := by rw [List.length_map, h]; kernel_rfl
theorem info36s (xs : List Int) (h : xs.length = 2) : (Try.prog.info? 36).map (·.size) = some (xs.map (Value.int .i32)).toArray.size := by rw [List.size_toArray, List.length_map, h]; kernel_rfl
theorem info26s (xs : List Int) (h : xs.length = 16) : (Try.prog.info? 26).map (·.size) = some (xs.map (Value.int .u16)).toArray.size := by rw [List.size_toArray, List.length_map, h]; kernel_rfl
theorem toCor_list (xs : List Int) (h : xs.length = 2) (w : World) :
    Calls Try.prog 93 #[.agg (xs.map (Value.int .i32)).toArray] w fun e w' => e = .returned (.agg (xs.map (Value.int .i32)).toArray) ∧ Below w.heap.size w w' := by
  match xs, h with
  | [a, b], _ => exact toCor_any a b w
def z18 : Array Value := (blk [0, 0] zs0).toArray
theorem tb_start (w : World) (xs ys : List Int) (hx : xs.length = 2) (hy : ys.length = 16) : TB w (((w.alloc (.cells (blk xs ys).toArray 90)).alloc (.cells z18 87)).alloc (.cells z18 87)) (xs.map (Value.int .i32)) (ys.map (Value.int .u16)) [] [] := by
  have hS := St.three w (.cells (blk xs ys).toArray 90) (.cells z18 87) (.cells z18 87)
  have r0 := range_row (hS.get 0 rfl)
  have r1 := range_right (X := xs.map (Value.int .i32)) (Y := ys.map (Value.int .u16)) r0
  rw [List.length_map, hx, Nat.zero_add] at r1
  refine ⟨hS.below, by simp only [size_al]; omega, range_left r0, r1, there_row (hS.get 1 rfl), there_row (hS.get 2 rfl), fun j v hv => by simp at hv, fun j v hv => by simp at hv⟩
set_option maxHeartbeats 1600000 in
theorem toBlk_any (xs ys : List Int) (hx : xs.length = 2) (hy : ys.length = 16) (w : World) :
    Calls Try.prog 89 #[.agg (blk xs ys).toArray] w fun e w' => e = .returned (.agg (blk xs ys).toArray) ∧ Below w.heap.size w w' := by
  have T0 := tb_start w xs ys hx hy
  have hZ : z18 = #[.int .i32 0, .int .i32 0, .int .u16 0, .int .u16 0, .int .u16 0, .int .u16 0, .int .u16 0, .int .u16 0, .int .u16 0, .int .u16 0, .int .u16 0, .int .u16 0, .int .u16 0, .int .u16 0, .int .u16 0, .int .u16 0, .int .u16 0, .int .u16 0] := rfl
  rw [hZ] at T0
  have TT := Lib.hid T0
  have X2 := Lib.hid hx
  have Y2 := Lib.hid hy
  have E2 := Lib.hid (show (xs.map (Value.int .i32)).toArray.size = 2 by simp [hx])
  have E16 := Lib.hid (show (ys.map (Value.int .u16)).toArray.size = 16 by simp [hy])
  have E18 := Lib.hid (show (blk xs ys).toArray.size = 18 by rw [← blk_len hx hy]; exact List.size_toArray)
  clear hZ T0 hx hy
  go_enter Try.func89, Try.ntmps89
  have T0 := TT.out
  clear TT
  go_wp2_with (first
    | (refine wpList_load_mid rfl 35 (.tmp 4) rfl w.heap.size 0 rfl (xs.map (Value.int .i32)) _ T0.2.2.1 Try.underlying35 rfl (info35s xs X2.out) ?_)
    | (go_at_call 93; refine (toCor_list xs X2.out _).mono ?_; rintro e w1 ⟨rfl, hb⟩; have T1 := TB.call T0 hb; clear hb)
    | (refine wpList_store_mid rfl 36 (.tmp 7) (.tmp 6) rfl (w.heap.size + 1 + 1) 0 (xs.map (Value.int .i32)).toArray rfl rfl (by rw [E2.out]; exact there_part T1.2.2.2.2.2.1 (k := 0) (by omega)) (info36s xs X2.out) (all_oneCell_toArray fun v hv => by obtain ⟨a, _, rfl⟩ := List.mem_map.1 hv; rfl) ?_; have T2 := TB.set1 T1 (by rw [List.length_map, X2.out]))
    | (refine wpList_load_mid rfl 23 (.tmp 8) rfl w.heap.size 2 rfl (ys.map (Value.int .u16)) _ T2.2.2.2.1 Try.underlying23 rfl (info23s ys Y2.out) ?_)
    | (go_at_call 20; refine (toMask_any ys Y2.out _).mono ?_; rintro e w2 ⟨rfl, hb⟩; have T3 := TB.call T2 hb; clear hb)
    | (refine wpList_store_mid rfl 26 (.tmp 11) (.tmp 10) rfl (w.heap.size + 1 + 1) 2 (ys.map (Value.int .u16)).toArray rfl rfl (by rw [E16.out]; exact there_part T3.2.2.2.2.2.1 (k := 2) (by omega)) (info26s ys Y2.out) (all_oneCell_toArray fun v hv => by obtain ⟨a, _, rfl⟩ := List.mem_map.1 hv; rfl) ?_; have T4 := TB.set2 T3 (by rw [List.length_map, X2.out]) (by rw [List.length_map, Y2.out]))
    | (refine wpList_load_mid rfl 87 (.tmp 3) rfl (w.heap.size + 1 + 1) 0 rfl (blk xs ys) _ (range_join T4.2.2.2.2.2.2.1 (by rw [List.length_map, X2.out]; exact T4.2.2.2.2.2.2.2)) Try.underlying87 rfl (by rw [blk_len X2.out Y2.out]; exact info87) ?_)
    | (refine wpList_store_mid rfl 87 (.tmp 2) (.tmp 12) rfl (w.heap.size + 1) 0 (blk xs ys).toArray rfl rfl (by rw [E18.out]; exact T4.2.2.2.2.1) (by rw [E18.out]; exact info87) (blk_one xs ys) ?_))
  refine bodyPost_ret (results_cell_mid rfl _ _ (w.heap.size + 1) (blk xs ys) _ rfl (World.rangeAt_setCells_same _ _ _ _ (by rw [blk_len X2.out Y2.out]; exact T4.2.2.2.2.1)) Try.underlying87 rfl (by rw [blk_len X2.out Y2.out]; exact info87)) rfl ⟨rfl, ?_⟩
  exact below_sets _ (by omega) _ _ _ T4.1

/-- A list of blocks lies at A. -/
def Bls (w : World) (A : Option Addr) (n : Nat) (X Y : Nat → List Int) : Prop :=
  0 < n → ∃ b o, A = some ⟨b, o, none⟩ ∧ b < w.heap.size ∧ ∀ k, k < n → w.rangeAt b (o + k * 18) (blk (X k) (Y k))
theorem Bls.call {w w' : World} {A : Option Addr} {n : Nat} {X Y : Nat → List Int} (h : Bls w A n X Y) (hb : Below w.heap.size w w') : Bls w' A n X Y := fun hn => by
  obtain ⟨b, o, h1, h2, h3⟩ := h hn
  exact ⟨b, o, h1, Nat.lt_of_lt_of_le h2 hb.size, fun k hk => rangeAt_call (h3 k hk) hb h2⟩
theorem info87f : (Try.prog.info? 87).map (fun i => (i.zero, i.size, i.bytes)) = some (some (.agg #[.int .i32 0, .int .i32 0, .int .u16 0, .int .u16 0, .int .u16 0, .int .u16 0, .int .u16 0, .int .u16 0, .int .u16 0, .int .u16 0, .int .u16 0, .int .u16 0, .int .u16 0, .int .u16 0, .int .u16 0, .int .u16 0, .int .u16 0, .int .u16 0]), 18, 40) := by kernel_rfl
/-- The copy of a list of blocks, under way. -/
def Bw (w : World) (g n k : Nat) (X Y : Nat → List Int) : Prop := g < w.heap.size ∧ w.there g 0 (n * 18) ∧ ∀ j, j < k → w.rangeAt g (j * 18) (blk (X j) (Y j))
theorem Bw.call {w w' : World} {g n k : Nat} {X Y : Nat → List Int} (h : Bw w g n k X Y) (hb : Below w.heap.size w w') : Bw w' g n k X Y :=
  ⟨Nat.lt_of_lt_of_le h.1 hb.size, there_call h.2.1 hb h.1, fun j hj => rangeAt_call (h.2.2 j hj) hb h.1⟩
theorem Bw.set {w : World} {g n k : Nat} {X Y : Nat → List Int} (h : Bw w g n k X Y) (hk : k < n) (hX : ∀ k, k < n → (X k).length = 2 ∧ (Y k).length = 16) : Bw (w.setCells g (k * 18) (blk (X k) (Y k))) g n (k + 1) X Y := by
  have el : ∀ j, j < n → (blk (X j) (Y j)).length = 18 := fun j hj => blk_len (hX j hj).1 (hX j hj).2
  refine ⟨by rw [size_sets]; exact h.1, World.there_setCells h.2.1 _ _ _, fun j hj => ?_⟩
  by_cases e : j = k
  · subst e
    have := there_part h.2.1 (k := j * 18) (m := 18) (by omega)
    rw [Nat.zero_add] at this
    exact World.rangeAt_setCells_same _ _ _ _ (by rw [el j hk]; exact this)
  · exact World.rangeAt_setCells_apart (h.2.2 j (by omega)) _ _ _ (by rw [el j (by omega), el k hk]; omega)
theorem bw_start (w : World) (cs : Array Value) (n : Nat) (hc : cs.size = n * 18) (X Y : Nat → List Int) : Bw (w.alloc (.cells cs 87)) w.heap.size n 0 X Y := by
  have h := one_first w (.cells cs 87)
  exact ⟨(Array.getElem?_eq_some_iff.1 h).1, hc ▸ there_row h, fun j hj => by omega⟩
set_option maxHeartbeats 1600000 in
theorem toBls_any (A : Option Addr) (n c : Nat) (X Y : Nat → List Int) (hX : ∀ k, k < n → (X k).length = 2 ∧ (Y k).length = 16) (hn : n ≤ 1048576) (w : World) (h : Bls w A n X Y) :
    Calls Try.prog 60 #[.slice A n c] w fun e w' => ∃ g, e = .returned (.slice (some ⟨g, 0, none⟩) n n) ∧ Bls w' (some ⟨g, 0, none⟩) n X Y ∧ Below w.heap.size w w' := by
  have H := Lib.hid h
  have HX := Lib.hid hX
  clear h hX
  obtain ⟨G, hG⟩ : ∃ G, G = w.heap.size := ⟨_, rfl⟩
  have HG := Lib.hid hG
  go_enter Try.func60, Try.ntmps60
  go_wp2_with (refine wpList_mk rfl (.tmp 6) (.tmp 6) 60 87 rfl _ 18 40 n Try.underlying60 info87f rfl rfl (by omega) (by omega) ?_)
  have m0 := bw_start w (madeCells #[Value.int .i32 0, .int .i32 0, .int .u16 0, .int .u16 0, .int .u16 0, .int .u16 0, .int .u16 0, .int .u16 0, .int .u16 0, .int .u16 0, .int .u16 0, .int .u16 0, .int .u16 0, .int .u16 0, .int .u16 0, .int .u16 0, .int .u16 0, .int .u16 0] (n * 18)) n (by simp [madeCells]) X Y
  have b0 : Below w.heap.size w (w.alloc (.cells (madeCells #[Value.int .i32 0, .int .i32 0, .int .u16 0, .int .u16 0, .int .u16 0, .int .u16 0, .int .u16 0, .int .u16 0, .int .u16 0, .int .u16 0, .int .u16 0, .int .u16 0, .int .u16 0, .int .u16 0, .int .u16 0, .int .u16 0, .int .u16 0, .int .u16 0] (n * 18)) 87)) := below_al (Below.refl _ _) (Nat.le_refl _) _
  have M0 := Lib.hid m0
  have B0 := Lib.hid b0
  clear m0 b0
  rw [← HG.out] at M0 ⊢
  clear hG
  go_loopw [4] (fun i wr => ∃ k : Nat, k ≤ n ∧ i = .int .i64 k ∧ Bw wr G n k X Y ∧ Below w.heap.size w wr) (fun i _ => n - (intOf i).toNat)
  case atStart => exact ⟨0, by omega, rfl, M0.out, B0.out⟩
  case round =>
    obtain ⟨k, hk, rfl, hm, hb⟩ := hrel
    by_cases hlt : k < n
    · have i0 : (0 : Int) ≤ k := by omega
      have i1 : (k : Int) < n := by omega
      obtain ⟨b, o, rfl, hbl, hc⟩ := H.out (by omega)
      have hxk := HX.out k hlt
      have RG := Lib.hid (show wr.rangeAt b (o + k * 18) (blk (X k) (Y k)) from fun j v hv => (hb.cell (p := ⟨b, o + k * 18 + j, none⟩) hbl).trans (hc k hlt j v hv))
      have EL := Lib.hid (blk_len hxk.1 hxk.2)
      have ES := Lib.hid (show (blk (X k) (Y k)).toArray.size = 18 by rw [← blk_len hxk.1 hxk.2]; exact List.size_toArray)
      have HK := Lib.hid hxk
      have HM := Lib.hid hm
      have hB2 := hb
      clear hc hm hb hxk
      go_wp2_with (first
        | (refine wpList_load_mid rfl 90 (.tmp 18) rfl b (o + k * 18) rfl (blk (X k) (Y k)) _ RG.out Try.underlying90 rfl (by rw [EL.out]; exact info90) ?_)
        | (go_at_call 89; refine (toBlk_any (X k) (Y k) HK.out.1 HK.out.2 _).mono ?_; rintro e w1 ⟨rfl, hb1⟩; have hm1 := Lib.hid (HM.out.call hb1); have hb2 := hB2.trans (hb1.mono hB2.size); clear hb1 hB2)
        | (refine wpList_store_mid rfl 87 (.tmp 21) (.tmp 20) rfl G (k * 18) (blk (X k) (Y k)).toArray rfl rfl (by rw [ES.out]; have := there_part hm1.out.2.1 (k := k * 18) (m := 18) (by omega); rw [Nat.zero_add] at this; exact this) (by rw [ES.out]; exact info87) (blk_one _ _) ?_))
      go_roundw
      case rel => exact ⟨k + 1, by omega, by go_num, hm1.out.set hlt HX.out, below_sets _ (by rw [HG.out]; exact Nat.le_refl _) _ _ _ hb2⟩
      case measure => simp [intOf]; omega
    · obtain rfl : k = n := by omega
      go_wp2
      go_ret
      exact ⟨G, rfl, fun hn => ⟨G, 0, rfl, hm.1, fun j hj => by rw [Nat.zero_add]; exact hm.2.2 j hj⟩, hb⟩
end Go.Proofs.Ytbkbjiifklhgiaa
