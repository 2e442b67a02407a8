/- MirrorMask, TurnMask, ShiftMask: the walks of both sides and of the laws. Conditions: none. -/
import Derived.Test.YtbkbjiifklhgiaaCellw
import Derived.Test.YtbkbjiifklhgiaaSet
namespace Go.Proofs.Ytbkbjiifklhgiaa
open Go.RowKit
set_option linter.unusedVariables false

/-- One cell more in a mask. -/
def orB (z : Int) (u : Nat) : Int := bits BinOp.or IntKind.u16 z (IntKind.u16.wrap (2 ^ u))
def inM (u v : Int) : Bool := decide (0 ≤ u) && decide (u ≤ 15) && decide (0 ≤ v) && decide (v ≤ 15)
/-- A cell that is moved, as far as it is a cell then. -/
def mstep (f : Nat → Nat → Int × Int) (out : List Int) (c : Nat × Nat) : List Int :=
  if inM (f c.1 c.2).1 (f c.1 c.2).2 then out.set (f c.1 c.2).2.toNat (orB (nth out (f c.1 c.2).2.toNat) (f c.1 c.2).1.toNat) else out
def mvTo (f : Nat → Nat → Int × Int) (l : List (Nat × Nat)) : List Int := l.foldl (mstep f) zs0
theorem mstep_len (f : Nat → Nat → Int × Int) (out : List Int) (c : Nat × Nat) : (mstep f out c).length = out.length := by unfold mstep; split <;> simp
theorem mvTo_len (f : Nat → Nat → Int × Int) (l : List (Nat × Nat)) : (mvTo f l).length = 16 := by
  unfold mvTo
  have : ∀ (l : List (Nat × Nat)) (o : List Int), (l.foldl (mstep f) o).length = o.length := by
    intro l
    induction l with
    | nil => intro o; rfl
    | cons c l ih => intro o; rw [List.foldl_cons, ih, mstep_len]
  rw [this]; rfl
theorem mvTo_snoc (f : Nat → Nat → Int × Int) (l : List (Nat × Nat)) (c : Nat × Nat) : mvTo f (l ++ [c]) = mstep f (mvTo f l) c := by unfold mvTo; rw [List.foldl_append]; rfl
theorem mstep_in {f : Nat → Nat → Int × Int} {out : List Int} {x y u v : Nat} (h1 : (f x y).1 = u) (h2 : (f x y).2 = v) (hu : u < 16) (hv : v < 16) : mstep f out (x, y) = out.set v (orB (nth out v) u) := by
  unfold mstep
  simp only [h1, h2]
  rw [if_pos (by unfold inM; simp; omega)]; rfl
theorem mstep_out {f : Nat → Nat → Int × Int} {out : List Int} {x y : Nat} (h : inM (f x y).1 (f x y).2 = false) : mstep f out (x, y) = out := by
  unfold mstep; rw [if_neg (by simp [h])]
theorem inM_cases (u v : Int) : (inM u v = false ∧ (u < 0 ∨ (0 ≤ u ∧ 15 < u) ∨ (0 ≤ u ∧ u ≤ 15 ∧ v < 0) ∨ (0 ≤ u ∧ u ≤ 15 ∧ 0 ≤ v ∧ 15 < v))) ∨ ∃ a b : Nat, u = a ∧ v = b ∧ a < 16 ∧ b < 16 := by
  by_cases h : inM u v = true
  · right
    unfold inM at h
    simp at h
    exact ⟨u.toNat, v.toNat, by omega, by omega, by omega, by omega⟩
  · left
    have h' := eq_false_of_ne_true h
    refine ⟨h', ?_⟩
    unfold inM at h
    simp at h
    omega
theorem has_cell {zs : List Int} {x y : Nat} {c : Nat × Nat} (h : c ∈ cellsTo zs y) : c.1 < 16 ∧ c.2 < y := by
  unfold cellsTo cellsIn at h
  simp only [List.mem_flatMap, List.mem_range, List.mem_map, List.mem_filter] at h
  obtain ⟨j, hj, i, ⟨hi, _⟩, rfl⟩ := h
  exact ⟨hi, hj⟩

set_option maxHeartbeats 400000 in
theorem sIn_any (u v : Int) (w : World) : Calls Try.prog 66 #[.int .i64 u, .int .i64 v] w fun e w' => e = .returned (.bool (inM u v)) ∧ w = w' := by
  rcases inM_cases u v with ⟨h, h1 | ⟨h1, h2⟩ | ⟨h1, h2, h3⟩ | ⟨h1, h2, h3, h4⟩⟩ | ⟨a, b, rfl, rfl, h1, h2⟩
  · have d : decide (0 ≤ u) = false := by simp; omega
    have H := Lib.hid h
    clear h
    go_enter Try.func66, Try.ntmps66
    go_wp2
    go_ret
    exact ⟨by rw [H.out]; rfl, rfl⟩
  · have d : decide (u ≤ 15) = false := by simp; omega
    have H := Lib.hid h
    clear h
    go_enter Try.func66, Try.ntmps66
    go_wp2
    go_ret
    exact ⟨by rw [H.out]; rfl, rfl⟩
  · have d : decide (0 ≤ v) = false := by simp; omega
    have H := Lib.hid h
    clear h
    go_enter Try.func66, Try.ntmps66
    go_wp2
    go_ret
    exact ⟨by rw [H.out]; rfl, rfl⟩
  · have d : decide (v ≤ 15) = false := by simp; omega
    have H := Lib.hid h
    clear h
    go_enter Try.func66, Try.ntmps66
    go_wp2
    go_ret
    exact ⟨by rw [H.out]; rfl, rfl⟩
  · have H := Lib.hid (show inM (a : Int) (b : Int) = true by unfold inM; simp; omega)
    have i1 : (a : Int) ≤ 15 := by omega
    have i2 : (b : Int) ≤ 15 := by omega
    go_enter Try.func66, Try.ntmps66
    go_wp2
    go_ret
    exact ⟨by rw [H.out]; rfl, rfl⟩

set_option maxHeartbeats 3200000 in
theorem sMoved (zs : List Int) (hz : zs.length = 16) (a0 a1 a2 b0 b1 b2 : Int) (f : Nat → Nat → Int × Int) (hf : ∀ x y : Nat, (f x y).1 = a0 * x + a1 * y + a2 ∧ (f x y).2 = b0 * x + b1 * y + b2)
    (ha0 : a0 = -1 ∨ a0 = 0 ∨ a0 = 1) (ha1 : a1 = -1 ∨ a1 = 0 ∨ a1 = 1) (ha2 : -16 ≤ a2 ∧ a2 ≤ 16) (hb0 : b0 = -1 ∨ b0 = 0 ∨ b0 = 1) (hb1 : b1 = -1 ∨ b1 = 0 ∨ b1 = 1) (hb2 : -16 ≤ b2 ∧ b2 ≤ 16)
    (b : Nat) (w : World) (hbx : w.heap[b]? = some (.cells (mk zs) 26 (0, 0))) :
    Calls Try.prog 79 #[.pointer (some ⟨b, 0, none⟩), .agg #[.int .i64 a0, .int .i64 a1, .int .i64 a2, .int .i64 b0, .int .i64 b1, .int .i64 b2]] w fun e w' => e = .returned (.agg (mk (mvTo f (cellsTo zs 16)))) ∧ Below w.heap.size w w' := by
  have hbl : b < w.heap.size := (Array.getElem?_eq_some_iff.1 hbx).1
  have HBX := Lib.hid hbx
  have HF := Lib.hid hf
  obtain ⟨ca2, da2⟩ := ha2
  obtain ⟨cb2, db2⟩ := hb2
  have P0 := Lib.hid (show ∀ x : Nat, x < 16 → -16 ≤ a0 * (x : Int) ∧ a0 * (x : Int) ≤ 16 from fun x hx => by rcases ha0 with h | h | h <;> subst h <;> omega)
  have P1 := Lib.hid (show ∀ x : Nat, x < 16 → -16 ≤ a1 * (x : Int) ∧ a1 * (x : Int) ≤ 16 from fun x hx => by rcases ha1 with h | h | h <;> subst h <;> omega)
  have P2 := Lib.hid (show ∀ x : Nat, x < 16 → -16 ≤ b0 * (x : Int) ∧ b0 * (x : Int) ≤ 16 from fun x hx => by rcases hb0 with h | h | h <;> subst h <;> omega)
  have P3 := Lib.hid (show ∀ x : Nat, x < 16 → -16 ≤ b1 * (x : Int) ∧ b1 * (x : Int) ≤ 16 from fun x hx => by rcases hb1 with h | h | h <;> subst h <;> omega)
  clear hbx hf ha0 ha1 hb0 hb1
  have Z := lit0
  go_enter Try.func79, Try.ntmps79
  go_wp2_with (first | (refine wpList_build rfl 26 #[] rfl bzs ?_) | (refine wpList_store_row rfl 26 (.tmp 5) (.tmp 10) rfl (w.heap.size + 1 + 1) (mk zs0) rfl (congrArg Value.agg bz) 26 (mk zs0) (by simp only [heap_al, size_al]; simp; try exact Z) (infoSize26 _ rfl) rfl (mk_one _) ?_))
  obtain ⟨cs, hcs⟩ : ∃ cs, cs = (#[Value.int .i64 a0, .int .i64 a1, .int .i64 a2, .int .i64 b0, .int .i64 b1, .int .i64 b2] : Array Value) := ⟨_, rfl⟩
  rw [← hcs]
  have hw3 : (((w.alloc (.cells cs 79)).alloc (.cells (mk zs0) 26)).alloc (.cells (mk zs0) 26)).setRow (w.heap.size + 1 + 1) (mk zs0) = ((w.alloc (.cells cs 79)).alloc (.cells (mk zs0) 26)).alloc (.cells (mk zs0) 26) := by
    have := World.setRow_alloc_new ((w.alloc (.cells cs 79)).alloc (.cells (mk zs0) 26)) (mk zs0) (mk zs0) 26
    rw [size_al, size_al] at this; exact this
  rw [hw3]
  have c0 : cs[0]? = some (.int .i64 a0) := by rw [hcs]; rfl
  have c1 : cs[1]? = some (.int .i64 a1) := by rw [hcs]; rfl
  have c2 : cs[2]? = some (.int .i64 a2) := by rw [hcs]; rfl
  have c3 : cs[3]? = some (.int .i64 b0) := by rw [hcs]; rfl
  have c4 : cs[4]? = some (.int .i64 b1) := by rw [hcs]; rfl
  have c5 : cs[5]? = some (.int .i64 b2) := by rw [hcs]; rfl
  clear hw3 hcs Z
  go_loopw [6] (fun i wr => ∃ y : Nat, y ≤ 16 ∧ i = .int .i64 y ∧ wr = ((w.alloc (.cells cs 79)).alloc (.cells (mk zs0) 26)).alloc (.cells (mk (mvTo f (cellsTo zs y))) 26)) (fun i _ => 16 - (intOf i).toNat)
  case atStart => exact ⟨0, by omega, rfl, rfl⟩
  case round =>
    obtain ⟨y, hy, rfl, rfl⟩ := hrel
    by_cases hlt : y < 16
    · have y0 : (0 : Int) ≤ y := by omega
      have y1 : (y : Int) < 16 := by omega
      obtain ⟨m1, m1'⟩ := P1.out y hlt
      obtain ⟨m3, m3'⟩ := P3.out y hlt
      go_wp2
      go_loopw [7] (fun i wr => ∃ x : Nat, x ≤ 16 ∧ i = .int .i64 x ∧ wr = ((w.alloc (.cells cs 79)).alloc (.cells (mk zs0) 26)).alloc (.cells (mk (mvTo f (cellsTo zs y ++ cellsIn zs y x))) 26)) (fun i _ => 16 - (intOf i).toNat)
      case atStart => exact ⟨0, by omega, rfl, by simp [cellsIn]⟩
      case round =>
        obtain ⟨x, hx, rfl, rfl⟩ := hrel
        by_cases hlx : x < 16
        · have x0 : (0 : Int) ≤ x := by omega
          have x1 : (x : Int) < 16 := by omega
          obtain ⟨m0, m0'⟩ := P0.out x hlx
          obtain ⟨m2, m2'⟩ := P2.out x hlx
          obtain ⟨f1, f2⟩ := HF.out x y
          have hsn := cellsIn_snoc zs y x
          obtain ⟨l, hl⟩ : ∃ l, l = cellsTo zs y ++ cellsIn zs y x := ⟨_, rfl⟩
          have hl2 : cellsTo zs y ++ cellsIn zs y (x + 1) = l ++ if has zs x y then [(x, y)] else [] := by rw [hsn, ← List.append_assoc, hl]
          rw [← hl]
          have HL2 := Lib.hid hl2
          have hol := mvTo_len f l
          have hsu := mvTo_snoc f l (x, y)
          obtain ⟨o, ho⟩ : ∃ o, o = mvTo f l := ⟨_, rfl⟩
          rw [← ho] at hol hsu ⊢
          have HO := Lib.hid ho
          have HSU := Lib.hid hsu
          have HB := Lib.hid (show (((w.alloc (.cells cs 79)).alloc (.cells (mk zs0) 26)).alloc (.cells (mk o) 26)).heap[b]? = some (.cells (mk zs) 26 (0, 0)) by
            simp only [heap_al, size_al]; rw [if_neg (by omega), if_neg (by omega), if_neg (by omega)]; exact HBX.out)
          clear hsn hl hl2 ho hsu
          obtain ⟨U, hU⟩ : ∃ U, U = a0 * (x : Int) + a1 * y + a2 := ⟨_, rfl⟩
          obtain ⟨V, hV⟩ : ∃ V, V = b0 * (x : Int) + b1 * y + b2 := ⟨_, rfl⟩
          rw [← hU] at f1
          rw [← hV] at f2
          have eU := hU.symm
          have eV := hV.symm
          have HF1 := Lib.hid f1
          have HF2 := Lib.hid f2
          clear hU hV f1 f2
          cases hh : has zs x y
          · have E := Lib.hid (show mvTo f (cellsTo zs y ++ cellsIn zs y (x + 1)) = o by rw [HL2.out, hh, HO.out]; simp)
            go_wp2_with (first
              | (go_at_call 67; refine (has_any zs hz _ x y hlx hlt _ HB.out).mono ?_; rintro e w1 ⟨rfl, rfl⟩))
            go_roundw
            case rel => exact ⟨x + 1, by omega, by go_num, by rw [E.out]⟩
            case measure => simp [intOf]; omega
          · rcases inM_cases U V with ⟨hi, _⟩ | ⟨u, v, hu, hv, hu2, hv2⟩
            · have E := Lib.hid (show mvTo f (cellsTo zs y ++ cellsIn zs y (x + 1)) = o by rw [HL2.out, hh, if_pos rfl, HSU.out, mstep_out (by rw [HF1.out, HF2.out]; exact hi)])
              have HI := Lib.hid (show ∀ w, _ from fun w => sIn_any U V w)
              rw [hi] at HI
              clear hi
              go_wp2_with (first
                | (go_at_call 67; refine (has_any zs hz _ x y hlx hlt _ HB.out).mono ?_; rintro e w1 ⟨rfl, rfl⟩)
                | (go_at_call 66; refine (HI.out _).mono ?_; rintro e w1 ⟨rfl, rfl⟩))
              go_roundw
              case rel => exact ⟨x + 1, by omega, by go_num, by rw [E.out]⟩
              case measure => simp [intOf]; omega
            · have E := Lib.hid (show mvTo f (cellsTo zs y ++ cellsIn zs y (x + 1)) = o.set v (orB (nth o v) u) by rw [HL2.out, hh, if_pos rfl, HSU.out, mstep_in (by rw [HF1.out, hu]) (by rw [HF2.out, hv]) hu2 hv2])
              have HI := Lib.hid (show ∀ w, _ from fun w => sIn_any U V w)
              rw [hu, hv, show inM (u : Int) (v : Int) = true by unfold inM; simp; omega] at HI
              rw [hu] at eU
              rw [hv] at eV
              have g1 := mk_get o v (by omega)
              have u0 : (0 : Int) ≤ u := by omega
              have u1 : (u : Int) < 16 := by omega
              have v0 : (0 : Int) ≤ v := by omega
              have v1 : (v : Int) < 16 := by omega
              clear hu hv
              go_wp2_with (first
                | (go_at_call 67; refine (has_any zs hz _ x y hlx hlt _ HB.out).mono ?_; rintro e w1 ⟨rfl, rfl⟩)
                | (go_at_call 66; refine (HI.out _).mono ?_; rintro e w1 ⟨rfl, rfl⟩))
              go_roundw
              case rel => exact ⟨x + 1, by omega, by go_num, by rw [E.out, ← mk_set]; rfl⟩
              case measure => simp [intOf]; omega
        · obtain rfl : x = 16 := by omega
          have E := Lib.hid (cellsTo_snoc zs y)
          go_wp2
          go_roundw
          case rel => exact ⟨y + 1, by omega, by go_num, by rw [E.out]⟩
          case measure => simp [intOf]; omega
    · obtain rfl : y = 16 := by omega
      have hol := mvTo_len f (cellsTo zs 16)
      obtain ⟨rs, hrs⟩ : ∃ rs, rs = mvTo f (cellsTo zs 16) := ⟨_, rfl⟩
      rw [← hrs] at hol ⊢
      have H := Lib.hid hrs
      clear hrs
      have hi := infoSize26 rs hol
      have s2 : (mk zs0).size = (mk rs).size := mk_same rs hol
      go_wp2_with (first | (refine wpList_load_row rfl 26 (.tmp 5) rfl (w.heap.size + 1 + 1) rfl 26 (mk rs) (0, 0) _ (by simp only [heap_al, size_al]; simp) Try.underlying26 rfl hi ?_) | (refine wpList_store_row rfl 26 (.tmp 4) (.tmp 66) rfl (w.heap.size + 1) (mk rs) rfl rfl 26 (mk zs0) (by simp only [heap_al, size_al]; simp) hi s2 (mk_one _) ?_))
      refine bodyPost_ret (results_cell_row rfl _ _ (w.heap.size + 1) 26 (mk rs) (0, 0) _ rfl (setRow_heap _ _ (mk zs0) _ _ _ (by simp only [heap_al, size_al]; simp)) Try.underlying26 rfl hi) rfl ⟨by rw [H.out], ?_⟩
      exact below_setRow (below_al (below_al (below_al (Below.refl _ _) (Nat.le_refl _) _) (Nat.le_refl _) _) (Nat.le_refl _) _) (by omega) _


/-- Is a number a place? -/
def plc (u : Int) : Bool := decide (0 ≤ u) && decide (u ≤ 15)
set_option maxHeartbeats 400000 in
theorem place_any (u : Int) (w : World) : Calls Try.prog 68 #[.int .i64 u] w fun e w' => e = .returned (.bool (plc u)) ∧ w = w' := by
  by_cases h1 : 0 ≤ u
  · by_cases h2 : u ≤ 15
    · have H := Lib.hid (show plc u = true by unfold plc; simp; omega)
      go_enter Try.func68, Try.ntmps68
      go_wp2_with (go_in)
      go_ret
      exact ⟨by rw [H.out]; rfl, rfl⟩
    · have H := Lib.hid (show plc u = false by unfold plc; simp; omega)
      have d : decide (u ≤ 15) = false := by simp; omega
      clear h2
      go_enter Try.func68, Try.ntmps68
      go_wp2_with (go_in)
      go_ret
      exact ⟨by rw [H.out]; rfl, rfl⟩
  · have H := Lib.hid (show plc u = false by unfold plc; simp; omega)
    have d : decide (0 ≤ u) = false := by simp; omega
    clear h1
    go_enter Try.func68, Try.ntmps68
    go_wp2_with (go_in)
    go_ret
    exact ⟨by rw [H.out]; rfl, rfl⟩
theorem heap_put {W : World} {g : Nat} {cs : Array Value} {t : TypeId} (h : W.heap[g]? = some (.cells cs t (0, 0))) (k n : Nat) (v : Value) : ((W.setCell ⟨g, k, none⟩ v).drewN n).heap[g]? = some (.cells (cs.setIfInBounds k v) t (0, 0)) := by
  show (W.setCell ⟨g, k, none⟩ v).heap[g]? = _
  simp [World.setCell, Array.getElem?_modify, h]
theorem heap_far {W : World} {g g' : Nat} (k n : Nat) (v : Value) (h : g' ≠ g) : ((W.setCell ⟨g, k, none⟩ v).drewN n).heap[g']? = W.heap[g']? := Below.heap_setCell W ⟨g, k, none⟩ v g' h
theorem MB.heap {w w' : World} {g : Nat} {e : TypeId} {S n : Nat} {f : Nat → Value} (h : MB w g e S n f) (hh : w'.heap[g]? = w.heap[g]?) : MB w' g e S n f := by
  obtain ⟨cur, h1, h2⟩ := h; exact ⟨cur, hh.trans h1, h2⟩
theorem cell_small {zs : List Int} {k : Nat} {c : Nat × Nat} (hk : k < (cellsTo zs 16).length) (hc : c = (cellsTo zs 16).getD k (0, 0)) : c.1 < 16 ∧ c.2 < 16 := by
  have : c ∈ cellsTo zs 16 := by rw [hc, List.getD_eq_getElem?_getD, List.getElem?_eq_getElem hk]; exact List.getElem_mem hk
  obtain ⟨h1, h2⟩ := has_cell this (x := 0)
  exact ⟨h1, h2⟩
theorem pr_two (l : List (Nat × Nat)) (k : Nat) : pr l (k * 2) = ((l.getD k (0, 0)).1 : Int) ∧ pr l (k * 2 + 1) = ((l.getD k (0, 0)).2 : Int) := by
  unfold pr
  exact ⟨by rw [if_pos (by omega), show k * 2 / 2 = k by omega], by rw [if_neg (by omega), show (k * 2 + 1) / 2 = k by omega]⟩

set_option maxHeartbeats 3200000 in
theorem iMoved81 (zs : List Int) (hz : zs.length = 16) (f : Nat → Nat → Int × Int) 
    (hC : ∀ (x y : Nat) (w : World), x < 16 → y < 16 → True → Calls Try.prog 81 #[.int .i64 x, .int .i64 y] w fun e w' => e = .returned (.tuple #[.int .i64 (f x y).1, .int .i64 (f x y).2]) ∧ ∃ q, w' = w.drewN q) (w : World) (hK : True) :
    Calls Try.prog 80 #[.agg (mk zs), .func (.func 81) #[] #[]] w fun e w' => e = .returned (.agg (mk (mvTo f (cellsTo zs 16)))) ∧ Below w.heap.size w w' := by
  have HC := Lib.hid hC
  have HK := Lib.hid hK
  have hi := infoSize26 zs hz
  have Z := lit0
  have hlen : (cellsTo zs 16).length ≤ 16 * 16 := cellsTo_len zs 16
  have KI := Lib.hid (show ∀ w, _ from fun w => iCellsM zs hz w)
  have HSm := Lib.hid (show ∀ k c, k < (cellsTo zs 16).length → c = (cellsTo zs 16).getD k (0, 0) → c.1 < 16 ∧ c.2 < 16 from fun k c hk hc => cell_small hk hc)
  obtain ⟨l, hl⟩ : ∃ l, l = cellsTo zs 16 := ⟨_, rfl⟩
  rw [← hl] at hlen KI HSm ⊢
  obtain ⟨n, hnl⟩ : ∃ n, n = l.length := ⟨_, rfl⟩
  rw [← hnl] at hlen KI HSm
  have HN := Lib.hid hnl
  clear hC hK hl hnl
  go_enter Try.func80, Try.ntmps80
  go_wp2_with (first
    | (refine wpList_build rfl 26 #[] rfl bzs ?_)
    | (refine wpList_store_row rfl 26 (.tmp 5) (.tmp 10) rfl (w.heap.size + 1 + 1) (mk zs0) rfl (congrArg Value.agg bz) 26 (mk zs0) (by simp only [heap_al, size_al]; simp; try exact Z) (infoSize26 _ rfl) rfl (mk_one _) ?_; rw [show (((w.alloc (.cells (mk zs) 26)).alloc (.cells (mk zs0) 26)).alloc (.cells (mk zs0) 26)).setRow (w.heap.size + 1 + 1) (mk zs0) = ((w.alloc (.cells (mk zs) 26)).alloc (.cells (mk zs0) 26)).alloc (.cells (mk zs0) 26) from by (have := World.setRow_alloc_new ((w.alloc (.cells (mk zs) 26)).alloc (.cells (mk zs0) 26)) (mk zs0) (mk zs0) 26; rw [size_al, size_al] at this; exact this)]; have S0 := St.three w (.cells (mk zs) 26) (.cells (mk zs0) 26) (.cells (mk zs0) 26))
    | (refine wpList_load_row rfl 26 (.tmp 2) rfl w.heap.size rfl 26 (mk zs) (0, 0) _ (St.get (by assumption) 0 rfl) Try.underlying26 rfl hi ?_)
    | (go_at_call 48; refine (KI.out _).mono ?_; rintro e w1 ⟨gl, cl, rfl, hgl, hml, hb⟩; have hS := St.call hb (by assumption)))
  have h4 := St.get hS 1 rfl
  have h5 := St.get hS 2 rfl
  have hgl2 : w.heap.size + 1 + 1 < gl := by simp only [size_al] at hgl; omega
  have hB := St.below hS
  have HM := Lib.hid hml
  clear S0 hS hgl hb hml Z
  go_loopw [14] (fun i wr => ∃ k : Nat, k ≤ n ∧ i = .int .i64 k ∧ wr.heap[w.heap.size + 1]? = some (.cells (mk zs0) 26 (0, 0)) ∧ wr.heap[w.heap.size + 1 + 1]? = some (.cells (mk (mvTo f (l.take k))) 26 (0, 0)) ∧ MB wr gl 35 (cl * 2) (n * 2) (fun j => .int .i32 (pr l j)) ∧ Below w.heap.size w wr) (fun i _ => n - (intOf i).toNat)
  case atStart => exact ⟨0, by omega, rfl, h4, h5, HM.out, hB⟩
  case round =>
    obtain ⟨k, hk, rfl, k4, k5, km, kb⟩ := hrel
    have k0 : (0 : Int) ≤ k := by omega
    by_cases hlt : k < n
    · have k1 : (k : Int) < n := by omega
      have ca := km.cell (j := k * 2) (by omega)
      have cb := km.cell (j := k * 2 + 1) (by omega)
      obtain ⟨p1, p2⟩ := pr_two l k
      simp only [p1, p2] at ca cb
      have hsm := HSm.out k _ hlt rfl
      have htk : l.take (k + 1) = l.take k ++ [l.getD k (0, 0)] := by
        have hh : k < l.length := by rw [← HN.out]; exact hlt
        rw [List.take_succ_eq_append_getElem hh]; simp [hh]
      have hsu := mvTo_snoc f (l.take k) (l.getD k (0, 0))
      rw [← htk] at hsu
      obtain ⟨c, hc⟩ : ∃ c, c = l.getD k (0, 0) := ⟨_, rfl⟩
      rw [← hc] at ca cb hsm hsu
      obtain ⟨x, y⟩ := c
      simp only at ca cb hsm
      obtain ⟨hx, hy⟩ := hsm
      have HSU := Lib.hid hsu
      have hol := mvTo_len f (l.take k)
      obtain ⟨o, ho⟩ : ∃ o, o = mvTo f (l.take k) := ⟨_, rfl⟩
      rw [← ho] at hol k5
      rw [← ho] at HSU
      have HO := Lib.hid ho
      have KM := Lib.hid km
      have K4 := Lib.hid k4
      have K5 := Lib.hid k5
      have x0 : (0 : Int) ≤ x := by omega
      have x1 : (x : Int) ≤ 15 := by omega
      have y0 : (0 : Int) ≤ y := by omega
      have y1 : (y : Int) ≤ 15 := by omega
      have HKw := Lib.hid (show ∀ (o : Obj), True from fun o => by trivial)
      obtain ⟨U, hU⟩ : ∃ U, U = (f x y).1 := ⟨_, rfl⟩
      obtain ⟨V, hV⟩ : ∃ V, V = (f x y).2 := ⟨_, rfl⟩
      have HCxy := Lib.hid (show ∀ w, True → _ from fun w h => HC.out x y w hx hy h)
      rw [← hU, ← hV] at HCxy
      have HU := Lib.hid hU
      have HV := Lib.hid hV
      have HPu := Lib.hid (show ∀ w, _ from fun w => place_any U w)
      have HPv := Lib.hid (show ∀ w, _ from fun w => place_any V w)
      have l4 := (Array.getElem?_eq_some_iff.1 k4).1
      have l5 := (Array.getElem?_eq_some_iff.1 k5).1
      have lm := KM.out.lt
      clear hc hsu htk p1 p2 ho km k4 k5 hU hV
      rcases inM_cases U V with ⟨hi2, _⟩ | ⟨u, v, hu, hv, hu2, hv2⟩
      · have E := Lib.hid (show mvTo f (l.take (k + 1)) = o by rw [HSU.out, mstep_out (by rw [← HU.out, ← HV.out]; exact hi2)])
        have hpp : plc U = false ∨ (plc U = true ∧ plc V = false) := by
          unfold inM at hi2; unfold plc
          simp at hi2 ⊢; omega
        clear hi2
        rcases hpp with hp | ⟨hp, hp2⟩
        · rw [hp] at HPu
          clear hp
          go_wp2_with (first
            | (go_at_call 81; refine (HCxy.out _ trivial).mono ?_; rintro e w1 ⟨rfl, q, rfl⟩)
            | (go_at_call 68; refine (HPu.out _).mono ?_; rintro e w1 ⟨rfl, rfl⟩))
          go_roundw
          case rel => exact ⟨k + 1, by omega, by go_num, (Below.heap_alloc wr _ _ l4).trans K4.out, by rw [E.out]; exact (Below.heap_alloc wr _ _ l5).trans K5.out, KM.out.heap (Below.heap_alloc wr _ _ lm), below_drewN (below_al kb (Nat.le_refl _) _) _⟩
          case measure => simp [intOf]; omega
        · rw [hp] at HPu
          rw [hp2] at HPv
          clear hp hp2
          go_wp2_with (first
            | (go_at_call 81; refine (HCxy.out _ trivial).mono ?_; rintro e w1 ⟨rfl, q, rfl⟩)
            | (go_at_call_of 68 (Value.int IntKind.i64 U); refine (HPu.out _).mono ?_; rintro e w1 ⟨rfl, rfl⟩)
            | (go_at_call_of 68 (Value.int IntKind.i64 V); refine (HPv.out _).mono ?_; rintro e w1 ⟨rfl, rfl⟩))
          go_roundw
          case rel => exact ⟨k + 1, by omega, by go_num, (Below.heap_alloc wr _ _ l4).trans K4.out, by rw [E.out]; exact (Below.heap_alloc wr _ _ l5).trans K5.out, KM.out.heap (Below.heap_alloc wr _ _ lm), below_drewN (below_al kb (Nat.le_refl _) _) _⟩
          case measure => simp [intOf]; omega
      · have E := Lib.hid (show mvTo f (l.take (k + 1)) = o.set v (orB (nth o v) u) by rw [HSU.out, mstep_in (by rw [← HU.out, hu]) (by rw [← HV.out, hv]) hu2 hv2])
        rw [hu, show plc (u : Int) = true by unfold plc; simp; omega] at HPu
        rw [hv, show plc (v : Int) = true by unfold plc; simp; omega] at HPv
        rw [hu, hv] at HCxy
        have g1 := mk_get o v (by omega)
        have u0 : (0 : Int) ≤ u := by omega
        have u1 : (u : Int) < 16 := by omega
        have v0 : (0 : Int) ≤ v := by omega
        have v1 : (v : Int) < 16 := by omega
        clear hu hv
        go_wp2_with (first
          | (go_at_call 81; refine (HCxy.out _ trivial).mono ?_; rintro e w1 ⟨rfl, q, rfl⟩)
          | (go_at_call_of 68 (Value.int IntKind.i64 (u : Int)); refine (HPu.out _).mono ?_; rintro e w1 ⟨rfl, rfl⟩)
          | (go_at_call_of 68 (Value.int IntKind.i64 (v : Int)); refine (HPv.out _).mono ?_; rintro e w1 ⟨rfl, rfl⟩))
        obtain ⟨W, hW⟩ : ∃ W, W = (wr.alloc (.cells #[.int .i32 x, .int .i32 y] 35)).drewN q := ⟨_, rfl⟩
        rw [← hW]
        have K4' := Lib.hid (show W.heap[w.heap.size + 1]? = some (.cells (mk zs0) 26 (0, 0)) by rw [hW]; exact (Below.heap_alloc wr _ _ l4).trans K4.out)
        have K5' := Lib.hid (show W.heap[w.heap.size + 1 + 1]? = some (.cells (mk o) 26 (0, 0)) by rw [hW]; exact (Below.heap_alloc wr _ _ l5).trans K5.out)
        have KM' := Lib.hid (show MB W gl 35 (cl * 2) (n * 2) (fun j => .int .i32 (pr l j)) by rw [hW]; exact KM.out.heap (Below.heap_alloc wr _ _ lm))
        have KB' := Lib.hid (show Below w.heap.size w W by rw [hW]; exact below_drewN (below_al kb (Nat.le_refl _) _) _)
        have gc : W.cell? ⟨w.heap.size + 1 + 1, v, none⟩ = some (.int .u16 (nth o v)) := by rw [cell_of_row W _ v _ _ _ K5'.out]; exact g1
        have gf : W.frozen? ⟨w.heap.size + 1 + 1, v, none⟩ = false := by have := K5'.out; simp [World.frozen?, this]
        clear hW g1 ca cb
        go_region
        go_wp2
        go_roundw
        case rel => exact ⟨k + 1, by omega, by go_num, (heap_far v 1 _ (by omega)).trans K4'.out, by rw [E.out, ← mk_set]; exact heap_put K5'.out v 1 _, KM'.out.heap (heap_far v 1 _ (by omega)), below_drewN (KB'.out.setCell (show w.heap.size ≤ w.heap.size + 1 + 1 by omega) _) 1⟩
        case measure => simp [intOf]; omega
    · obtain rfl : k = n := by omega
      have hol := mvTo_len f (l.take k)
      have hall : l.take k = l := by rw [HN.out, List.take_length]
      rw [hall] at hol k5
      obtain ⟨rs, hrs⟩ : ∃ rs, rs = mvTo f l := ⟨_, rfl⟩
      rw [← hrs] at hol k5
      have H := Lib.hid hrs
      have K4 := Lib.hid k4
      have K5 := Lib.hid k5
      clear hrs hall k4 k5
      have hi3 := infoSize26 rs hol
      have s2 : (mk zs0).size = (mk rs).size := mk_same rs hol
      go_wp2_with (first | (refine wpList_load_row rfl 26 (.tmp 5) rfl (w.heap.size + 1 + 1) rfl 26 (mk rs) (0, 0) _ K5.out Try.underlying26 rfl hi3 ?_) | (refine wpList_store_row rfl 26 (.tmp 4) (.tmp 43) rfl (w.heap.size + 1) (mk rs) rfl rfl 26 (mk zs0) K4.out hi3 s2 (mk_one _) ?_))
      refine bodyPost_ret (results_cell_row rfl _ _ (w.heap.size + 1) 26 (mk rs) (0, 0) _ rfl (setRow_heap _ _ (mk zs0) _ _ _ K4.out) Try.underlying26 rfl hi3) rfl ⟨by rw [H.out], ?_⟩
      exact below_setRow kb (by omega) _

def fMir (x y : Nat) : Int × Int := (15 - (x : Int), (y : Int))
set_option maxHeartbeats 400000 in
theorem clo81 (x y : Nat) (w : World) (hx : x < 16) (hy : y < 16) (_ : True) : Calls Try.prog 81 #[.int .i64 x, .int .i64 y] w fun e w' => e = .returned (.tuple #[.int .i64 (fMir x y).1, .int .i64 (fMir x y).2]) ∧ ∃ q, w' = w.drewN q := by
  have x0 : (0 : Int) ≤ x := by omega
  have x1 : (x : Int) ≤ 15 := by omega
  have y0 : (0 : Int) ≤ y := by omega
  have y1 : (y : Int) ≤ 15 := by omega
  go_enter Try.func81, Try.ntmps81
  go_wp2
  go_ret2
  exact ⟨rfl, 0, rfl⟩

set_option maxHeartbeats 800000 in
theorem sMir (zs : List Int) (hz : zs.length = 16) (w : World) :
    Calls Try.prog 38 #[.agg (mk zs)] w fun e w' => e = .returned (.agg (mk (mvTo fMir (cellsTo zs 16)))) ∧ Below w.heap.size w w' := by
  have S0 := St.two w (.cells (mk zs) 26) (.cells (mk zs0) 26)
  have HM := Lib.hid (show ∀ w b, w.heap[b]? = some (.cells (mk zs) 26 (0, 0)) → _ from fun w b hb => sMoved zs hz (-1) 0 15 0 1 0 fMir (fun x y => ⟨by unfold fMir; simp only; omega, by unfold fMir; simp only; omega⟩) (by omega) (by omega) (by omega) (by omega) (by omega) (by omega) b w hb)
  have hol := mvTo_len fMir (cellsTo zs 16)
  obtain ⟨rs, hrs⟩ : ∃ rs, rs = mvTo fMir (cellsTo zs 16) := ⟨_, rfl⟩
  rw [← hrs] at hol HM ⊢
  clear hrs
  have hk := infoSize26 rs hol
  have s2 : (mk zs0).size = (mk rs).size := mk_same rs hol
  have Z := lit0
  go_enter Try.func38, Try.ntmps38
  go_wp2_with (first
    | (go_at_call 79; refine (HM.out _ _ (St.get (by assumption) 0 rfl)).mono ?_; rintro e w1 ⟨rfl, hb1⟩; have hS := St.call hb1 (by assumption); clear hb1)
    | (refine wpList_store_row rfl 26 (.tmp 2) (.tmp 6) rfl (w.heap.size + 1) (mk rs) rfl rfl 26 (mk zs0) (St.get (by assumption) 1 rfl) hk s2 (mk_one _) ?_))
  refine bodyPost_ret (results_cell_row rfl _ _ (w.heap.size + 1) 26 (mk rs) (0, 0) _ rfl (setRow_heap _ _ (mk zs0) _ _ _ (St.get (by assumption) 1 rfl)) Try.underlying26 rfl hk) rfl ⟨rfl, ?_⟩
  exact below_setRow (St.below (by assumption)) (by omega) _
set_option maxHeartbeats 800000 in
theorem iMir (zs : List Int) (hz : zs.length = 16) (w : World) :
    Calls Try.prog 39 #[.agg (mk zs)] w fun e w' => e = .returned (.agg (mk (mvTo fMir (cellsTo zs 16)))) ∧ Below w.heap.size w w' := by
  have S0 := St.two w (.cells (mk zs) 26) (.cells (mk zs0) 26)
  have HM := Lib.hid (show ∀ w, _ from fun w => iMoved81 zs hz fMir clo81 w trivial)
  have hi := infoSize26 zs hz
  have hol := mvTo_len fMir (cellsTo zs 16)
  obtain ⟨rs, hrs⟩ : ∃ rs, rs = mvTo fMir (cellsTo zs 16) := ⟨_, rfl⟩
  rw [← hrs] at hol HM ⊢
  clear hrs
  have hk := infoSize26 rs hol
  have s2 : (mk zs0).size = (mk rs).size := mk_same rs hol
  have Z := lit0
  go_enter Try.func39, Try.ntmps39
  go_wp2_with (first
    | (refine wpList_load_row rfl 26 (.tmp 1) rfl w.heap.size rfl 26 (mk zs) (0, 0) _ (St.get (by assumption) 0 rfl) Try.underlying26 rfl hi ?_)
    | (go_at_call 80; refine (HM.out _).mono ?_; rintro e w1 ⟨rfl, hb1⟩; have hS := St.call hb1 (by assumption); clear hb1)
    | (refine wpList_store_row rfl 26 (.tmp 2) (.tmp 4) rfl (w.heap.size + 1) (mk rs) rfl rfl 26 (mk zs0) (St.get (by assumption) 1 rfl) hk s2 (mk_one _) ?_))
  refine bodyPost_ret (results_cell_row rfl _ _ (w.heap.size + 1) 26 (mk rs) (0, 0) _ rfl (setRow_heap _ _ (mk zs0) _ _ _ (St.get (by assumption) 1 rfl)) Try.underlying26 rfl hk) rfl ⟨rfl, ?_⟩
  exact below_setRow (St.below (by assumption)) (by omega) _

set_option maxHeartbeats 800000 in
theorem walkMir (zs : List Int) (w : World) (hz : zs.length = 16) (hw : ∀ z ∈ zs, (Lit.int .u16 z).wf = true) :
    Calls Try.prog 11 #[.agg (zs.map (Value.int .u16)).toArray] w fun e w' => e = .returned (.bool true) ∧ Below w.heap.size w w' := by
  show Calls Try.prog 11 #[.agg (mk zs)] w _
  have S0 := St.one w (.cells (mk zs) 23)
  have Z := lit0
  have hi := infoSize23 zs hz
  have KS := Lib.hid (show ∀ w, _ from fun w => sMir zs hz w)
  have KI := Lib.hid (show ∀ w, _ from fun w => iMir zs hz w)
  have hr := mvTo_len fMir (cellsTo zs 16)
  generalize mvTo fMir (cellsTo zs 16) = rs at *
  have hj := infoSize26 rs hr
  have hk := mk_same rs hr
  go_enter Try.func11, Try.ntmps11
  go_upto_region 3 with (first
      | (go_at_call 20; refine (toMask_any zs hz _).mono ?_; rintro e w1 ⟨rfl, hb⟩; have hS := St.call hb (by assumption); clear hb)
      | (go_at_call 38; refine (KS.out _).mono ?_; rintro e w1 ⟨rfl, hb⟩; have hS := St.call hb (by assumption); clear hb)
      | (go_at_call 39; refine (KI.out _).mono ?_; rintro e w1 ⟨rfl, hb⟩; have hS := St.call hb (by assumption); clear hb)
      | (refine wpList_load_row rfl 23 (.tmp 1) rfl w.heap.size rfl 23 (mk zs) (0, 0) _ (St.get (by assumption) 0 rfl) Try.underlying23 rfl hi ?_)
      | (refine wpList_store_row rfl 26 (.tmp 3) (.tmp 7) rfl _ (mk rs) rfl rfl 26 (mk zs0) (one_first _ _) hj hk (mk_one _) ?_; have hS := St.fresh (by assumption) (mk zs0) (mk rs) 26)
      | (refine wpList_store_row rfl 26 (.tmp 4) (.tmp 10) rfl _ (mk rs) rfl rfl 26 (mk zs0) (one_first _ _) hj hk (mk_one _) ?_; have hS := St.fresh (by assumption) (mk zs0) (mk rs) 26))
  go_wp2_with (first
      | (go_at_call 24; refine (eqMask_any rs hr _).mono ?_; rintro e w1 ⟨rfl, hb⟩; have hS := St.call hb (by assumption); clear hb)
      | (refine wpList_load_row rfl 26 (.tmp 4) rfl _ rfl 26 (mk rs) (0, 0) _ (St.get hS 2 rfl) Try.underlying26 rfl hj ?_)
      | (refine wpList_load_row rfl 26 (.tmp 3) rfl _ rfl 26 (mk rs) (0, 0) _ (St.get hS 1 rfl) Try.underlying26 rfl hj ?_))
  go_ret
  exact ⟨rfl, St.below (by assumption)⟩
end Go.Proofs.Ytbkbjiifklhgiaa
