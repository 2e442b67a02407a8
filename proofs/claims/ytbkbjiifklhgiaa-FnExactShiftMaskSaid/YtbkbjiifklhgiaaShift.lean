/- ShiftMask: the walks of both sides and of the law. Conditions: none. -/
import Derived.Test.YtbkbjiifklhgiaaMove
namespace Go.Proofs.Ytbkbjiifklhgiaa
open Go.RowKit
set_option linter.unusedVariables false

set_option maxHeartbeats 3200000 in
theorem iMoved87 (zs : List Int) (hz : zs.length = 16) (f : Nat → Nat → Int × Int) (dx dy : Int) (g4 g5 : Nat)
    (hC : ∀ (x y : Nat) (w : World), x < 16 → y < 16 → (w.heap[g4]? = some (.cells #[.int .i64 dx] 2 (0, 0)) ∧ w.heap[g5]? = some (.cells #[.int .i64 dy] 2 (0, 0))) → Calls Try.prog 87 #[.int .i64 x, .int .i64 y, .pointer (some ⟨g4, 0, none⟩), .pointer (some ⟨g5, 0, none⟩)] w fun e w' => e = .returned (.tuple #[.int .i64 (f x y).1, .int .i64 (f x y).2]) ∧ ∃ q, w' = w.drewN q) (w : World) (hK : (w.heap[g4]? = some (.cells #[.int .i64 dx] 2 (0, 0)) ∧ w.heap[g5]? = some (.cells #[.int .i64 dy] 2 (0, 0)))) :
    Calls Try.prog 80 #[.agg (mk zs), .func (.func 87) #[] #[.pointer (some ⟨g4, 0, none⟩), .pointer (some ⟨g5, 0, none⟩)]] w fun e w' => e = .returned (.agg (mk (mvTo f (cellsTo zs 16)))) ∧ Below w.heap.size w w' := by
  have HC := Lib.hid hC
  have HK := Lib.hid hK
  have hi := infoSize26 zs hz
  have Z := lit0
  have hlen : (cellsTo zs 16).length ≤ 16 * 16 := cellsTo_len zs 16
  have KI := Lib.hid (show ∀ w, _ from fun w => iCellsM zs hz w)
  have HSm := Lib.hid (show ∀ k c, k < (cellsTo zs 16).length → c = (cellsTo zs 16).getD k (0, 0) → c.1 < 16 ∧ c.2 < 16 from fun k c hk hc => cell_small hk hc)
  obtain ⟨l, hl⟩ : ∃ l, l = cellsTo zs 16 := ⟨_, rfl⟩
  rw [← hl] at hlen KI HSm ⊢
  obtain ⟨n, hnl⟩ : ∃ n, n = l.length := ⟨_, rfl⟩
  rw [← hnl] at hlen KI HSm
  have HN := Lib.hid hnl
  clear hC hK hl hnl
  go_enter Try.func80, Try.ntmps80
  go_wp2_with (first
    | (refine wpList_build rfl 26 #[] rfl bzs ?_)
    | (refine wpList_store_row rfl 26 (.tmp 5) (.tmp 10) rfl (w.heap.size + 1 + 1) (mk zs0) rfl (congrArg Value.agg bz) 26 (mk zs0) (by simp only [heap_al, size_al]; simp; try exact Z) (infoSize26 _ rfl) rfl (mk_one _) ?_; rw [show (((w.alloc (.cells (mk zs) 26)).alloc (.cells (mk zs0) 26)).alloc (.cells (mk zs0) 26)).setRow (w.heap.size + 1 + 1) (mk zs0) = ((w.alloc (.cells (mk zs) 26)).alloc (.cells (mk zs0) 26)).alloc (.cells (mk zs0) 26) from by (have := World.setRow_alloc_new ((w.alloc (.cells (mk zs) 26)).alloc (.cells (mk zs0) 26)) (mk zs0) (mk zs0) 26; rw [size_al, size_al] at this; exact this)]; have S0 := St.three w (.cells (mk zs) 26) (.cells (mk zs0) 26) (.cells (mk zs0) 26))
    | (refine wpList_load_row rfl 26 (.tmp 2) rfl w.heap.size rfl 26 (mk zs) (0, 0) _ (St.get (by assumption) 0 rfl) Try.underlying26 rfl hi ?_)
    | (go_at_call 48; refine (KI.out _).mono ?_; rintro e w1 ⟨gl, cl, rfl, hgl, hml, hb⟩; have hS := St.call hb (by assumption)))
  have h4 := St.get hS 1 rfl
  have h5 := St.get hS 2 rfl
  have hgl2 : w.heap.size + 1 + 1 < gl := by simp only [size_al] at hgl; omega
  have hB := St.below hS
  have HM := Lib.hid hml
  clear S0 hS hgl hb hml Z
  go_loopw [14] (fun i wr => ∃ k : Nat, k ≤ n ∧ i = .int .i64 k ∧ wr.heap[w.heap.size + 1]? = some (.cells (mk zs0) 26 (0, 0)) ∧ wr.heap[w.heap.size + 1 + 1]? = some (.cells (mk (mvTo f (l.take k))) 26 (0, 0)) ∧ MB wr gl 35 (cl * 2) (n * 2) (fun j => .int .i32 (pr l j)) ∧ Below w.heap.size w wr) (fun i _ => n - (intOf i).toNat)
  case atStart => exact ⟨0, by omega, rfl, h4, h5, HM.out, hB⟩
  case round =>
    obtain ⟨k, hk, rfl, k4, k5, km, kb⟩ := hrel
    have k0 : (0 : Int) ≤ k := by omega
    by_cases hlt : k < n
    · have k1 : (k : Int) < n := by omega
      have ca := km.cell (j := k * 2) (by omega)
      have cb := km.cell (j := k * 2 + 1) (by omega)
      obtain ⟨p1, p2⟩ := pr_two l k
      simp only [p1, p2] at ca cb
      have hsm := HSm.out k _ hlt rfl
      have htk : l.take (k + 1) = l.take k ++ [l.getD k (0, 0)] := by
        have hh : k < l.length := by rw [← HN.out]; exact hlt
        rw [List.take_succ_eq_append_getElem hh]; simp [hh]
      have hsu := mvTo_snoc f (l.take k) (l.getD k (0, 0))
      rw [← htk] at hsu
      obtain ⟨c, hc⟩ : ∃ c, c = l.getD k (0, 0) := ⟨_, rfl⟩
      rw [← hc] at ca cb hsm hsu
      obtain ⟨x, y⟩ := c
      simp only at ca cb hsm
      obtain ⟨hx, hy⟩ := hsm
      have HSU := Lib.hid hsu
      have hol := mvTo_len f (l.take k)
      obtain ⟨o, ho⟩ : ∃ o, o = mvTo f (l.take k) := ⟨_, rfl⟩
      rw [← ho] at hol k5
      rw [← ho] at HSU
      have HO := Lib.hid ho
      have KM := Lib.hid km
      have K4 := Lib.hid k4
      have K5 := Lib.hid k5
      have x0 : (0 : Int) ≤ x := by omega
      have x1 : (x : Int) ≤ 15 := by omega
      have y0 : (0 : Int) ≤ y := by omega
      have y1 : (y : Int) ≤ 15 := by omega
      have HKw := Lib.hid (show ∀ (o : Obj), ((wr.alloc o).heap[g4]? = some (.cells #[.int .i64 dx] 2 (0, 0)) ∧ (wr.alloc o).heap[g5]? = some (.cells #[.int .i64 dy] 2 (0, 0))) from fun o => by (have hk := HK.out; have e4 := (Array.getElem?_eq_some_iff.1 hk.1).1; have e5 := (Array.getElem?_eq_some_iff.1 hk.2).1; have bsz := kb.size; exact ⟨(Below.heap_alloc wr _ _ (by omega)).trans ((kb.block _ e4).trans hk.1), (Below.heap_alloc wr _ _ (by omega)).trans ((kb.block _ e5).trans hk.2)⟩))
      obtain ⟨U, hU⟩ : ∃ U, U = (f x y).1 := ⟨_, rfl⟩
      obtain ⟨V, hV⟩ : ∃ V, V = (f x y).2 := ⟨_, rfl⟩
      have HCxy := Lib.hid (show ∀ w, (w.heap[g4]? = some (.cells #[.int .i64 dx] 2 (0, 0)) ∧ w.heap[g5]? = some (.cells #[.int .i64 dy] 2 (0, 0))) → _ from fun w h => HC.out x y w hx hy h)
      rw [← hU, ← hV] at HCxy
      have HU := Lib.hid hU
      have HV := Lib.hid hV
      have HPu := Lib.hid (show ∀ w, _ from fun w => place_any U w)
      have HPv := Lib.hid (show ∀ w, _ from fun w => place_any V w)
      have l4 := (Array.getElem?_eq_some_iff.1 k4).1
      have l5 := (Array.getElem?_eq_some_iff.1 k5).1
      have lm := KM.out.lt
      clear hc hsu htk p1 p2 ho km k4 k5 hU hV
      rcases inM_cases U V with ⟨hi2, _⟩ | ⟨u, v, hu, hv, hu2, hv2⟩
      · have E := Lib.hid (show mvTo f (l.take (k + 1)) = o by rw [HSU.out, mstep_out (by rw [← HU.out, ← HV.out]; exact hi2)])
        have hpp : plc U = false ∨ (plc U = true ∧ plc V = false) := by
          unfold inM at hi2; unfold plc
          simp at hi2 ⊢; omega
        clear hi2
        rcases hpp with hp | ⟨hp, hp2⟩
        · rw [hp] at HPu
          clear hp
          go_wp2_with (first
            | (go_at_call 87; refine (HCxy.out _ (HKw.out _)).mono ?_; rintro e w1 ⟨rfl, q, rfl⟩)
            | (go_at_call 68; refine (HPu.out _).mono ?_; rintro e w1 ⟨rfl, rfl⟩))
          go_roundw
          case rel => exact ⟨k + 1, by omega, by go_num, (Below.heap_alloc wr _ _ l4).trans K4.out, by rw [E.out]; exact (Below.heap_alloc wr _ _ l5).trans K5.out, KM.out.heap (Below.heap_alloc wr _ _ lm), below_drewN (below_al kb (Nat.le_refl _) _) _⟩
          case measure => simp [intOf]; omega
        · rw [hp] at HPu
          rw [hp2] at HPv
          clear hp hp2
          go_wp2_with (first
            | (go_at_call 87; refine (HCxy.out _ (HKw.out _)).mono ?_; rintro e w1 ⟨rfl, q, rfl⟩)
            | (go_at_call_of 68 (Value.int IntKind.i64 U); refine (HPu.out _).mono ?_; rintro e w1 ⟨rfl, rfl⟩)
            | (go_at_call_of 68 (Value.int IntKind.i64 V); refine (HPv.out _).mono ?_; rintro e w1 ⟨rfl, rfl⟩))
          go_roundw
          case rel => exact ⟨k + 1, by omega, by go_num, (Below.heap_alloc wr _ _ l4).trans K4.out, by rw [E.out]; exact (Below.heap_alloc wr _ _ l5).trans K5.out, KM.out.heap (Below.heap_alloc wr _ _ lm), below_drewN (below_al kb (Nat.le_refl _) _) _⟩
          case measure => simp [intOf]; omega
      · have E := Lib.hid (show mvTo f (l.take (k + 1)) = o.set v (orB (nth o v) u) by rw [HSU.out, mstep_in (by rw [← HU.out, hu]) (by rw [← HV.out, hv]) hu2 hv2])
        rw [hu, show plc (u : Int) = true by unfold plc; simp; omega] at HPu
        rw [hv, show plc (v : Int) = true by unfold plc; simp; omega] at HPv
        rw [hu, hv] at HCxy
        have g1 := mk_get o v (by omega)
        have u0 : (0 : Int) ≤ u := by omega
        have u1 : (u : Int) < 16 := by omega
        have v0 : (0 : Int) ≤ v := by omega
        have v1 : (v : Int) < 16 := by omega
        clear hu hv
        go_wp2_with (first
          | (go_at_call 87; refine (HCxy.out _ (HKw.out _)).mono ?_; rintro e w1 ⟨rfl, q, rfl⟩)
          | (go_at_call_of 68 (Value.int IntKind.i64 (u : Int)); refine (HPu.out _).mono ?_; rintro e w1 ⟨rfl, rfl⟩)
          | (go_at_call_of 68 (Value.int IntKind.i64 (v : Int)); refine (HPv.out _).mono ?_; rintro e w1 ⟨rfl, rfl⟩))
        obtain ⟨W, hW⟩ : ∃ W, W = (wr.alloc (.cells #[.int .i32 x, .int .i32 y] 35)).drewN q := ⟨_, rfl⟩
        rw [← hW]
        have K4' := Lib.hid (show W.heap[w.heap.size + 1]? = some (.cells (mk zs0) 26 (0, 0)) by rw [hW]; exact (Below.heap_alloc wr _ _ l4).trans K4.out)
        have K5' := Lib.hid (show W.heap[w.heap.size + 1 + 1]? = some (.cells (mk o) 26 (0, 0)) by rw [hW]; exact (Below.heap_alloc wr _ _ l5).trans K5.out)
        have KM' := Lib.hid (show MB W gl 35 (cl * 2) (n * 2) (fun j => .int .i32 (pr l j)) by rw [hW]; exact KM.out.heap (Below.heap_alloc wr _ _ lm))
        have KB' := Lib.hid (show Below w.heap.size w W by rw [hW]; exact below_drewN (below_al kb (Nat.le_refl _) _) _)
        have gc : W.cell? ⟨w.heap.size + 1 + 1, v, none⟩ = some (.int .u16 (nth o v)) := by rw [cell_of_row W _ v _ _ _ K5'.out]; exact g1
        have gf : W.frozen? ⟨w.heap.size + 1 + 1, v, none⟩ = false := by have := K5'.out; simp [World.frozen?, this]
        clear hW g1 ca cb
        go_region
        go_wp2
        go_roundw
        case rel => exact ⟨k + 1, by omega, by go_num, (heap_far v 1 _ (by omega)).trans K4'.out, by rw [E.out, ← mk_set]; exact heap_put K5'.out v 1 _, KM'.out.heap (heap_far v 1 _ (by omega)), below_drewN (KB'.out.setCell (show w.heap.size ≤ w.heap.size + 1 + 1 by omega) _) 1⟩
        case measure => simp [intOf]; omega
    · obtain rfl : k = n := by omega
      have hol := mvTo_len f (l.take k)
      have hall : l.take k = l := by rw [HN.out, List.take_length]
      rw [hall] at hol k5
      obtain ⟨rs, hrs⟩ : ∃ rs, rs = mvTo f l := ⟨_, rfl⟩
      rw [← hrs] at hol k5
      have H := Lib.hid hrs
      have K4 := Lib.hid k4
      have K5 := Lib.hid k5
      clear hrs hall k4 k5
      have hi3 := infoSize26 rs hol
      have s2 : (mk zs0).size = (mk rs).size := mk_same rs hol
      go_wp2_with (first | (refine wpList_load_row rfl 26 (.tmp 5) rfl (w.heap.size + 1 + 1) rfl 26 (mk rs) (0, 0) _ K5.out Try.underlying26 rfl hi3 ?_) | (refine wpList_store_row rfl 26 (.tmp 4) (.tmp 43) rfl (w.heap.size + 1) (mk rs) rfl rfl 26 (mk zs0) K4.out hi3 s2 (mk_one _) ?_))
      refine bodyPost_ret (results_cell_row rfl _ _ (w.heap.size + 1) 26 (mk rs) (0, 0) _ rfl (setRow_heap _ _ (mk zs0) _ _ _ K4.out) Try.underlying26 rfl hi3) rfl ⟨by rw [H.out], ?_⟩
      exact below_setRow kb (by omega) _

def fShi (dx dy : Int) (x y : Nat) : Int × Int := ((x : Int) + dx, (y : Int) + dy)
set_option maxHeartbeats 400000 in
theorem clo87 (dx dy : Int) (hdx : -16 ≤ dx ∧ dx ≤ 16) (hdy : -16 ≤ dy ∧ dy ≤ 16) (g4 g5 : Nat) (x y : Nat) (w : World) (hx : x < 16) (hy : y < 16) (hk : w.heap[g4]? = some (.cells #[.int .i64 dx] 2 (0, 0)) ∧ w.heap[g5]? = some (.cells #[.int .i64 dy] 2 (0, 0))) :
    Calls Try.prog 87 #[.int .i64 x, .int .i64 y, .pointer (some ⟨g4, 0, none⟩), .pointer (some ⟨g5, 0, none⟩)] w fun e w' => e = .returned (.tuple #[.int .i64 (fShi dx dy x y).1, .int .i64 (fShi dx dy x y).2]) ∧ ∃ q, w' = w.drewN q := by
  have x0 : (0 : Int) ≤ x := by omega
  have x1 : (x : Int) ≤ 15 := by omega
  have y0 : (0 : Int) ≤ y := by omega
  have y1 : (y : Int) ≤ 15 := by omega
  obtain ⟨d1, d2⟩ := hdx
  obtain ⟨d3, d4⟩ := hdy
  have c4 := cell_of_one hk.1
  have c5 := cell_of_one hk.2
  clear hk
  go_enter Try.func87, Try.ntmps87
  go_wp2
  have q1 : IntKind.i64.wrap ((x : Int) + dx) = (x : Int) + dx := Go.IntWalk.i64_in _ (by omega)
  have q2 : IntKind.i64.wrap ((y : Int) + dy) = (y : Int) + dy := Go.IntWalk.i64_in _ (by omega)
  go_quiet (fail)
  clear q1 q2
  go_wp2
  go_ret2
  exact ⟨rfl, _, rfl⟩

def Off (d : Int) : Prop := d < -16 ∨ 16 < d
def inS (d : Int) : Bool := decide (-16 ≤ d) && decide (d ≤ 16)
set_option maxHeartbeats 400000 in
theorem sInS (d : Int) (w : World) : Calls Try.prog 85 #[.int .i64 d, .int .i64 (-16), .int .i64 16] w fun e w' => e = .returned (.bool (inS d)) ∧ w = w' := by
  by_cases h1 : -16 ≤ d
  · by_cases h2 : d ≤ 16
    · have H := Lib.hid (show inS d = true by unfold inS; simp; omega)
      go_enter Try.func85, Try.ntmps85
      go_wp2
      go_ret
      exact ⟨by rw [H.out]; rfl, rfl⟩
    · have H := Lib.hid (show inS d = false by unfold inS; simp; omega)
      have e : decide (d ≤ 16) = false := by simp; omega
      clear h2
      go_enter Try.func85, Try.ntmps85
      go_wp2
      go_ret
      exact ⟨by rw [H.out]; rfl, rfl⟩
  · have H := Lib.hid (show inS d = false by unfold inS; simp; omega)
    have e : decide (-16 ≤ d) = false := by simp; omega
    clear h1
    go_enter Try.func85, Try.ntmps85
    go_wp2
    go_ret
    exact ⟨by rw [H.out]; rfl, rfl⟩
set_option maxHeartbeats 400000 in
theorem iInS (d : Int) (w : World) : Calls Try.prog 86 #[.int .i64 d, .int .i64 (-16), .int .i64 16] w fun e w' => e = .returned (.bool (inS d)) ∧ w = w' := by
  by_cases h1 : -16 ≤ d
  · by_cases h2 : d ≤ 16
    · have H := Lib.hid (show inS d = true by unfold inS; simp; omega)
      go_enter Try.func86, Try.ntmps86
      go_wp2
      go_ret
      exact ⟨by rw [H.out]; rfl, rfl⟩
    · have H := Lib.hid (show inS d = false by unfold inS; simp; omega)
      have e : decide (d ≤ 16) = false := by simp; omega
      clear h2
      go_enter Try.func86, Try.ntmps86
      go_wp2
      go_ret
      exact ⟨by rw [H.out]; rfl, rfl⟩
  · have H := Lib.hid (show inS d = false by unfold inS; simp; omega)
    have e : decide (-16 ≤ d) = false := by simp; omega
    clear h1
    go_enter Try.func86, Try.ntmps86
    go_wp2
    go_ret
    exact ⟨by rw [H.out]; rfl, rfl⟩
set_option maxHeartbeats 800000 in
theorem sShi_yes (zs : List Int) (hz : zs.length = 16) (dx dy : Int) (hdx : -16 ≤ dx ∧ dx ≤ 16) (hdy : -16 ≤ dy ∧ dy ≤ 16) (w : World) :
    Calls Try.prog 52 #[.agg (mk zs), .int .i64 dx, .int .i64 dy] w fun e w' => e = .returned (.tuple #[.agg (mk (mvTo (fShi dx dy) (cellsTo zs 16))), .int .i64 0]) ∧ Below w.heap.size w w' := by
  have S0 := St.two w (.cells (mk zs) 26) (.cells (mk zs0) 26)
  have HM := Lib.hid (show ∀ w b, w.heap[b]? = some (.cells (mk zs) 26 (0, 0)) → _ from fun w b hb => sMoved zs hz 1 0 dx 0 1 dy (fShi dx dy) (fun x y => ⟨by unfold fShi; simp only; omega, by unfold fShi; simp only; omega⟩) (by omega) (by omega) (by omega) (by omega) (by omega) (by omega) b w hb)
  have hol := mvTo_len (fShi dx dy) (cellsTo zs 16)
  obtain ⟨rs, hrs⟩ : ∃ rs, rs = mvTo (fShi dx dy) (cellsTo zs 16) := ⟨_, rfl⟩
  rw [← hrs] at hol HM ⊢
  clear hrs
  have hk := infoSize26 rs hol
  have s2 : (mk zs0).size = (mk rs).size := mk_same rs hol
  have Z := lit0
  have H1 := Lib.hid (show ∀ w, _ from fun w => sInS dx w)
  have H2 := Lib.hid (show ∀ w, _ from fun w => sInS dy w)
  rw [show inS dx = true by unfold inS; simp; omega] at H1
  rw [show inS dy = true by unfold inS; simp; omega] at H2
  clear hdx hdy
  go_enter Try.func52, Try.ntmps52
  go_wp2_with (first
    | (go_at_call_of 85 (Value.int IntKind.i64 dx); refine (H1.out _).mono ?_; rintro e w1 ⟨rfl, rfl⟩)
    | (go_at_call_of 85 (Value.int IntKind.i64 dy); refine (H2.out _).mono ?_; rintro e w1 ⟨rfl, rfl⟩)
    | (go_at_call 79; refine (HM.out _ _ (St.get (by assumption) 0 rfl)).mono ?_; rintro e w1 ⟨rfl, hb1⟩; have hS := St.call hb1 (by assumption); clear hb1)
    | (refine wpList_store_row rfl 26 (.tmp 6) (.tmp 22) rfl (w.heap.size + 1) (mk rs) rfl rfl 26 (mk zs0) (St.get (by assumption) 1 rfl) hk s2 (mk_one _) ?_))
  refine bodyPost_ret (results_row_tmp rfl _ _ (w.heap.size + 1) 26 (mk rs) (0, 0) _ rfl (setRow_heap _ _ (mk zs0) _ _ _ (St.get (by assumption) 1 rfl)) Try.underlying26 rfl hk) rfl ⟨rfl, ?_⟩
  exact below_setRow (St.below (by assumption)) (by omega) _
set_option maxHeartbeats 800000 in
theorem iShi_yes (zs : List Int) (hz : zs.length = 16) (dx dy : Int) (hdx : -16 ≤ dx ∧ dx ≤ 16) (hdy : -16 ≤ dy ∧ dy ≤ 16) (w : World) :
    Calls Try.prog 53 #[.agg (mk zs), .int .i64 dx, .int .i64 dy] w fun e w' => e = .returned (.tuple #[.agg (mk (mvTo (fShi dx dy) (cellsTo zs 16))), .int .i64 0]) ∧ Below w.heap.size w w' := by
  have S0 := (St.three w (.cells (mk zs) 26) (.cells #[.int .i64 dx] 2) (.cells #[.int .i64 dy] 2)).alloc (.cells (mk zs0) 26)
  rw [size_al, size_al, size_al] at S0
  have HM := Lib.hid (show ∀ w g4 g5, (w.heap[g4]? = some (.cells #[.int .i64 dx] 2 (0, 0)) ∧ w.heap[g5]? = some (.cells #[.int .i64 dy] 2 (0, 0))) → _ from fun w g4 g5 h => iMoved87 zs hz (fShi dx dy) dx dy g4 g5 (clo87 dx dy hdx hdy g4 g5) w h)
  have hi := infoSize26 zs hz
  have hol := mvTo_len (fShi dx dy) (cellsTo zs 16)
  obtain ⟨rs, hrs⟩ : ∃ rs, rs = mvTo (fShi dx dy) (cellsTo zs 16) := ⟨_, rfl⟩
  rw [← hrs] at hol HM ⊢
  clear hrs
  have hk := infoSize26 rs hol
  have s2 : (mk zs0).size = (mk rs).size := mk_same rs hol
  have Z := lit0
  have H1 := Lib.hid (show ∀ w, _ from fun w => iInS dx w)
  have H2 := Lib.hid (show ∀ w, _ from fun w => iInS dy w)
  rw [show inS dx = true by unfold inS; simp; omega] at H1
  rw [show inS dy = true by unfold inS; simp; omega] at H2
  clear hdx hdy
  go_enter Try.func53, Try.ntmps53
  go_wp2_with (first
    | (go_at_call_of 86 (Value.int IntKind.i64 dx); refine (H1.out _).mono ?_; rintro e w1 ⟨rfl, rfl⟩)
    | (go_at_call_of 86 (Value.int IntKind.i64 dy); refine (H2.out _).mono ?_; rintro e w1 ⟨rfl, rfl⟩)
    | (refine wpList_load_row rfl 26 (.tmp 3) rfl w.heap.size rfl 26 (mk zs) (0, 0) _ (St.get (by assumption) 0 rfl) Try.underlying26 rfl hi ?_)
    | (go_at_call 80; refine (HM.out _ _ _ ⟨St.get (by assumption) 1 rfl, St.get (by assumption) 2 rfl⟩).mono ?_; rintro e w1 ⟨rfl, hb1⟩; have hS := St.call hb1 (by assumption); clear hb1)
    | (refine wpList_store_row rfl 26 (.tmp 6) (.tmp 19) rfl (w.heap.size + 1 + 1 + 1) (mk rs) rfl rfl 26 (mk zs0) (St.get (by assumption) 3 rfl) hk s2 (mk_one _) ?_))
  refine bodyPost_ret (results_row_tmp rfl _ _ (w.heap.size + 1 + 1 + 1) 26 (mk rs) (0, 0) _ rfl (setRow_heap _ _ (mk zs0) _ _ _ (St.get (by assumption) 3 rfl)) Try.underlying26 rfl hk) rfl ⟨rfl, ?_⟩
  exact below_setRow (St.below (by assumption)) (by omega) _

set_option maxHeartbeats 800000 in
theorem sShi_no (zs : List Int) (hz : zs.length = 16) (dx dy : Int) (h : Off dx ∨ (-16 ≤ dx ∧ dx ≤ 16 ∧ Off dy)) (w : World) :
    Calls Try.prog 52 #[.agg (mk zs), .int .i64 dx, .int .i64 dy] w fun e w' => e = .returned (.tuple #[.agg (mk zs0), .int .i64 2]) ∧ Below w.heap.size w w' := by
  have S0 := St.two w (.cells (mk zs) 26) (.cells (mk zs0) 26)
  have Z := lit0
  rcases h with h | ⟨h1, h1', h2⟩
  · skip
    have H1 := Lib.hid (show ∀ w, _ from fun w => sInS dx w)
    rw [show inS dx = false by unfold inS; unfold Off at h; simp; omega] at H1
    clear h
    go_enter Try.func52, Try.ntmps52
    go_wp2_with (first
    | (go_at_call_of 85 (Value.int IntKind.i64 dx); refine (H1.out _).mono ?_; rintro e w1 ⟨rfl, rfl⟩)
    | (refine wpList_build rfl 26 #[] rfl bzs ?_)
    | (refine wpList_store_row rfl 26 (.tmp 6) (.tmp 16) rfl (w.heap.size + 1) (mk zs0) rfl (congrArg Value.agg bz) 26 (mk zs0) (St.get (by assumption) 1 rfl) (infoSize26 _ rfl) rfl (mk_one _) ?_))
    refine bodyPost_ret (results_row_tmp rfl _ _ (w.heap.size + 1) 26 (mk zs0) (0, 0) _ rfl (setRow_heap _ _ (mk zs0) _ _ _ (St.get (by assumption) 1 rfl)) Try.underlying26 rfl (infoSize26 _ rfl)) rfl ⟨rfl, ?_⟩
    exact below_setRow (St.below (by assumption)) (by omega) _
  · skip
    have H1 := Lib.hid (show ∀ w, _ from fun w => sInS dx w)
    rw [show inS dx = true by unfold inS; simp; omega] at H1
    have H2 := Lib.hid (show ∀ w, _ from fun w => sInS dy w)
    rw [show inS dy = false by unfold inS; unfold Off at h2; simp; omega] at H2
    clear h2
    go_enter Try.func52, Try.ntmps52
    go_wp2_with (first
    | (go_at_call_of 85 (Value.int IntKind.i64 dx); refine (H1.out _).mono ?_; rintro e w1 ⟨rfl, rfl⟩)
    | (go_at_call_of 85 (Value.int IntKind.i64 dy); refine (H2.out _).mono ?_; rintro e w1 ⟨rfl, rfl⟩)
    | (refine wpList_build rfl 26 #[] rfl bzs ?_)
    | (refine wpList_store_row rfl 26 (.tmp 6) (.tmp 16) rfl (w.heap.size + 1) (mk zs0) rfl (congrArg Value.agg bz) 26 (mk zs0) (St.get (by assumption) 1 rfl) (infoSize26 _ rfl) rfl (mk_one _) ?_))
    refine bodyPost_ret (results_row_tmp rfl _ _ (w.heap.size + 1) 26 (mk zs0) (0, 0) _ rfl (setRow_heap _ _ (mk zs0) _ _ _ (St.get (by assumption) 1 rfl)) Try.underlying26 rfl (infoSize26 _ rfl)) rfl ⟨rfl, ?_⟩
    exact below_setRow (St.below (by assumption)) (by omega) _

set_option maxHeartbeats 800000 in
theorem iShi_no (zs : List Int) (hz : zs.length = 16) (dx dy : Int) (h : Off dx ∨ (-16 ≤ dx ∧ dx ≤ 16 ∧ Off dy)) (w : World) :
    Calls Try.prog 53 #[.agg (mk zs), .int .i64 dx, .int .i64 dy] w fun e w' => e = .returned (.tuple #[.agg (mk zs0), .int .i64 2]) ∧ Below w.heap.size w w' := by
  have S0 := (St.three w (.cells (mk zs) 26) (.cells #[.int .i64 dx] 2) (.cells #[.int .i64 dy] 2)).alloc (.cells (mk zs0) 26)
  rw [size_al, size_al, size_al] at S0
  have Z := lit0
  rcases h with h | ⟨h1, h1', h2⟩
  · skip
    have H1 := Lib.hid (show ∀ w, _ from fun w => iInS dx w)
    rw [show inS dx = false by unfold inS; unfold Off at h; simp; omega] at H1
    clear h
    go_enter Try.func53, Try.ntmps53
    go_wp2_with (first
    | (go_at_call_of 86 (Value.int IntKind.i64 dx); refine (H1.out _).mono ?_; rintro e w1 ⟨rfl, rfl⟩)
    | (refine wpList_build rfl 26 #[] rfl bzs ?_)
    | (refine wpList_store_row rfl 26 (.tmp 6) (.tmp 16) rfl (w.heap.size + 1 + 1 + 1) (mk zs0) rfl (congrArg Value.agg bz) 26 (mk zs0) (St.get (by assumption) 3 rfl) (infoSize26 _ rfl) rfl (mk_one _) ?_))
    refine bodyPost_ret (results_row_tmp rfl _ _ (w.heap.size + 1 + 1 + 1) 26 (mk zs0) (0, 0) _ rfl (setRow_heap _ _ (mk zs0) _ _ _ (St.get (by assumption) 3 rfl)) Try.underlying26 rfl (infoSize26 _ rfl)) rfl ⟨rfl, ?_⟩
    exact below_setRow (St.below (by assumption)) (by omega) _
  · skip
    have H1 := Lib.hid (show ∀ w, _ from fun w => iInS dx w)
    rw [show inS dx = true by unfold inS; simp; omega] at H1
    have H2 := Lib.hid (show ∀ w, _ from fun w => iInS dy w)
    rw [show inS dy = false by unfold inS; unfold Off at h2; simp; omega] at H2
    clear h2
    go_enter Try.func53, Try.ntmps53
    go_wp2_with (first
    | (go_at_call_of 86 (Value.int IntKind.i64 dx); refine (H1.out _).mono ?_; rintro e w1 ⟨rfl, rfl⟩)
    | (go_at_call_of 86 (Value.int IntKind.i64 dy); refine (H2.out _).mono ?_; rintro e w1 ⟨rfl, rfl⟩)
    | (refine wpList_build rfl 26 #[] rfl bzs ?_)
    | (refine wpList_store_row rfl 26 (.tmp 6) (.tmp 16) rfl (w.heap.size + 1 + 1 + 1) (mk zs0) rfl (congrArg Value.agg bz) 26 (mk zs0) (St.get (by assumption) 3 rfl) (infoSize26 _ rfl) rfl (mk_one _) ?_))
    refine bodyPost_ret (results_row_tmp rfl _ _ (w.heap.size + 1 + 1 + 1) 26 (mk zs0) (0, 0) _ rfl (setRow_heap _ _ (mk zs0) _ _ _ (St.get (by assumption) 3 rfl)) Try.underlying26 rfl (infoSize26 _ rfl)) rfl ⟨rfl, ?_⟩
    exact below_setRow (St.below (by assumption)) (by omega) _

set_option maxHeartbeats 800000 in
theorem shiLaw (zs rs : List Int) (x y : Int) (c : Int) (hz : zs.length = 16) (hr : rs.length = 16)
    (hs : ∀ w, Calls Try.prog 52 #[.agg (mk zs), .int .i64 x, .int .i64 y] w fun e w' => e = .returned (.tuple #[.agg (mk rs), .int .i64 c]) ∧ Below w.heap.size w w')
    (hm : ∀ w, Calls Try.prog 53 #[.agg (mk zs), .int .i64 x, .int .i64 y] w fun e w' => e = .returned (.tuple #[.agg (mk rs), .int .i64 c]) ∧ Below w.heap.size w w') (w : World) :
    Calls Try.prog 15 #[.agg (mk zs), .int .i64 x, .int .i64 y] w fun e w' => e = .returned (.bool true) ∧ Below w.heap.size w w' := by
  have S0 := St.one w (.cells (mk zs) 23)
  have Z := lit0
  have hi := infoSize23 zs hz
  have hj := infoSize26 rs hr
  have hk := mk_same rs hr
  have KS := Lib.hid hs
  have KI := Lib.hid hm
  clear hs hm
  go_enter Try.func15, Try.ntmps15
  go_upto_region 3 with (first
      | (go_at_call 20; refine (toMask_any zs hz _).mono ?_; rintro e w1 ⟨rfl, hb⟩; have hS := St.call hb (by assumption); clear hb)
      | (go_at_call 52; refine (KS.out _).mono ?_; rintro e w1 ⟨rfl, hb⟩; have hS := St.call hb (by assumption); clear hb)
      | (go_at_call 53; refine (KI.out _).mono ?_; rintro e w1 ⟨rfl, hb⟩; have hS := St.call hb (by assumption); clear hb)
      | (refine wpList_load_row rfl 23 (.tmp 3) rfl w.heap.size rfl 23 (mk zs) (0, 0) _ (St.get (by assumption) 0 rfl) Try.underlying23 rfl hi ?_)
      | (refine wpList_store_row rfl 26 (.tmp 7) (.tmp 17) rfl _ (mk rs) rfl rfl 26 (mk zs0) (one_first _ _) hj hk (mk_one _) ?_; have hS := St.fresh (by assumption) (mk zs0) (mk rs) 26)
      | (refine wpList_store_row rfl 26 (.tmp 9) (.tmp 25) rfl _ (mk rs) rfl rfl 26 (mk zs0) (one_first _ _) hj hk (mk_one _) ?_; have hS := St.fresh (by assumption) (mk zs0) (mk rs) 26))
  go_wp2_with (first
      | (go_at_call 24; refine (eqMask_any rs hr _).mono ?_; rintro e w1 ⟨rfl, hb⟩; have hS := St.call hb (by assumption); clear hb)
      | (refine wpList_load_row rfl 26 (.tmp 9) rfl _ rfl 26 (mk rs) (0, 0) _ (St.get hS 2 rfl) Try.underlying26 rfl hj ?_)
      | (refine wpList_load_row rfl 26 (.tmp 7) rfl _ rfl 26 (mk rs) (0, 0) _ (St.get hS 1 rfl) Try.underlying26 rfl hj ?_))
  go_ret
  exact ⟨rfl, St.below (by assumption)⟩
theorem walkShi (zs : List Int) (x y : Int) (w : World) (hz : zs.length = 16) (_ : ∀ z ∈ zs, (Lit.int .u16 z).wf = true) (_ : (Lit.int .i64 x).wf = true) (_ : (Lit.int .i64 y).wf = true) :
    Calls Try.prog 15 #[.agg (zs.map (Value.int .u16)).toArray, .int .i64 x, .int .i64 y] w fun e w' => e = .returned (.bool true) ∧ Below w.heap.size w w' := by
  by_cases h : Off x ∨ (-16 ≤ x ∧ x ≤ 16 ∧ Off y)
  · exact shiLaw zs zs0 x y 2 hz rfl (fun w => sShi_no zs hz x y h w) (fun w => iShi_no zs hz x y h w) w
  · unfold Off at h
    exact shiLaw zs _ x y 0 hz (mvTo_len _ _) (fun w => sShi_yes zs hz x y (by omega) (by omega) w) (fun w => iShi_yes zs hz x y (by omega) (by omega) w) w
end Go.Proofs.Ytbkbjiifklhgiaa
