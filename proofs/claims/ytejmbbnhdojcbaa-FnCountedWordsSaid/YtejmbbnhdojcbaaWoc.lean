/- WordOfCode: the walks of both sides and of the law. Conditions: none. -/
import Derived.Test.YtejmbbnhdojcbaaCode
import Derived.Laws.StructEq
namespace Go.Proofs.Ytejmbbnhdojcbaa
open Go.RowKit
set_option linter.unusedVariables false

theorem all_range_int : ∀ (xs ys : List Int), xs.length = ys.length → ((List.range xs.length).all fun i => nth xs i == nth ys i) = (xs == ys)
  | [], [], _ => rfl
  | x :: xs, y :: ys, h => by
    have ih := all_range_int xs ys (by simpa using h)
    rw [List.length_cons, List.range_succ_eq_map, List.all_cons, List.all_map]
    have e : ((fun i => nth (x :: xs) i == nth (y :: ys) i) ∘ Nat.succ) = fun i => nth xs i == nth ys i := rfl
    rw [e, ih]
    show (x == y && xs == ys) = _
    simp [List.cons_beq_cons]
  | [], _ :: _, h => by simp at h
  | _ :: _, [], h => by simp at h
/-- '==' on arrays of numbers. -/
theorem run_eq_ints {P : Program} (w : World) (d : Nat) (t e : TypeId) (n : Nat) (κ : IntKind) (ht : P.underlying t = some (.array n e)) (he : P.underlying e = some (.int κ)) (hsz : ∀ w, (sizeOf e).run P w = .ok 1 w)
    (xs ys : List Int) (hx : xs.length = n) (hy : ys.length = n) : (Op.equalIn (d + 2) t (.agg (mk κ xs)) (.agg (mk κ ys))).run P w = .ok (xs == ys) w := by
  rw [← all_range_int xs ys (hx.trans hy.symm), hx, List.range_eq_range', Op.equalIn]
  simp only [Sem.run_bind, run_underlying ht, Result.andThen_ok, hsz, Std.Legacy.Range.forIn_eq_forIn_range', Std.Legacy.Range.size, Nat.sub_zero, Nat.add_sub_cancel, Nat.div_one]
  have hl : ∀ i ∈ List.range' 0 n 1, i < n := fun i hi => by simpa using (List.mem_range'_1.1 hi).2
  generalize List.range' 0 n 1 = l at hl ⊢
  induction l with
  | nil => simp
  | cons i l ih =>
    have hi : i < n := hl i (by simp)
    have px : (part e (mk κ xs) (i * 1)).run P w = .ok (.int κ (nth xs i)) w := by
      simp [part, isAgg, run_underlying he, mk_get κ xs i (by omega)]
    have py : (part e (mk κ ys) (i * 1)).run P w = .ok (.int κ (nth ys i)) w := by
      simp [part, isAgg, run_underlying he, mk_get κ ys i (by omega)]
    have pe : (Op.equalIn (d + 1) e (.int κ (nth xs i)) (.int κ (nth ys i))).run P w = .ok (nth xs i == nth ys i) w := run_equalIn_int w d e κ κ _ _ he
    simp only [List.forIn_cons, Sem.run_bind, px, py, pe, Result.andThen_ok, List.all_cons]
    cases hb : (nth xs i == nth ys i)
    · simp
    · simp only [Bool.not_true, Bool.false_eq_true, if_false, Sem.run_pure, Result.andThen_ok, Bool.true_and]
      exact ih fun j hj => hl j (by simp [hj])
theorem szU8 (w : World) : (sizeOf 5).run Try.prog w = .ok 1 w := by kernel_rfl
theorem run_neq_wc (w : World) (xs ys : List Int) (hx : xs.length = 16) (hy : ys.length = 16) : (binOp .neq 43 (.agg (mk .u8 xs)) (.agg (mk .u8 ys))).run Try.prog w = .ok (.bool (!(xs == ys))) w := by
  rw [run_neq_struct, show (10000 : Nat) = 9998 + 2 from rfl, run_eq_ints w 9998 43 5 16 .u8 Try.underlying43 Try.underlying5 szU8 xs ys hx hy]
  rfl

/-- A bit of a code. -/
def bitZ (zs : List Int) (t : Nat) : Int := bits BinOp.and IntKind.u8 (nth zs (1 + t / 8) / 2 ^ (7 - t % 8)) 1
theorem and_one : ∀ n : Nat, n < 256 → bits BinOp.and IntKind.u8 (n : Int) 1 = ((n % 2 : Nat) : Int) := by decide +kernel
/-- Bytes. -/
def Byz (zs : List Int) : Prop := ∀ j, 0 ≤ nth zs j ∧ nth zs j ≤ 255
theorem byz_of {zs : List Int} (h : ∀ z ∈ zs, (Lit.int .u8 z).wf = true) : Byz zs := fun j => by
  unfold nth
  by_cases hj : j < zs.length
  · have := h zs[j] (List.getElem_mem hj)
    rw [List.getD_eq_getElem?_getD, List.getElem?_eq_getElem hj]
    simpa [Lit.wf, IntKind.min, IntKind.max, IntKind.signed, IntKind.bits] using this
  · rw [List.getD_eq_getElem?_getD, List.getElem?_eq_none (by omega)]; simp
theorem bitZ_01 {zs : List Int} (h : Byz zs) (t : Nat) : 0 ≤ bitZ zs t ∧ bitZ zs t ≤ 1 := by
  unfold bitZ
  obtain ⟨h1, h2⟩ := h (1 + t / 8)
  obtain ⟨z, hz⟩ : ∃ z : Nat, nth zs (1 + t / 8) = z := ⟨(nth zs (1 + t / 8)).toNat, by omega⟩
  rw [hz] at h2 ⊢
  have e : ((z : Int) / 2 ^ (7 - t % 8)) = ((z / 2 ^ (7 - t % 8) : Nat) : Int) := by simp
  have hlt : z / 2 ^ (7 - t % 8) < 256 := Nat.lt_of_le_of_lt (Nat.div_le_self _ _) (by omega)
  rw [e, and_one _ hlt]
  omega
/-- The number of letter i after b bits. -/
def pz (zs : List Int) (i : Nat) : Nat → Int
  | 0 => 0
  | b + 1 => 2 * pz zs i b + bitZ zs (3 * i + b)
theorem pz_lim {zs : List Int} (h : Byz zs) (i : Nat) : 0 ≤ pz zs i 0 ∧ pz zs i 0 ≤ 0 ∧ 0 ≤ pz zs i 1 ∧ pz zs i 1 ≤ 1 ∧ 0 ≤ pz zs i 2 ∧ pz zs i 2 ≤ 3 ∧ 0 ≤ pz zs i 3 ∧ pz zs i 3 ≤ 7 := by
  have h0 := bitZ_01 h (3 * i + 0)
  have h1 := bitZ_01 h (3 * i + 1)
  have h2 := bitZ_01 h (3 * i + 2)
  simp only [pz]
  omega
theorem pz_le {zs : List Int} (h : Byz zs) (i b : Nat) (hb : b ≤ 3) : 0 ≤ pz zs i b ∧ pz zs i b ≤ 7 := by
  obtain ⟨a0, a1, a2, a3, a4, a5, a6, a7⟩ := pz_lim h i
  rcases (show b = 0 ∨ b = 1 ∨ b = 2 ∨ b = 3 by omega) with rfl | rfl | rfl | rfl <;> omega
/-- The first letters of a code. -/
def wl (zs : List Int) : Nat → List UInt8
  | 0 => []
  | k + 1 => wl zs k ++ [atb letters (pz zs k 3).toNat]
theorem wl_len (zs : List Int) : ∀ k, (wl zs k).length = k
  | 0 => rfl
  | k + 1 => by unfold wl; rw [List.length_append, wl_len zs k]; rfl
theorem let_isL : ∀ p : Nat, p < 8 → Wd.isL (atb letters p) = true := by decide +kernel
theorem wl_all {zs : List Int} (h : Byz zs) : ∀ k, ∀ x ∈ wl zs k, Wd.isL x = true
  | 0, x, hx => by simp [wl] at hx
  | k + 1, x, hx => by
    unfold wl at hx
    rcases List.mem_append.1 hx with hx | hx
    · exact wl_all h k x hx
    · rw [List.mem_singleton] at hx
      have := pz_le h k 3 (by omega)
      rw [hx]; exact let_isL _ (by omega)
theorem wl_vld {zs : List Int} (h : Byz zs) {n : Nat} (hn : n ≤ 40) : vld (wl zs n) = true := vld_iff.2 ⟨wl_all h n, by rw [wl_len]; exact hn⟩
theorem let_onew : ∀ x : Nat, x < 8 → (letters.take (x + 1)).drop x = [atb letters x] := by decide +kernel
/-- What is told by a code: a word and whether it is one. -/
def wocW (zs : List Int) (n : Nat) : List UInt8 := if codeTo (wl zs n) (3 * (wl zs n).length) == zs then wl zs n else []
def wocC (zs : List Int) (n : Nat) : Int := if codeTo (wl zs n) (3 * (wl zs n).length) == zs then 0 else 5

theorem lit0w : (#[Value.int IntKind.u8 0, Value.int IntKind.u8 0, Value.int IntKind.u8 0, Value.int IntKind.u8 0, Value.int IntKind.u8 0, Value.int IntKind.u8 0, Value.int IntKind.u8 0, Value.int IntKind.u8 0, Value.int IntKind.u8 0, Value.int IntKind.u8 0, Value.int IntKind.u8 0, Value.int IntKind.u8 0, Value.int IntKind.u8 0, Value.int IntKind.u8 0, Value.int IntKind.u8 0, Value.int IntKind.u8 0] : Array Value) = mk .u8 z16 := rfl
theorem own_callW {w w' : World} {B : Nat} {e : TypeId} {v : Value} {l : List UInt8} (h : Own w B e v l) (hb : Below w.heap.size w w') : Own w' B e v l := by
  refine ⟨⟨h.1.1, ?_⟩, h.2⟩
  rcases h.1.2 with h0 | ⟨g, cap, cur, h1, h2, h3, h4⟩
  · exact .inl h0
  · exact .inr ⟨g, cap, cur, h1, h2, by rw [hb.block _ (Array.getElem?_eq_some_iff.1 h3).1]; exact h3, h4⟩
theorem own_fresh {w : World} {B : Nat} {e : TypeId} {v : Value} {l : List UInt8} (h : Own w B e v l) (old cs : Array Value) (t : TypeId) : Own ((w.alloc (.cells old t)).setRow w.heap.size cs) B e v l := by
  rw [show (w.alloc (.cells old t)).setRow w.heap.size cs = w.alloc (.cells cs t) from World.setRow_alloc_new _ _ _ _]
  exact own_callW h ((Below.refl _ _).alloc (Nat.le_refl _) _)
set_option maxRecDepth 20000 in
set_option maxHeartbeats 3200000 in
theorem iWoc_yes (zs : List Int) (hz : zs.length = 16) (hZ : Byz zs) (n : Nat) (hn : nth zs 0 = n) (h40 : n ≤ 40) (w : World) :
    Calls Try.prog 23 #[.agg (mk .u8 zs)] w fun e w' => e = .returned (.tuple #[.string (bs (wocW zs n)), .int .i64 (wocC zs n)]) ∧ Below w.heap.size w w' := by
  have c0 := mk_get .u8 zs 0 (by omega)
  rw [hn] at c0
  have n0 : (0 : Int) ≤ n := by omega
  have n1 : (n : Int) ≤ 40 := by omega
  have HZ := Lib.hid hZ
  clear hn hZ
  go_enter Try.func23, Try.ntmps23
  go_wp2
  go_loopw [4, 18] (fun o i wr => ∃ k : Nat, k ≤ n ∧ i = .int .i64 k ∧ Own wr (w.heap.size + 1) 5 o (wl zs k) ∧ Below (w.heap.size + 1) (w.alloc (.cells (mk .u8 zs) 43)) wr) (fun _ i _ => n - (intOf i).toNat)
  case atStart => exact ⟨0, by omega, rfl, by have := own_made (w.alloc (.cells (mk .u8 zs) 43)) (w.heap.size + 1) 5 (by simp); rw [size_al] at this; exact this, (Below.refl _ _).alloc (by simp) _⟩
  case round =>
    obtain ⟨k, hk, rfl, hown, hbel⟩ := hrel
    have HO := Lib.hid hown
    obtain ⟨wo, rfl⟩ : ∃ wo : World, wo = wr := ⟨_, rfl⟩
    clear hown
    have i0 : (0 : Int) ≤ k := by omega
    by_cases hlt : k < n
    · have i1 : (k : Int) < n := by omega
      go_wp2
      go_loopw [6, 21] (fun q i wr => ∃ b : Nat, b ≤ 3 ∧ i = .int .i64 b ∧ q = .int .i64 (pz zs k b) ∧ wr = wo) (fun _ i _ => 3 - (intOf i).toNat)
      case atStart => exact ⟨0, by omega, rfl, rfl, rfl⟩
      case round =>
        obtain ⟨b, hb, rfl, rfl, rfl⟩ := hrel
        have b0 : (0 : Int) ≤ b := by omega
        by_cases hlb : b < 3
        · have b1 : (b : Int) < 3 := by omega
          obtain ⟨z0, z1⟩ := pz_le HZ.out k b hb
          have hsu : pz zs k (b + 1) = 2 * pz zs k b + bitZ zs (3 * k + b) := rfl
          obtain ⟨y0, y1⟩ := bitZ_01 HZ.out (3 * k + b)
          have hbz : bitZ zs (3 * k + b) = bits BinOp.and IntKind.u8 (nth zs (1 + (3 * k + b) / 8) / 2 ^ (7 - (3 * k + b) % 8)) 1 := rfl
          obtain ⟨t, ht⟩ : ∃ t, t = 3 * k + b := ⟨_, rfl⟩
          rw [← ht] at hsu y0 y1 hbz
          obtain ⟨j, hj⟩ : ∃ j, j = 1 + t / 8 := ⟨_, rfl⟩
          obtain ⟨r, hr⟩ : ∃ r, r = t % 8 := ⟨_, rfl⟩
          have r8 : r < 8 := by omega
          have hcell := mk_get .u8 zs j (by omega)
          have et : 3 * (k : Int) + b = (t : Int) := by omega
          have ej : 1 + (t : Int) / 8 = (j : Int) := by omega
          have er : (t : Int) % 8 = (r : Int) := by omega
          have j16 : (j : Int) < 16 := by omega
          rw [← hj, ← hr] at hbz
          obtain ⟨Y, hY⟩ : ∃ Y, Y = bitZ zs t := ⟨_, rfl⟩
          rw [← hY] at hsu y0 y1 hbz
          obtain ⟨z, hzz⟩ : ∃ z, z = pz zs k b := ⟨_, rfl⟩
          rw [← hzz] at hsu z0 z1 ⊢
          have HSu := Lib.hid hsu
          have eY := hbz.symm
          clear ht hj hr hsu hY hzz hbz
          have hbox : wr.heap[w.heap.size]? = some (.cells (mk .u8 zs) 43 (0, 0)) := by rw [hbel.block _ (by omega)]; exact one_first _ _
          have hcw : wr.cell? ⟨w.heap.size, j, none⟩ = some (.int .u8 (nth zs j)) := by rw [cell_of_row wr _ j _ _ _ hbox]; exact hcell
          clear hbox hcell
          go_wp2
          go_roundw
          case rel => exact ⟨b + 1, by omega, by go_num, by rw [HSu.out], trivial⟩
          case measure => simp [intOf]; omega
        · obtain rfl : b = 3 := by omega
          obtain ⟨z0, z1⟩ := pz_le HZ.out k 3 hb
          have hw : wl zs (k + 1) = wl zs k ++ [atb letters (pz zs k 3).toNat] := rfl
          obtain ⟨p, hp⟩ : ∃ p : Nat, pz zs k 3 = p := ⟨(pz zs k 3).toNat, by omega⟩
          rw [hp] at hw z1 ⊢
          have p8 : p < 8 := by omega
          rw [show ((p : Int)).toNat = p from rfl] at hw
          have HW := Lib.hid hw
          have HL := Lib.hid (let_onew p p8)
          have p0 : (0 : Int) ≤ p := by omega
          have pl : (p : Int) < letters.length := by rw [letters_len]; omega
          have pl2 : (p : Int) + 1 ≤ letters.length := by rw [letters_len]; omega
          clear hw hp
          have ll : (wl zs k).length < 1000000000 := by rw [wl_len]; omega
          go_wp2_with (at_builtin; refine wpList_pushByte rfl (.tmp 43) (.tmp 46) 22 rfl (w.heap.size + 1) 5 Try.underlying22 info_u8 _ _ (atb letters p) _ rfl rfl HO.out hbel (by simp) rfl ll ?_)
          intro v' w' hO hB
          go_wp2
          go_roundw
          case rel => exact ⟨k + 1, by omega, by go_num, by rw [HW.out]; exact hO, hB⟩
          case measure => simp [intOf]; omega
    · obtain rfl : k = n := by omega
      have hlen := wl_len zs k
      have hv := wl_vld HZ.out h40
      have HC := Lib.hid (show ∀ w, _ from fun w => iCode_yes (wl zs k) (by rw [wl_len]; omega) hv w)
      have hcl := codeTo_len (wl zs k) (3 * (wl zs k).length)
      have hW1 : wocW zs k = if codeTo (wl zs k) (3 * (wl zs k).length) == zs then wl zs k else [] := rfl
      have hC1 : wocC zs k = if codeTo (wl zs k) (3 * (wl zs k).length) == zs then 0 else 5 := rfl
      obtain ⟨u, hu⟩ : ∃ u, u = wl zs k := ⟨_, rfl⟩
      rw [← hu] at HC hcl hW1 hC1 hlen
      rw [← hu] at HO
      obtain ⟨rs, hrs⟩ : ∃ rs, rs = codeTo u (3 * u.length) := ⟨_, rfl⟩
      rw [← hrs] at HC hcl hW1 hC1
      have hi := info_WC rs hcl
      have hi2 := info_WC zs hz
      have hq : ∀ w, (binOp .neq 43 (.agg (mk .u8 rs)) (.agg (mk .u8 zs))).run Try.prog w = .ok (.bool (!(rs == zs))) w := fun w => run_neq_wc w rs zs hcl hz
      have hsz : (mk .u8 z16).size = (mk .u8 rs).size := by rw [mk_size, mk_size, hcl]; rfl
      have Z := lit0w
      obtain ⟨gg, cap, hvv⟩ := own_shape HO.out
      have hbox : wo.heap[w.heap.size]? = some (.cells (mk .u8 zs) 43 (0, 0)) := by rw [hbel.block _ (by omega)]; exact one_first _ _
      have hB0 : Below w.heap.size w wo := ((Below.refl _ w).alloc (Nat.le_refl _) _).trans (hbel.mono (by omega))
      have S0 : St w [(w.heap.size, .cells (mk .u8 zs) 43)] wo := ⟨hB0, fun i g o h => by
        match i, h with
        | 0, h => simp at h; obtain ⟨rfl, rfl⟩ := h; exact ⟨Nat.le_refl _, hbox⟩⟩
      clear hbox hvv
      clear hu hrs hv
      cases hb : (rs == zs)
      · rw [hb] at hW1 hC1
        have EW := Lib.hid hW1
        have EC := Lib.hid hC1
        simp only [hb, Bool.not_false] at hq
        clear hW1 hC1 hb
        go_wp2_with (first
          | (refine wpList_str rfl (.tmp 50) 22 9 rfl (w.heap.size + 1) 5 Try.underlying22 Try.underlying5 Try.underlying9 u HO.out ?_)
          | (go_at_call 22; refine (HC.out _).mono ?_; rintro e w1 ⟨rfl, hb1⟩; have hS := St.call hb1 (by assumption); have HO1 := Lib.hid (own_callW HO.out hb1); clear hb1)
          | (refine wpList_store_row rfl 43 (.tmp 9) (.tmp 53) rfl _ (mk .u8 rs) rfl rfl 43 (mk .u8 z16) (one_first _ _) hi hsz (mk_one _ _) ?_; have HO2 := Lib.hid (own_fresh HO1.out (mk .u8 z16) (mk .u8 rs) 43); have hS := St.fresh (by assumption) (mk .u8 z16) (mk .u8 rs) 43)
          | (refine wpList_load_row rfl 43 (.tmp 9) rfl _ rfl 43 (mk .u8 rs) (0, 0) _ (St.get hS 1 rfl) Try.underlying43 rfl hi ?_)
          | (refine wpList_load_row rfl 43 (.tmp 1) rfl _ rfl 43 (mk .u8 zs) (0, 0) _ (St.get hS 0 rfl) Try.underlying43 rfl hi2 ?_)
          | (refine wpList_str rfl (.tmp 58) 22 9 rfl (w.heap.size + 1) 5 Try.underlying22 Try.underlying5 Try.underlying9 u HO2.out ?_))
        go_ret2
        exact ⟨by rw [EW.out, EC.out]; rfl, St.below hS⟩
      · rw [hb] at hW1 hC1
        have EW := Lib.hid hW1
        have EC := Lib.hid hC1
        simp only [hb, Bool.not_true] at hq
        clear hW1 hC1 hb
        go_wp2_with (first
          | (refine wpList_str rfl (.tmp 50) 22 9 rfl (w.heap.size + 1) 5 Try.underlying22 Try.underlying5 Try.underlying9 u HO.out ?_)
          | (go_at_call 22; refine (HC.out _).mono ?_; rintro e w1 ⟨rfl, hb1⟩; have hS := St.call hb1 (by assumption); have HO1 := Lib.hid (own_callW HO.out hb1); clear hb1)
          | (refine wpList_store_row rfl 43 (.tmp 9) (.tmp 53) rfl _ (mk .u8 rs) rfl rfl 43 (mk .u8 z16) (one_first _ _) hi hsz (mk_one _ _) ?_; have HO2 := Lib.hid (own_fresh HO1.out (mk .u8 z16) (mk .u8 rs) 43); have hS := St.fresh (by assumption) (mk .u8 z16) (mk .u8 rs) 43)
          | (refine wpList_load_row rfl 43 (.tmp 9) rfl _ rfl 43 (mk .u8 rs) (0, 0) _ (St.get hS 1 rfl) Try.underlying43 rfl hi ?_)
          | (refine wpList_load_row rfl 43 (.tmp 1) rfl _ rfl 43 (mk .u8 zs) (0, 0) _ (St.get hS 0 rfl) Try.underlying43 rfl hi2 ?_)
          | (refine wpList_str rfl (.tmp 58) 22 9 rfl (w.heap.size + 1) 5 Try.underlying22 Try.underlying5 Try.underlying9 u HO2.out ?_))
        go_ret2
        exact ⟨by rw [EW.out, EC.out]; rfl, St.below hS⟩
set_option maxHeartbeats 800000 in
theorem iWoc_no (zs : List Int) (hz : zs.length = 16) (n : Nat) (hn : nth zs 0 = n) (h40 : 40 < n) (w : World) :
    Calls Try.prog 23 #[.agg (mk .u8 zs)] w fun e w' => e = .returned (.tuple #[.string (bs []), .int .i64 5]) ∧ Below w.heap.size w w' := by
  have c0 := mk_get .u8 zs 0 (by omega)
  rw [hn] at c0
  have n1 : (40 : Int) < n := by omega
  clear hn
  go_enter Try.func23, Try.ntmps23
  go_wp2
  go_ret2
  exact ⟨rfl, (Below.refl _ _).alloc (Nat.le_refl _) _⟩
theorem trod_arr {H : Type} {enc : TypeId × Value → H} {P : Program} {w : World} {base : Nat} {spare : Nat → Bool} {held : Bool} {fuel : Nat} {t e : TypeId} {n : Nat} {k : IntKind}
    {cs : List Value} {x : DataW H × List MemPlace} (ht : P.underlying t = some (.array n e)) (he : P.underlying e = some (.int k)) (hce : P.cellsOf e = 1) (hct : P.cellsOf t = n)
    (h : DataW.trod enc P w base spare held fuel t cs = some x) : ∃ zs : List Int, zs.length = n ∧ cs = zs.map (Value.int k) ∧ ∀ z ∈ zs, (Lit.int k z).wf = true := by
  obtain ⟨xs, m, _, _, hl, hx, hi⟩ := DataW.trod_array ht h
  rw [hct] at hl
  have key : ∀ i, i < n → ∃ z, cs[i]? = some (.int k z) ∧ (Lit.int k z).wf = true := by
    intro i hin
    have h1 := hi i hin
    rw [hce, Nat.mul_one, List.getElem?_eq_getElem (by omega)] at h1
    obtain ⟨z, hz, _, hw⟩ := DataW.trod_int he h1
    refine ⟨z, ?_, hw⟩
    have h2 : (cs.drop i)[0]? = some (.int k z) := by
      have := congrArg (fun l => l[0]?) hz
      simpa [List.getElem?_take] using this
    simpa using h2
  let num : Value → Int := fun v => match v with | .int _ z => z | _ => 0
  refine ⟨cs.map num, by simpa using hl, ?_, ?_⟩
  · apply List.ext_getElem?
    intro i
    by_cases hin : i < n
    · obtain ⟨z, hz, _⟩ := key i hin
      simp [hz, num]
    · rw [List.getElem?_eq_none (by omega), List.getElem?_eq_none (by simp; omega)]
  · intro z hz
    obtain ⟨v, hv, rfl⟩ := List.mem_map.1 hz
    obtain ⟨i, hin, rfl⟩ := List.mem_iff_getElem.1 hv
    obtain ⟨z, hz, hw⟩ := key i (by omega)
    rw [List.getElem?_eq_getElem hin] at hz
    rw [Option.some.inj hz]; exact hw

theorem open_arr {H : Type} {enc : TypeId × Value → H} {P : Program} {w w' : World} {r : Reach} {b0 base : Nat} {spare : Nat → Bool} {held : Bool} {t e : TypeId} {n : Nat} {k : IntKind}
    {v : Value} {d : DataW H} {p : List MemPlace} (ht : P.underlying t = some (.array n e)) (he : P.underlying e = some (.int k)) (hce : P.cellsOf e = 1) (hct : P.cellsOf t = n)
    (hv : Value.okWide P w' r b0 t v) (h : DataW.Trod enc P w base spare held t v d p) : ∃ zs : List Int, zs.length = n ∧ v = .agg (zs.map (Value.int k)).toArray ∧ ∀ z ∈ zs, (Lit.int k z).wf = true := by
  unfold Value.okWide at hv
  rw [ht] at hv
  obtain ⟨cs, rfl, _, _⟩ := hv
  obtain ⟨fuel, hf⟩ := h
  obtain ⟨zs, h1, h2, h3⟩ := trod_arr ht he hce hct hf
  refine ⟨zs, h1, ?_, h3⟩
  have : cs.toList = zs.map (Value.int k) := h2
  rw [← this]

end Go.Proofs.Ytejmbbnhdojcbaa
