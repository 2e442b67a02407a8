/- Lists of cells that came in: what they hold, and the copy. Conditions: none. -/
import Derived.Test.YtbkbjiifklhgiaaCellw
import Derived.Test.YtbkbjiifklhgiaaSet
import Derived.Test.YtbkbjiifklhgiaaOpen
import Derived.Deep.MidRow
import Derived.Deep.Slices
namespace Go.Proofs.Ytbkbjiifklhgiaa
open Go.RowKit
set_option linter.unusedVariables false

/-- The numbers of a list of pairs lie at A. -/
def Prs (w : World) (A : Option Addr) (n : Nat) (f : Nat → Int) : Prop :=
  0 < n → ∃ b o, A = some ⟨b, o, none⟩ ∧ b < w.heap.size ∧ ∀ j, j < n * 2 → w.cell? ⟨b, o + j, none⟩ = some (.int .i32 (f j))
theorem Prs.below {w w' : World} {A : Option Addr} {n : Nat} {f : Nat → Int} (h : Prs w A n f) {B : Nat} (hB : w.heap.size ≤ B) (hb : Below B w w') : Prs w' A n f := fun hn => by
  obtain ⟨b, o, h1, h2, h3⟩ := h hn
  exact ⟨b, o, h1, Nat.lt_of_lt_of_le h2 hb.size, fun j hj => ((hb.mono hB).cell (p := ⟨b, o + j, none⟩) h2).trans (h3 j hj)⟩
theorem MB.prs {w : World} {g S n : Nat} {f : Nat → Int} (h : MB w g 35 S (n * 2) (fun j => .int .i32 (f j))) : Prs w (some ⟨g, 0, none⟩) n f := fun hn =>
  ⟨g, 0, rfl, h.lt, fun j hj => by rw [Nat.zero_add]; exact h.cell hj⟩

theorem spot_none {w : World} {a : Addr} {v : Value} (h : w.cell? a = some v) : a = ⟨a.block, a.off, none⟩ := by
  unfold World.cell? at h
  split at h
  · split at h
    · cases h
    · rename_i hs
      obtain ⟨b, o, s⟩ := a
      cases s
      · rfl
      · simp at hs
  · cases h

theorem open_prs {H : Type} {enc : TypeId × Value → H} {w : World} {base : Nat} {spare : Nat → Bool} {held : Bool} {t e e2 : TypeId}
    {a : Option Addr} {len cap : Nat} {d : DataW H} {p : List MemPlace} (ht : Try.prog.underlying t = some (.slice e)) (he : Try.prog.underlying e = some (.array 2 e2)) (he2 : Try.prog.underlying e2 = some (.int .i32)) (hc2 : Try.prog.cellsOf e2 = 1) (hc : Try.prog.cellsOf e = 2)
    (h : DataW.Trod enc Try.prog w base spare held t (.slice a len cap) d p) : ∃ f : Nat → Int, len ≤ 9223372036854775807 ∧ Prs w a len f ∧ ∀ j, j < len * 2 → (Lit.int .i32 (f j)).wf = true := by
  obtain ⟨fuel, hf⟩ := h
  rcases Deep.open_slice ht hf with ⟨h0, _⟩ | ⟨ad, n, cp, m, q, D, Pl, h0, hb, hl, hm, hmm, hx, hcell⟩
  · have : (Value.slice a len cap) = .slice none 0 0 := by simpa [Value.cells] using h0
    injection this with h1 h2 h3
    subst h1 h2 h3
    exact ⟨fun _ => 0, by omega, fun hn => by omega, fun j hj => by omega⟩
  · have : (Value.slice a len cap) = .slice (some ad) n cp := by simpa [Value.cells] using h0
    injection this with h1 h2 h3
    subst h1 h2 h3
    have hlm : len ≤ m := by rw [hmm]; split <;> omega
    unfold maxLen at hm
    rw [hc] at hcell
    have key : ∀ i, i < m → ∃ zs : List Int, zs.length = 2 ∧ (∀ k, k < 2 → w.cell? ((ad.add (i * 2)).add k) = some (.int .i32 (zs.getD k 0))) ∧ ∀ z ∈ zs, (Lit.int .i32 z).wf = true := fun i hi => by
      obtain ⟨cs, c1, c2⟩ := hcell i hi
      obtain ⟨zs, z1, z2, z3⟩ := trod_arr he he2 hc2 hc c2
      obtain ⟨_, l1, l2⟩ := World.cells?_some c1
      refine ⟨zs, z1, fun k hk => ?_, z3⟩
      rw [l2 k hk, z2, List.getElem?_map, List.getElem?_eq_getElem (by omega), List.getD_eq_getElem?_getD, List.getElem?_eq_getElem (by omega)]; rfl
    obtain ⟨Z, hZ⟩ := Deep.choose_lt key
    refine ⟨fun j => (Z (j / 2)).getD (j % 2) 0, by omega, fun hn => ?_, fun j hj => ?_⟩
    · have c0 := (hZ 0 (by omega)).2.1 0 (by omega)
      rw [show (ad.add (0 * 2)).add 0 = ad by simp [Addr.add]] at c0
      have es := spot_none c0
      refine ⟨ad.block, ad.off, by rw [← es], World.block_lt_of_cell? w ad c0, fun j hj => ?_⟩
      have c1 := (hZ (j / 2) (by omega)).2.1 (j % 2) (by omega)
      rw [es, Addr.add_mid, Addr.add_mid] at c1
      have : ad.off + j / 2 * 2 + j % 2 = ad.off + j := by omega
      rw [this] at c1
      exact c1
    · have := hZ (j / 2) (by omega)
      refine this.2.2 _ ?_
      show (Z (j / 2)).getD (j % 2) 0 ∈ _
      rw [List.getD_eq_getElem?_getD, List.getElem?_eq_getElem (by rw [this.1]; omega)]
      exact List.getElem_mem _

/-- The copy of a pair, under way. -/
def pt (a b : Int) (k : Nat) : Array Value := #[.int .i32 (if 0 < k then a else 0), .int .i32 (if 1 < k then b else 0)]
set_option maxHeartbeats 800000 in
theorem toPair_any (a b : Int) (w : World) :
    Calls Try.prog 88 #[.agg #[.int .i32 a, .int .i32 b]] w fun e w' => e = .returned (.agg #[.int .i32 a, .int .i32 b]) ∧ Below w.heap.size w w' := by
  obtain ⟨z, hz⟩ : ∃ z : Nat → Int, z = fun k => if k = 0 then a else b := ⟨_, rfl⟩
  have hg : ∀ k, k < 2 → (#[Value.int .i32 a, .int .i32 b] : Array Value)[k]? = some (.int .i32 (z k)) := fun k h => by
    subst hz
    match k, h with
    | 0, _ => rfl
    | 1, _ => rfl
  have HG := Lib.hid hg
  have hp : ∀ k, k < 2 → (pt a b k)[k]? = some (.int .i32 0) ∧ (pt a b k).setIfInBounds k (.int .i32 (z k)) = pt a b (k + 1) := fun k h => by
    subst hz
    match k, h with
    | 0, _ => exact ⟨rfl, rfl⟩
    | 1, _ => exact ⟨rfl, rfl⟩
  have HP := Lib.hid hp
  have hf : pt a b 2 = #[Value.int .i32 a, .int .i32 b] := rfl
  have hs0 : ∀ k, (pt a b k).size = 2 := fun k => rfl
  have h00 : pt a b 0 = #[Value.int .i32 0, .int .i32 0] := rfl
  have h1c : ∀ k, (pt a b k).all (·.oneCell') = true := fun k => by simp [pt, Value.oneCell']
  generalize hps : pt a b = ps at *
  rw [← hf] at HG ⊢
  clear hf hz hg hp hps
  have HS := Lib.hid hs0
  have H0 := Lib.hid h00
  have H1 := Lib.hid h1c
  clear hs0 h00 h1c
  go_enter Try.func88, Try.ntmps88
  go_wp2
  rw [← H0.out]
  go_loopw [4] (fun i wr => ∃ k : Nat, k ≤ 2 ∧ i = .int .i64 k ∧ wr = ((w.alloc (.cells (ps 2) 35)).alloc (.cells (ps 0) 35)).alloc (.cells (ps k) 35)) (fun i _ => 2 - (intOf i).toNat)
  case atStart => exact ⟨0, by omega, rfl, rfl⟩
  case round =>
    obtain ⟨k, hk, rfl, rfl⟩ := hrel
    by_cases hlt : k < 2
    · have g1 := HG.out k hlt
      have g2 := (HP.out k hlt).1
      have i1 : (0 : Int) ≤ (k : Int) := by omega
      have i2 : (k : Int) < 2 := by omega
      go_wp2
      go_roundw
      case rel => exact ⟨k + 1, by omega, by go_num, by rw [← (HP.out k hlt).2]⟩
      case measure => simp [intOf]; omega
    · obtain rfl : k = 2 := by omega
      have s1 := HS.out 2
      go_wp2_with (first | (refine wpList_load_row rfl 35 (.tmp 3) rfl (w.heap.size + 1 + 1) rfl 35 (ps 2) (0, 0) _ ?h1 Try.underlying35 rfl ?h2 ?_) | (refine wpList_store_row rfl 35 (.tmp 2) (.tmp 14) rfl (w.heap.size + 1) (ps 2) rfl rfl 35 (ps 0) ?h3 ?h4 ?h5 ?h6 ?_))
      case h1 => simp only [heap_al, size_al]; simp
      case h2 => rw [s1]; kernel_rfl
      case h3 => simp only [heap_al, size_al]; simp
      case h4 => rw [s1]; kernel_rfl
      case h5 => rw [s1, HS.out]
      case h6 => exact H1.out 2
      refine bodyPost_ret (results_cell_row rfl _ _ (w.heap.size + 1) 35 (ps 2) (0, 0) _ rfl (setRow_heap _ _ (ps 0) _ _ _ (by simp only [heap_al, size_al]; simp)) Try.underlying35 rfl (by rw [s1]; kernel_rfl)) rfl ⟨rfl, ?_⟩
      exact below_setRow (below_al (below_al (below_al (Below.refl _ _) (Nat.le_refl _) _) (Nat.le_refl _) _) (Nat.le_refl _) _) (by omega) _
/-- 'make([]T, n)'. -/
theorem wpList_mk {P : Program} {w : World} {ops : Array Oper} {rest : List Oper} {o : Oper} {a : Act} {Q : Exit → Act → World → Prop} (hgd : o.guard = none) (x y : Operand) (t e : TypeId) (ho : o.op = .makeSlice t x y)
    (z : Value) (size bytes n : Nat) (ht : P.underlying t = some (.slice e)) (hi : (P.info? e).map (fun i => (i.zero, i.size, i.bytes)) = some (some z, size, bytes))
    (hx : a.eval x = .int .i64 n) (hy : a.eval y = .int .i64 n) (hn : n ≤ 1000000000) (hby : bytes ≤ 1000)
    (h : wpList P ops Q rest (a.put o.dst (.slice (some ⟨w.heap.size, 0, none⟩) n n)) (w.alloc (.cells (madeCells z.cells (n * size)) e))) : wpList P ops Q (o :: rest) a w := by
  obtain ⟨i, hi0, hz, hsize, hbytes⟩ := info_parts hi
  refine wpList_plain hgd fun K hK => ?_
  have h1 : i.bytes * n ≤ 1000 * 1000000000 := Nat.mul_le_mul (by omega) hn
  have h2 : (i.bytes : Int) * (n : Int) ≤ 281474976710656 := by
    have : ((i.bytes * n : Nat) : Int) ≤ 281474976710656 := by omega
    rwa [Int.natCast_mul] at this
  have hr := run_make (P := P) w t e i z ht hi0 hz .i64 .i64 n n (by omega) (Int.le_refl _) h2 (by omega)
  simp only [Int.toNat_natCast] at hr
  unfold Oper.wp execOp
  simp only [ho, hx, hy, hr, Sem.run_bind, Result.andThen_ok, Sem.run_pure]
  rw [hsize]
  exact hK _ _ h

theorem MB.put2 {w : World} {g : Nat} {e : TypeId} {S n : Nat} {f : Nat → Value} (h : MB w g e S n f) (hn : n + 1 < S) : MB (w.setCells g n [f n, f (n + 1)]) g e S (n + 2) f :=
  (h.put (by omega)).put (by omega)
theorem made_size (n : Nat) : (madeCells #[Value.int .i32 0, .int .i32 0] (n * 2)).size = n * 2 := by simp [madeCells]
theorem below_set2 {w w1 : World} {n : Nat} {x y : Value} (h : Below w.heap.size w w1) : Below w.heap.size w (w1.setCells w.heap.size n [x, y]) := by
  show Below w.heap.size w ((w1.setCell ⟨w.heap.size, n, none⟩ x).setCell ⟨w.heap.size, n + 1, none⟩ y)
  exact (h.setCell (p := ⟨w.heap.size, n, none⟩) (Nat.le_refl _) x).setCell (p := ⟨w.heap.size, n + 1, none⟩) (Nat.le_refl _) y
set_option maxHeartbeats 1600000 in
theorem toPrs_any (A : Option Addr) (n c : Nat) (f : Nat → Int) (hn : n ≤ 1048576) (w : World) (h : Prs w A n f) :
    Calls Try.prog 56 #[.slice A n c] w fun e w' => e = .returned (.slice (some ⟨w.heap.size, 0, none⟩) n n) ∧ MB w' w.heap.size 35 (n * 2) (n * 2) (fun j => .int .i32 (f j)) ∧ Below w.heap.size w w' := by
  have H := Lib.hid h
  clear h
  obtain ⟨G, hG⟩ : ∃ G, G = w.heap.size := ⟨_, rfl⟩
  have HG := Lib.hid hG
  go_enter Try.func56, Try.ntmps56
  go_wp2_with (refine wpList_mk rfl (.tmp 6) (.tmp 6) 49 35 rfl (.agg #[.int .i32 0, .int .i32 0]) 2 8 n Try.underlying49 info35 rfl rfl (by omega) (by omega) ?_)
  have m0 : MB (w.alloc (.cells (madeCells #[Value.int .i32 0, .int .i32 0] (n * 2)) 35)) w.heap.size 35 (n * 2) 0 (fun j => .int .i32 (f j)) := ⟨_, one_first _ _, made_size n, by omega, fun j hj => by omega⟩
  have b0 : Below w.heap.size w (w.alloc (.cells (madeCells #[Value.int .i32 0, .int .i32 0] (n * 2)) 35)) := below_al (Below.refl _ _) (Nat.le_refl _) _
  have M0 := Lib.hid m0
  have B0 := Lib.hid b0
  clear m0 b0
  rw [← HG.out] at M0 ⊢
  clear hG
  go_loopw [4] (fun i wr => ∃ k : Nat, k ≤ n ∧ i = .int .i64 k ∧ MB wr G 35 (n * 2) (k * 2) (fun j => .int .i32 (f j)) ∧ Below w.heap.size w wr) (fun i _ => n - (intOf i).toNat)
  case atStart => exact ⟨0, by omega, rfl, M0.out, B0.out⟩
  case round =>
    obtain ⟨k, hk, rfl, hm, hb⟩ := hrel
    by_cases hlt : k < n
    · have i0 : (0 : Int) ≤ k := by omega
      have i1 : (k : Int) < n := by omega
      obtain ⟨b, o, rfl, hbl, hc⟩ := H.out (by omega)
      obtain ⟨za, hza⟩ : ∃ z, z = f (k * 2) := ⟨_, rfl⟩
      obtain ⟨zb, hzb⟩ : ∃ z, z = f (k * 2 + 1) := ⟨_, rfl⟩
      have ca : wr.cell? ⟨b, o + k * 2, none⟩ = some (.int .i32 za) := (hb.cell (p := ⟨b, o + k * 2, none⟩) hbl).trans (by rw [hza]; exact hc _ (by omega))
      have cb : wr.cell? ⟨b, o + k * 2 + 1, none⟩ = some (.int .i32 zb) := (hb.cell (p := ⟨b, o + k * 2 + 1, none⟩) hbl).trans (by rw [hzb]; exact hc (k * 2 + 1) (by omega))
      have rg : wr.rangeAt b (o + k * 2) [.int .i32 za, .int .i32 zb] := fun j v hj => by
        match j, hj with
        | 0, hj => simp at hj; rw [← hj]; exact ca
        | 1, hj => simp at hj; rw [← hj]; exact cb
        | j + 2, hj => simp at hj
      have RG := Lib.hid rg
      have HM := Lib.hid hm
      have HB := Lib.hid hb
      have HZA := Lib.hid hza
      have HZB := Lib.hid hzb
      clear rg ca cb hc hm hb hza hzb
      have hB2 := HB.out
      clear HB
      go_wp2_with (first
        | (refine wpList_load_mid rfl 35 (.tmp 18) rfl b (o + k * 2) rfl _ _ RG.out Try.underlying35 rfl (by kernel_rfl) ?_)
        | (go_at_call 88; refine (toPair_any za zb _).mono ?_; rintro e w1 ⟨rfl, hb1⟩; have hm1 := Lib.hid (HM.out.below hb1 HM.out.lt); have hb2 := hB2.trans (hb1.mono hB2.size); clear hb1 hB2)
        | (refine wpList_store_mid rfl 35 (.tmp 21) (.tmp 20) rfl G (k * 2) #[.int .i32 za, .int .i32 zb] rfl rfl (fun j hj => by obtain ⟨v, hv⟩ := hm1.out.some_ (j := k * 2 + j) (by have : j < 2 := hj; omega); exact ⟨by rw [hv]; rfl, hm1.out.free _⟩) (by kernel_rfl) (by simp [Value.oneCell']) ?_))
      go_roundw
      case rel => exact ⟨k + 1, by omega, by go_num, by rw [HZA.out, HZB.out, show (k + 1) * 2 = k * 2 + 2 by omega]; exact hm1.out.put2 (f := fun j => .int .i32 (f j)) (by omega), by rw [HG.out]; exact below_set2 hb2⟩
      case measure => simp [intOf]; omega
    · obtain rfl : k = n := by omega
      go_wp2
      go_ret
      rw [← HG.out]; exact ⟨rfl, hm, by rw [HG.out]; exact hb⟩
end Go.Proofs.Ytbkbjiifklhgiaa
