/- ReadMask: what is known of the mask while it is read (plain law), and the walks of both sides. Conditions: none. -/
import Derived.Test.YtbkbjiifklhgiaaDoorSpl
namespace Go.Proofs.YtbkbjiifklhgiaaDoor
open Go.RowKit
set_option linter.unusedVariables false

/-- A mask with this text. -/
def Good (L : List UInt8) (z0 : List Int) : Prop := WfM z0 ∧ textTo z0 16 = L
def At (L : List UInt8) (zs : List Int) (a : Nat) : Prop := ∀ z0, Good L z0 → zs = upM z0 a
def Fin (L : List UInt8) (zs : List Int) : Prop := ∀ z0, Good L z0 → zs = z0
theorem At.zero (L : List UInt8) : At L zs0 0 := fun z0 _ => rfl
theorem At.skip {L : List UInt8} {zs : List Int} {a : Nat} (h : At L zs a) (hb : ∀ z0, Good L z0 → hasN z0 a = false) : At L zs (a + 1) := fun z0 hg => by
  rw [h z0 hg]
  show upM z0 a = (if hasN z0 a then put (upM z0 a) a else upM z0 a)
  rw [hb z0 hg, if_neg (by simp)]
theorem At.put {L : List UInt8} {zs : List Int} {a : Nat} (h : At L zs a) (hb : ∀ z0, Good L z0 → hasN z0 a = true) : At L (put zs a) (a + 1) := fun z0 hg => by
  rw [h z0 hg]
  show Go.Proofs.YtbkbjiifklhgiaaDoor.put (upM z0 a) a = (if hasN z0 a then Go.Proofs.YtbkbjiifklhgiaaDoor.put (upM z0 a) a else upM z0 a)
  rw [hb z0 hg, if_pos rfl]
theorem fin_all {L : List UInt8} {zs : List Int} (h : At L zs 256) : Fin L zs := fun z0 hg => by
  rw [h z0 hg]; exact upM_all z0 hg.1.1 hg.1.2
theorem good_len {L : List UInt8} {z0 : List Int} (h : Good L z0) : L.length = 272 := by rw [← h.2, textTo_len]
theorem good_at {L : List UInt8} {z0 : List Int} (h : Good L z0) {y x : Nat} (hx : x < 16) (hy : y < 16) : (atb L (17 * y + x) = 35) ↔ has z0 x y = true := by
  rw [← h.2, text_at z0 y x hx hy, sign_35]
theorem good_line {L : List UInt8} {z0 : List Int} (h : Good L z0) : (lns L).length = 17 ∧ ∀ k, k < 16 → (lns L).getD k [] = rowTo z0 k 16 := by
  rw [← h.2]; exact lns_good
theorem up_same {L : List UInt8} {z0 z1 : List Int} (h0 : Good L z0) (h1 : Good L z1) : z0 = z1 := by
  have all : ∀ t, t < 256 → hasN z0 t = hasN z1 t := fun t ht => by
    have e0 := good_at h0 (y := t / 16) (x := t % 16) (Nat.mod_lt _ (by omega)) (by omega)
    have e1 := good_at h1 (y := t / 16) (x := t % 16) (Nat.mod_lt _ (by omega)) (by omega)
    unfold hasN
    cases ha : has z0 (t % 16) (t / 16) <;> cases hb : has z1 (t % 16) (t / 16)
    · rfl
    · rw [ha] at e0; rw [hb] at e1; simp at e0 e1; exact absurd e1 e0
    · rw [ha] at e0; rw [hb] at e1; simp at e0 e1; exact absurd e0 e1
    · rfl
  have up : ∀ n, n ≤ 256 → upM z0 n = upM z1 n := by
    intro n
    induction n with
    | zero => intro _; rfl
    | succ n ih =>
      intro hn
      show (if hasN z0 n then put (upM z0 n) n else upM z0 n) = (if hasN z1 n then put (upM z1 n) n else upM z1 n)
      rw [all n (by omega), ih (by omega)]
  have := up 256 (Nat.le_refl _)
  rwa [upM_all z0 h0.1.1 h0.1.2, upM_all z1 h1.1.1 h1.1.2] at this
def Res (L : List UInt8) (zs : List Int) (c : Int) : Prop := (c = 0 ∧ Good L zs) ∨ (c = 5 ∧ zs = zs0 ∧ ∀ z0, ¬ Good L z0)
theorem res_one {L : List UInt8} {zs zs' : List Int} {c c' : Int} (h : Res L zs c) (h' : Res L zs' c') : zs = zs' ∧ c = c' := by
  rcases h with ⟨h1, h2⟩ | ⟨h1, h2, h3⟩ <;> rcases h' with ⟨h1', h2'⟩ | ⟨h1', h2', h3'⟩
  · exact ⟨up_same h2 h2', by omega⟩
  · exact absurd h2 (h3' zs)
  · exact absurd h2' (h3 zs')
  · exact ⟨by rw [h2, h2'], by omega⟩
theorem res_len {L : List UInt8} {zs : List Int} {c : Int} (h : Res L zs c) : zs.length = 16 := by
  rcases h with ⟨_, h2⟩ | ⟨_, h2, _⟩
  · exact h2.1.1
  · rw [h2]; rfl
theorem res_yes {L : List UInt8} {zs : List Int} (hw : WfM zs) (h : textTo zs 16 = L) : Res L zs 0 := .inl ⟨rfl, hw, h⟩
theorem res_no {L : List UInt8} {zs : List Int} (hf : Fin L zs) (h : textTo zs 16 ≠ L) : Res L zs0 5 := .inr ⟨rfl, rfl, fun z0 hg => h (by rw [hf z0 hg]; exact hg.2)⟩
theorem res_short {L : List UInt8} (h : L.length ≠ 272) : Res L zs0 5 := .inr ⟨rfl, rfl, fun z0 hg => h (good_len hg)⟩
theorem Gr.any2 {w wr : World} {zs : List Int} (h : Gr w wr zs) {t x y : Nat} (hy : t / 16 = y) (hx : t % 16 = x) : Gr w (wr.setCell ⟨w.heap.size + 1, y, none⟩ (.int .u16 (bits BinOp.or IntKind.u16 (nth zs y) (IntKind.u16.wrap (2 ^ x))))) (Go.Proofs.YtbkbjiifklhgiaaDoor.put zs t) := by
  subst hy hx; exact h.any t
theorem Gr.lt {w wr : World} {zs : List Int} (h : Gr w wr zs) : w.heap.size + 1 < wr.heap.size := (Array.getElem?_eq_some_iff.1 h.2.1).1

set_option maxRecDepth 100000 in
set_option maxHeartbeats 6400000 in
theorem sRd (L : List UInt8) (hl : L.length ≤ 1048576) (w : World) :
    Calls Tryd.prog 4 #[.string (bs L)] w fun e w' => (∃ zs c, e = .returned (.tuple #[.agg (mk zs), .int .i64 c]) ∧ Res L zs c) ∧ Below w.heap.size w w' := by
  have Z := lit0
  by_cases hlen : L.length = 272
  · have l272 : ((L.length : Int) != 272) = false := by rw [hlen]; rfl
    have HL := Lib.hid hlen
    clear hl hlen
    go_enter Tryd.func4, Tryd.ntmps4
    go_wp2_with (first | (refine wpList_build rfl 24 #[] rfl bzs ?_) | (refine wpList_store_row rfl 24 (.tmp 4) (.tmp 6) rfl (w.heap.size + 1) (mk zs0) rfl (congrArg Value.agg bz) 24 (mk zs0) (two_second _ _ _) (infoSize26 _ rfl) rfl (mk_one _) ?_))
    go_loopw [5] (fun i wr => ∃ k : Nat, k ≤ 256 ∧ i = .int .i64 k ∧ ∃ zs, WfM zs ∧ At L zs k ∧ Gr w wr zs) (fun i _ => 256 - (intOf i).toNat)
    case atStart => exact ⟨0, by omega, rfl, zs0, wfM_zero, At.zero L, gr_start w⟩
    case round =>
      obtain ⟨k, hk, rfl, zs, hz, hat, hg⟩ := hrel
      have HZ := Lib.hid hz
      have HT := Lib.hid hat
      have z16 := hz.1
      clear hz hat
      by_cases hlt : k < 256
      · have i1 : (k : Int) < 256 := by omega
        obtain ⟨y, hy⟩ : ∃ y, k / 16 = y := ⟨_, rfl⟩
        obtain ⟨x, hx⟩ : ∃ x, k % 16 = x := ⟨_, rfl⟩
        have ey : (k : Int) / 16 = (y : Int) := by omega
        have ex : (k : Int) % 16 = (x : Int) := by omega
        have y0 : (0 : Int) ≤ y := by omega
        have y1 : (y : Int) < 16 := by omega
        have x0 : (0 : Int) ≤ x := by omega
        have x1 : (x : Int) < 16 := by omega
        have q0 : (0 : Int) ≤ 17 * (y : Int) + x := by omega
        have q1 : 17 * (y : Int) + x < L.length := by rw [HL.out]; omega
        have cm := hg.cell (y := y) (by omega)
        have fm := hg.free y
        have hgh := Lib.hid hg
        have HY := Lib.hid hy
        have HX := Lib.hid hx
        obtain ⟨d, hd⟩ : ∃ d : UInt8, d = atb L (17 * y + x) := ⟨_, rfl⟩
        have etn : (17 * (y : Int) + x).toNat = 17 * y + x := by omega
        have hat : atb L (17 * (y : Int) + x).toNat = d := by rw [etn, hd]
        have HBit := Lib.hid (show ∀ z0, Good L z0 → (d = 35 ↔ hasN z0 k = true) from fun z0 hz0 => by
          rw [hd, good_at hz0 (by omega) (by omega), ← hx, ← hy]; exact Iff.rfl)
        clear hg hd etn hy hx
        by_cases h35 : d = 35
        · have t1 : ((d.toNat : Int) == 35) = true := by rw [h35]; rfl
          have HB := Lib.hid (show ∀ z0, Good L z0 → hasN z0 k = true from fun z0 hz0 => (HBit.out z0 hz0).1 h35)
          clear h35
          go_wp2
          go_roundw
          case rel => exact ⟨k + 1, by omega, by go_num, _, wfM_put HZ.out k, HT.out.put HB.out, hgh.out.any2 HY.out HX.out⟩
          case measure => simp [intOf]; omega
        · have t1 : ((d.toNat : Int) == 35) = false := by
            rw [beq_eq_false_iff_ne]
            exact fun e => h35 (UInt8.toNat_inj.1 (Int.ofNat_inj.1 e))
          have HB := Lib.hid (show ∀ z0, Good L z0 → hasN z0 k = false from fun z0 hz0 => by
            cases hh : hasN z0 k
            · rfl
            · exact absurd ((HBit.out z0 hz0).2 hh) h35)
          clear h35
          go_wp2
          go_roundw
          case rel => exact ⟨k + 1, by omega, by go_num, zs, HZ.out, HT.out.skip HB.out, hgh.out⟩
          case measure => simp [intOf]; omega
      · obtain rfl : k = 256 := by omega
        have HF := Lib.hid (fin_all HT.out)
        have hR := Lib.hid hg.1
        have hM := Lib.hid hg.2.1
        have hB := hg.2.2
        have hl := hg.lt
        have hzi := infoSize26 zs z16
        have hP : ∀ w, Calls Tryd.prog 7 #[.agg (mk zs)] w fun e w' => e = .returned (.string (bs (textTo zs 16))) ∧ Below w.heap.size w w' := fun w => sText zs z16 w
        obtain ⟨T, hT⟩ : ∃ T, T = textTo zs 16 := ⟨_, rfl⟩
        rw [← hT] at hP
        have HP := Lib.hid hP
        have HT2 := Lib.hid hT
        clear hg hP hT
        by_cases he : T = L
        · subst he
          have HR := Lib.hid (res_yes HZ.out HT2.out.symm)
          go_wp2_with (first
            | (have _t := hb1; clear _t; refine wpList_load_row rfl 24 (.tmp 4) rfl (w.heap.size + 1) rfl 24 (mk zs) (0, 0) _ hM1.out Tryd.underlying24 rfl hzi ?_)
            | (refine wpList_load_row rfl 24 (.tmp 4) rfl (w.heap.size + 1) rfl 24 (mk zs) (0, 0) _ hM.out Tryd.underlying24 rfl hzi ?_)
            | (go_at_call 7; refine (HP.out _).mono ?_; rintro e w1 ⟨rfl, hb1⟩; have hB1 := Lib.hid (hB.trans (hb1.mono hB.size)); have hR1 := Lib.hid ((hb1.block _ (by omega)).trans hR.out); have hM1 := Lib.hid ((hb1.block _ (by omega)).trans hM.out))
            | (refine wpList_store_row rfl 24 (.tmp 2) (.tmp 39) rfl w.heap.size (mk zs) rfl rfl 24 (mk zs0) hR1.out hzi (mk_same _ z16) (mk_one _) ?_))
          refine bodyPost_ret (results_row_tmp rfl _ _ w.heap.size 24 (mk zs) (0, 0) _ rfl (setRow_heap _ _ (mk zs0) _ _ _ hR1.out) Tryd.underlying24 rfl hzi) rfl ⟨⟨zs, 0, rfl, HR.out⟩, ?_⟩
          exact below_setRow hB1.out (Nat.le_refl _) _
        · have HR := Lib.hid (res_no HF.out (fun e => he (HT2.out.trans e)))
          have hne : ((bs T).toList == (bs L).toList) = false := by rw [bs_toList, bs_toList, beq_eq_false_iff_ne]; exact he
          go_wp2_with (first
            | (refine wpList_load_row rfl 24 (.tmp 4) rfl (w.heap.size + 1) rfl 24 (mk zs) (0, 0) _ hM.out Tryd.underlying24 rfl hzi ?_)
            | (go_at_call 7; refine (HP.out _).mono ?_; rintro e w1 ⟨rfl, hb1⟩; have hB1 := Lib.hid (hB.trans (hb1.mono hB.size)); have hR1 := Lib.hid ((hb1.block _ (by omega)).trans hR.out))
            | (refine wpList_build rfl 24 #[] rfl bzs ?_)
            | (refine wpList_store_row rfl 24 (.tmp 2) (.tmp 38) rfl w.heap.size (mk zs0) rfl (congrArg Value.agg bz) 24 (mk zs0) hR1.out (infoSize26 _ rfl) rfl (mk_one _) ?_))
          refine bodyPost_ret (results_row_tmp rfl _ _ w.heap.size 24 (mk zs0) (0, 0) _ rfl (setRow_heap _ _ (mk zs0) _ _ _ hR1.out) Tryd.underlying24 rfl (infoSize26 _ rfl)) rfl ⟨⟨zs0, 5, rfl, HR.out⟩, ?_⟩
          exact below_setRow hB1.out (Nat.le_refl _) _
  · have l272 : ((L.length : Int) != 272) = true := by rw [bne_iff_ne]; omega
    have HR := Lib.hid (res_short hlen)
    have hG := Lib.hid (gr_start w)
    clear hlen
    go_enter Tryd.func4, Tryd.ntmps4
    go_wp2_with (first
      | (refine wpList_build rfl 24 #[] rfl bzs ?_)
      | (refine wpList_store_row rfl 24 (.tmp 4) (.tmp 6) rfl (w.heap.size + 1) (mk zs0) rfl (congrArg Value.agg bz) 24 (mk zs0) (two_second _ _ _) (infoSize26 _ rfl) rfl (mk_one _) ?_)
      | (refine wpList_load_row rfl 24 (.tmp 4) rfl (w.heap.size + 1) rfl 24 (mk zs0) (0, 0) _ hG.out.2.1 Tryd.underlying24 rfl (infoSize26 _ rfl) ?_)
      | (refine wpList_store_row rfl 24 (.tmp 2) (.tmp 10) rfl w.heap.size (mk zs0) rfl rfl 24 (mk zs0) hG.out.1 (infoSize26 _ rfl) rfl (mk_one _) ?_))
    refine bodyPost_ret (results_row_tmp rfl _ _ w.heap.size 24 (mk zs0) (0, 0) _ rfl (setRow_heap _ _ (mk zs0) _ _ _ hG.out.1) Tryd.underlying24 rfl (infoSize26 _ rfl)) rfl ⟨⟨zs0, 5, rfl, HR.out⟩, ?_⟩
    exact below_setRow hG.out.2.2 (Nat.le_refl _) _
end Go.Proofs.YtbkbjiifklhgiaaDoor
