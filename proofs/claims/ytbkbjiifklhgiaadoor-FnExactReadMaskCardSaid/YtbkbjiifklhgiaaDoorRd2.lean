/- ReadMask: the walk of the program's side. Conditions: none. -/
import Derived.Test.YtbkbjiifklhgiaaDoorRd
namespace Go.Proofs.YtbkbjiifklhgiaaDoor
open Go.RowKit
set_option linter.unusedVariables false

theorem Gr.call {w w1 w2 : World} {zs : List Int} (h : Gr w w1 zs) (hb : Below w1.heap.size w1 w2) : Gr w w2 zs :=
  ⟨(hb.block _ (by have := h.lt; omega)).trans h.1, (hb.block _ h.lt).trans h.2.1, h.2.2.trans (hb.mono h.2.2.size)⟩
theorem split_ex (L : List UInt8) (hl : L.length < 4294967281) (m : Int) (w : World) (hm : w.cell? ⟨0, 0, none⟩ = some (.int .i64 m)) :
    Calls Tryd.prog 8 #[.string (bs L), .string ⟨#[10]⟩] w fun e w' => ∃ B, e = .returned (.slice (some ⟨B, 0, none⟩) (lns L).length (lns L).length) ∧ w.heap.size ≤ B ∧ w'.heap[B]? = some (.cells (sv (lns L)) 9 (0, 0)) ∧ Below w.heap.size w w' := by
  refine (split_any L hl m w hm).mono ?_
  rintro e w' ⟨rfl, rfl⟩
  exact ⟨_, rfl, Nat.le_refl _, one_first _ _, below_al (Below.refl _ _) (Nat.le_refl _) _⟩

set_option maxRecDepth 100000 in
set_option maxHeartbeats 6400000 in
theorem iRd (L : List UInt8) (hl : L.length ≤ 1048576) (m : Int) (w : World) (hm : w.cell? ⟨0, 0, none⟩ = some (.int .i64 m)) :
    Calls Tryd.prog 5 #[.string (bs L)] w fun e w' => (∃ zs c, e = .returned (.tuple #[.agg (mk zs), .int .i64 c]) ∧ Res L zs c) ∧ Below w.heap.size w w' := by
  have Z := lit0
  have h0 : 0 < w.heap.size := World.block_lt_of_cell? w ⟨0, 0, none⟩ hm
  have HM0 := Lib.hid (((gr_start w).2.2.cell (p := ⟨0, 0, none⟩) h0).trans hm)
  have KSp := Lib.hid (show ∀ w, w.cell? ⟨0, 0, none⟩ = some (.int .i64 m) → _ from fun w h => split_ex L (by omega) m w h)
  obtain ⟨LL, hLL⟩ : ∃ LL, LL = lns L := ⟨_, rfl⟩
  rw [← hLL] at KSp
  obtain ⟨n, hn⟩ : ∃ n, n = LL.length := ⟨_, rfl⟩
  rw [← hn] at KSp
  have HLL := Lib.hid hLL
  have HN := Lib.hid hn
  have HGood := Lib.hid (show ∀ z0, Good L z0 → n = 17 ∧ ∀ k, k < 16 → LL.getD k [] = rowTo z0 k 16 from fun z0 hg => by rw [hn, hLL]; exact good_line hg)
  have hG0 := Lib.hid (gr_start w)
  clear hl hm hLL hn h0
  go_enter Tryd.func5, Tryd.ntmps5
  go_wp2_with (first
    | (refine wpList_build rfl 24 #[] rfl bzs ?_)
    | (refine wpList_store_row rfl 24 (.tmp 4) (.tmp 8) rfl (w.heap.size + 1) (mk zs0) rfl (congrArg Value.agg bz) 24 (mk zs0) (two_second _ _ _) (infoSize26 _ rfl) rfl (mk_one _) ?_)
    | (go_at_call 8; refine (KSp.out _ HM0.out).mono ?_; rintro e w1 ⟨B, rfl, hB, hbl, hbe⟩; have G1 := Lib.hid (hG0.out.call hbe); have HBl := Lib.hid hbl; have HBg := Lib.hid (Nat.lt_of_lt_of_le hG0.out.lt hB); clear hB hbl hbe))
  go_loopw [12] (fun i wr => ∃ k : Nat, k ≤ n ∧ k ≤ 16 ∧ i = .int .i64 k ∧ ∃ zs, WfM zs ∧ At L zs (16 * k) ∧ Gr w wr zs ∧ wr.heap[B]? = some (.cells (sv LL) 9 (0, 0))) (fun i _ => n + 1 - (intOf i).toNat)
  case atStart => exact ⟨0, by omega, by omega, rfl, zs0, wfM_zero, At.zero L, G1.out, HBl.out⟩
  case round =>
    clear HBl G1
    obtain ⟨k, hk, hk16, rfl, zs, hz, hat, hg, hbl⟩ := hrel
    have HZ := Lib.hid hz
    have HT := Lib.hid hat
    have HBl := Lib.hid hbl
    have z16 := hz.1
    have k0 : (0 : Int) ≤ k := by omega
    clear hz hat hbl
    by_cases hlt : k < n
    · have i1 : (k : Int) < n := by omega
      obtain ⟨ln, hln⟩ : ∃ ln, ln = LL.getD k [] := ⟨_, rfl⟩
      have ca : wr.cell? ⟨B, k, none⟩ = some (.string (bs ln)) := by rw [hln, cell_of_row wr B k _ _ _ HBl.out]; exact sv_get LL k (by rw [← HN.out]; exact hlt)
      have HLn := Lib.hid hln
      clear hln
      by_cases hgo : k < 16
      · have i2 : ¬ (16 : Int) ≤ k := by omega
        have k16 : (k : Int) < 16 := by omega
        obtain ⟨X, hX⟩ : ∃ X : Nat, X = min ln.length 16 := ⟨_, rfl⟩
        have hm1 : (if (16 : Int) < (ln.length : Int) then (16 : Int) else (ln.length : Int)) = (X : Int) := by split <;> omega
        have hm2 : min (ln.length : Int) 16 = (X : Int) := by omega
        have hX1 : X ≤ 16 := by omega
        have hX2 : X ≤ ln.length := by omega
        have HX := Lib.hid (show ∀ z0, Good L z0 → X = 16 from fun z0 hg => by
          have := (HGood.out z0 hg).2 k hgo
          rw [← HLn.out] at this
          rw [hX, this, rowTo_len]; rfl)
        have HG := Lib.hid hg
        clear hX hg
        go_wp2
        go_loopw [22] (fun i wr => ∃ x : Nat, x ≤ X ∧ i = .int .i64 x ∧ ∃ zs, WfM zs ∧ At L zs (16 * k + x) ∧ Gr w wr zs ∧ wr.heap[B]? = some (.cells (sv LL) 9 (0, 0))) (fun i _ => X - (intOf i).toNat)
        case atStart => exact ⟨0, by omega, rfl, zs, HZ.out, HT.out, HG.out, HBl.out⟩
        case round =>
          clear HZ HT HG HBl ca hm1 hm2 z16
          obtain ⟨x, hx, rfl, zs, hz, hat, hg, hbl⟩ := hrel
          have HZ := Lib.hid hz
          have HT := Lib.hid hat
          have HBl := Lib.hid hbl
          have z16 := hz.1
          have x0 : (0 : Int) ≤ x := by omega
          clear hz hat hbl
          by_cases hxt : x < X
          · have j1 : (x : Int) < X := by omega
            have j2 : (x : Int) < ln.length := by omega
            have cm := hg.cell (y := k) (by omega)
            have fm := hg.free k
            have hgh := Lib.hid hg
            obtain ⟨d, hd⟩ : ∃ d : UInt8, d = atb ln x := ⟨_, rfl⟩
            have etn : ((x : Int)).toNat = x := by omega
            have hat : atb ln x = d := hd.symm
            have hat2 : ∀ h : x < (bs ln).size, (bs ln)[x]'h = d := fun h => by
              rw [hd, atb_eq (by omega)]; simp [bs, ByteArray.getElem_eq_getElem_data]
            have HBit := Lib.hid (show ∀ z0, Good L z0 → (d = 35 ↔ hasN z0 (16 * k + x) = true) from fun z0 hz0 => by
              have := (HGood.out z0 hz0).2 k hgo
              rw [← HLn.out] at this
              rw [hd, this, row_at z0 k x (by omega), sign_35]
              unfold hasN
              rw [show (16 * k + x) % 16 = x by omega, show (16 * k + x) / 16 = k by omega])
            clear hg hd
            by_cases h35 : d = 35
            · have t1 : ((d.toNat : Int) == 35) = true := by rw [h35]; rfl
              have HB := Lib.hid (show ∀ z0, Good L z0 → hasN z0 (16 * k + x) = true from fun z0 hz0 => (HBit.out z0 hz0).1 h35)
              clear h35
              go_wp2
              go_region
              go_wp2
              go_roundw
              case rel => exact ⟨x + 1, by omega, by go_num, _, wfM_put HZ.out (16 * k + x), HT.out.put HB.out, (hgh.out.drewN _).any2 (by omega) (by omega), (put_other (by have := HBg.out; omega)).trans HBl.out⟩
              case measure => simp [intOf]; omega
            · have t1 : ((d.toNat : Int) == 35) = false := by
                rw [beq_eq_false_iff_ne]
                exact fun e => h35 (UInt8.toNat_inj.1 (Int.ofNat_inj.1 e))
              have HB := Lib.hid (show ∀ z0, Good L z0 → hasN z0 (16 * k + x) = false from fun z0 hz0 => by
                cases hh : hasN z0 (16 * k + x)
                · rfl
                · exact absurd ((HBit.out z0 hz0).2 hh) h35)
              clear h35
              go_wp2
              go_roundw
              case rel => exact ⟨x + 1, by omega, by go_num, zs, HZ.out, HT.out.skip HB.out, hgh.out, HBl.out⟩
              case measure => simp [intOf]; omega
          · obtain rfl : x = X := by omega
            go_wp2
            go_roundw
            case rel => exact ⟨k + 1, by omega, by omega, by go_num, zs, HZ.out, fun z0 hz0 => by rw [show 16 * (k + 1) = 16 * k + x by have := HX.out z0 hz0; omega]; exact HT.out z0 hz0, hg, HBl.out⟩
            case measure => simp [intOf]; omega
      · have i2 : (16 : Int) ≤ k := by omega
        have HF := Lib.hid (show Fin L zs from fin_all (by rw [show 256 = 16 * k by omega]; exact HT.out))
        clear hgo
        have hR := Lib.hid hg.1
        have hM := Lib.hid hg.2.1
        have hB := hg.2.2
        have hl := hg.lt
        have hzi := infoSize26 zs z16
        have hP : ∀ w, Calls Tryd.prog 9 #[.agg (mk zs)] w fun e w' => e = .returned (.string (bs (textTo zs 16))) ∧ Below w.heap.size w w' := fun w => iText zs z16 w
        obtain ⟨T, hT⟩ : ∃ T, T = textTo zs 16 := ⟨_, rfl⟩
        rw [← hT] at hP
        have HP := Lib.hid hP
        have HT2 := Lib.hid hT
        clear hg hP hT
        by_cases he : T = L
        · subst he
          have HR := Lib.hid (res_yes HZ.out HT2.out.symm)
          go_wp2_with (first
            | (have _t := hb1; clear _t; refine wpList_load_row rfl 24 (.tmp 4) rfl (w.heap.size + 1) rfl 24 (mk zs) (0, 0) _ hM1.out Tryd.underlying24 rfl hzi ?_)
            | (refine wpList_load_row rfl 24 (.tmp 4) rfl (w.heap.size + 1) rfl 24 (mk zs) (0, 0) _ hM.out Tryd.underlying24 rfl hzi ?_)
            | (go_at_call 9; refine (HP.out _).mono ?_; rintro e w1 ⟨rfl, hb1⟩; have hB1 := Lib.hid (hB.trans (hb1.mono hB.size)); have hR1 := Lib.hid ((hb1.block _ (by omega)).trans hR.out); have hM1 := Lib.hid ((hb1.block _ (by omega)).trans hM.out))
            | (refine wpList_store_row rfl 24 (.tmp 2) (.tmp 43) rfl w.heap.size (mk zs) rfl rfl 24 (mk zs0) hR1.out hzi (mk_same _ z16) (mk_one _) ?_))
          refine bodyPost_ret (results_row_tmp rfl _ _ w.heap.size 24 (mk zs) (0, 0) _ rfl (setRow_heap _ _ (mk zs0) _ _ _ hR1.out) Tryd.underlying24 rfl hzi) rfl ⟨⟨zs, 0, rfl, HR.out⟩, ?_⟩
          exact below_setRow hB1.out (Nat.le_refl _) _
        · have HR := Lib.hid (res_no HF.out (fun e => he (HT2.out.trans e)))
          have hne : ((bs T).toList == (bs L).toList) = false := by rw [bs_toList, bs_toList, beq_eq_false_iff_ne]; exact he
          go_wp2_with (first
            | (refine wpList_load_row rfl 24 (.tmp 4) rfl (w.heap.size + 1) rfl 24 (mk zs) (0, 0) _ hM.out Tryd.underlying24 rfl hzi ?_)
            | (go_at_call 9; refine (HP.out _).mono ?_; rintro e w1 ⟨rfl, hb1⟩; have hB1 := Lib.hid (hB.trans (hb1.mono hB.size)); have hR1 := Lib.hid ((hb1.block _ (by omega)).trans hR.out))
            | (refine wpList_build rfl 24 #[] rfl bzs ?_)
            | (refine wpList_store_row rfl 24 (.tmp 2) (.tmp 42) rfl w.heap.size (mk zs0) rfl (congrArg Value.agg bz) 24 (mk zs0) hR1.out (infoSize26 _ rfl) rfl (mk_one _) ?_))
          refine bodyPost_ret (results_row_tmp rfl _ _ w.heap.size 24 (mk zs0) (0, 0) _ rfl (setRow_heap _ _ (mk zs0) _ _ _ hR1.out) Tryd.underlying24 rfl (infoSize26 _ rfl)) rfl ⟨⟨zs0, 5, rfl, HR.out⟩, ?_⟩
          exact below_setRow hB1.out (Nat.le_refl _) _
    · have HF := Lib.hid (show Fin L zs from fun z0 hz0 => by have := (HGood.out z0 hz0).1; omega)
      have i1 : ¬ (k : Int) < n := by omega
      have hR := Lib.hid hg.1
      have hM := Lib.hid hg.2.1
      have hB := hg.2.2
      have hl := hg.lt
      have hzi := infoSize26 zs z16
      have hP : ∀ w, Calls Tryd.prog 9 #[.agg (mk zs)] w fun e w' => e = .returned (.string (bs (textTo zs 16))) ∧ Below w.heap.size w w' := fun w => iText zs z16 w
      obtain ⟨T, hT⟩ : ∃ T, T = textTo zs 16 := ⟨_, rfl⟩
      rw [← hT] at hP
      have HP := Lib.hid hP
      have HT2 := Lib.hid hT
      clear hg hP hT
      by_cases he : T = L
      · subst he
        have HR := Lib.hid (res_yes HZ.out HT2.out.symm)
        go_wp2_with (first
          | (have _t := hb1; clear _t; refine wpList_load_row rfl 24 (.tmp 4) rfl (w.heap.size + 1) rfl 24 (mk zs) (0, 0) _ hM1.out Tryd.underlying24 rfl hzi ?_)
          | (refine wpList_load_row rfl 24 (.tmp 4) rfl (w.heap.size + 1) rfl 24 (mk zs) (0, 0) _ hM.out Tryd.underlying24 rfl hzi ?_)
          | (go_at_call 9; refine (HP.out _).mono ?_; rintro e w1 ⟨rfl, hb1⟩; have hB1 := Lib.hid (hB.trans (hb1.mono hB.size)); have hR1 := Lib.hid ((hb1.block _ (by omega)).trans hR.out); have hM1 := Lib.hid ((hb1.block _ (by omega)).trans hM.out))
          | (refine wpList_store_row rfl 24 (.tmp 2) (.tmp 43) rfl w.heap.size (mk zs) rfl rfl 24 (mk zs0) hR1.out hzi (mk_same _ z16) (mk_one _) ?_))
        refine bodyPost_ret (results_row_tmp rfl _ _ w.heap.size 24 (mk zs) (0, 0) _ rfl (setRow_heap _ _ (mk zs0) _ _ _ hR1.out) Tryd.underlying24 rfl hzi) rfl ⟨⟨zs, 0, rfl, HR.out⟩, ?_⟩
        exact below_setRow hB1.out (Nat.le_refl _) _
      · have HR := Lib.hid (res_no HF.out (fun e => he (HT2.out.trans e)))
        have hne : ((bs T).toList == (bs L).toList) = false := by rw [bs_toList, bs_toList, beq_eq_false_iff_ne]; exact he
        go_wp2_with (first
          | (refine wpList_load_row rfl 24 (.tmp 4) rfl (w.heap.size + 1) rfl 24 (mk zs) (0, 0) _ hM.out Tryd.underlying24 rfl hzi ?_)
          | (go_at_call 9; refine (HP.out _).mono ?_; rintro e w1 ⟨rfl, hb1⟩; have hB1 := Lib.hid (hB.trans (hb1.mono hB.size)); have hR1 := Lib.hid ((hb1.block _ (by omega)).trans hR.out))
          | (refine wpList_build rfl 24 #[] rfl bzs ?_)
          | (refine wpList_store_row rfl 24 (.tmp 2) (.tmp 42) rfl w.heap.size (mk zs0) rfl (congrArg Value.agg bz) 24 (mk zs0) hR1.out (infoSize26 _ rfl) rfl (mk_one _) ?_))
        refine bodyPost_ret (results_row_tmp rfl _ _ w.heap.size 24 (mk zs0) (0, 0) _ rfl (setRow_heap _ _ (mk zs0) _ _ _ hR1.out) Tryd.underlying24 rfl (infoSize26 _ rfl)) rfl ⟨⟨zs0, 5, rfl, HR.out⟩, ?_⟩
        exact below_setRow hB1.out (Nat.le_refl _) _
end Go.Proofs.YtbkbjiifklhgiaaDoor
