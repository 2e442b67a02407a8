/- UnpackMask: the walks of both sides. Conditions: none. -/
import Derived.Test.YtbkbjiifklhgiaaUnr
namespace Go.Proofs.Ytbkbjiifklhgiaa
open Go.RowKit
set_option linter.unusedVariables false

theorem Gr.any {w wr : World} {zs : List Int} (h : Gr w wr zs) (t : Nat) : Gr w (wr.setCell ⟨w.heap.size + 1, t / 16, none⟩ (.int .u16 (bits BinOp.or IntKind.u16 (nth zs (t / 16)) (IntKind.u16.wrap (2 ^ (t % 16)))))) (Go.Proofs.Ytbkbjiifklhgiaa.put zs t) := h.put _ _
theorem Gr.lt {w wr : World} {zs : List Int} (h : Gr w wr zs) : w.heap.size + 1 < wr.heap.size := (Array.getElem?_eq_some_iff.1 h.2.1).1

set_option maxRecDepth 100000 in
set_option maxHeartbeats 6400000 in
theorem sUn (A : Option Addr) (c : Nat) (l : List UInt8) (hn : l.length ≤ 1048576) (w : World) (h : Bys w A l) :
    Calls Try.prog 63 #[.slice A l.length c] w fun e w' => (∃ zs c, e = .returned (.tuple #[.agg (mk zs), .int .i64 c]) ∧ Res l zs c) ∧ Below w.heap.size w w' := by
  have H := Lib.hid h
  have Z := lit0
  obtain ⟨L, hL⟩ : ∃ L, L = l.length := ⟨_, rfl⟩
  have HL := Lib.hid hL
  rw [← hL] at hn ⊢
  clear h hL
  go_enter Try.func63, Try.ntmps63
  go_wp2_with (first | (refine wpList_build rfl 26 #[] rfl bzs ?_) | (refine wpList_store_row rfl 26 (.tmp 4) (.tmp 10) rfl (w.heap.size + 1) (mk zs0) rfl (congrArg Value.agg bz) 26 (mk zs0) (two_second _ _ _) (infoSize26 _ rfl) rfl (mk_one _) ?_))
  go_loopw [5, 6] (fun t i wr => ∃ k : Nat, k ≤ L ∧ i = .int .i64 k ∧ ∃ a : Nat, a ≤ 256 ∧ t = .int .i64 a ∧ ∃ zs, WfM zs ∧ At l zs a (sT l k) ∧ Gr w wr zs) (fun _ i _ => L - (intOf i).toNat)
  case atStart => exact ⟨0, by omega, rfl, 0, by omega, rfl, zs0, wfM_zero, At.zero l, gr_start w⟩
  case round =>
    obtain ⟨k, hk, rfl, a, ha, rfl, zs, hz, hat, hg⟩ := hrel
    by_cases hlt : k < L
    · have i0 : (0 : Int) ≤ k := by omega
      have i1 : (k : Int) < L := by omega
      have HG := Lib.hid hg
      have HZ := Lib.hid hz
      have HT := Lib.hid hat
      clear hg hz hat
      obtain ⟨b, o, rfl, hbl, hc⟩ := H.out (by rw [← HL.out]; omega)
      have hck := hc k (by rw [← HL.out]; omega)
      obtain ⟨d, hd⟩ : ∃ d : Nat, (l.getD k 0).toNat = d ∧ d ≤ 255 := ⟨(l.getD k 0).toNat, rfl, by have := (l.getD k 0).toNat_lt; omega⟩
      rw [show bt l k = (d : Int) from congrArg Int.ofNat hd.1] at hck
      have HC := Lib.hid hck
      have HD := Lib.hid hd.1
      have hd2 := hd.2
      clear hc hck hd
      go_wp2
      go_loopw [5, 7] (fun t i wr => ∃ j : Nat, j ≤ d ∧ i = .int .i64 j ∧ ∃ a : Nat, a ≤ 256 ∧ t = .int .i64 a ∧ ∃ zs, WfM zs ∧ At l zs a (sT l k + j) ∧ Gr w wr zs) (fun _ i _ => d - (intOf i).toNat)
      case atStart => exact ⟨0, by omega, rfl, a, ha, rfl, zs, HZ.out, HT.out, HG.out⟩
      case round =>
        clear HZ HT HG
        obtain ⟨j, hj, rfl, a, ha, rfl, zs, hz, hat, hg⟩ := hrel
        have HZ := Lib.hid hz
        have HT := Lib.hid hat
        have z16 := hz.1
        clear hz hat
        have ca : wr.cell? ⟨b, o + k, none⟩ = some (.int .u8 (d : Int)) := (hg.2.2.cell (p := ⟨b, o + k, none⟩) hbl).trans HC.out
        have wd : IntKind.i64.wrap (d : Int) = d := Go.IntWalk.i64_in _ (by omega)
        by_cases hjd : j < d
        · have j1 : (j : Int) < d := by omega
          by_cases h256 : a = 256
          · have t256 : ((a : Int) == 256) = true := by rw [beq_iff_eq]; omega
            have hR := Lib.hid hg.1
            have hB := Lib.hid hg.2.2
            have HRes := Lib.hid (res_over (l := l) (zs := zs) (k := k) (j := j) (d := d) (by rw [← h256]; exact HT.out) (by rw [← HL.out]; exact hlt) HD.out hjd)
            clear hg
            go_wp2_with (first | (refine wpList_build rfl 26 #[] rfl bzs ?_) | (refine wpList_store_row rfl 26 (.tmp 2) (.tmp 28) rfl w.heap.size (mk zs0) rfl (congrArg Value.agg bz) 26 (mk zs0) hR.out (infoSize26 _ rfl) rfl (mk_one _) ?_))
            refine bodyPost_ret (results_row_tmp rfl _ _ w.heap.size 26 (mk zs0) (0, 0) _ rfl (setRow_heap _ _ (mk zs0) _ _ _ hR.out) Try.underlying26 rfl (infoSize26 _ rfl)) rfl ⟨⟨zs0, 5, rfl, HRes.out⟩, ?_⟩
            exact below_setRow hB.out (Nat.le_refl _) _
          · have ha' : a < 256 := by omega
            have n256 : ((a : Int) == 256) = false := by rw [beq_eq_false_iff_ne]; omega
            have cm := hg.cell (y := a / 16) (by omega)
            have fm := hg.free (a / 16)
            have hgh := Lib.hid hg
            have hbit : ∀ z0, Good l z0 → hasN z0 (sT l k + j) = odd k := fun z0 hz0 => good_in hz0 (by rw [← HL.out]; exact hlt) (by omega) (by rw [sT_succ (by rw [← HL.out]; exact hlt), HD.out]; omega)
            have HBit := Lib.hid hbit
            clear hg hbit
            rcases Nat.mod_two_eq_zero_or_one k with h0 | h1
            · have p0 : ((k : Int) % 2 == 1) = false := by rw [beq_eq_false_iff_ne]; omega
              go_wp2
              go_roundw
              case rel => exact ⟨j + 1, by omega, by go_num, a + 1, by omega, by go_num, zs, HZ.out, HT.out.skip (fun z0 hz0 => by rw [HBit.out z0 hz0]; exact odd0 h0), hgh.out⟩
              case measure => simp [intOf]; omega
            · have p1 : ((k : Int) % 2 == 1) = true := by rw [beq_iff_eq]; omega
              go_wp2
              go_roundw
              case rel => exact ⟨j + 1, by omega, by go_num, a + 1, by omega, by go_num, _, wfM_put HZ.out a, HT.out.put (fun z0 hz0 => by rw [HBit.out z0 hz0]; exact odd1 h1), hgh.out.any a⟩
              case measure => simp [intOf]; omega
        · obtain rfl : j = d := by omega
          go_wp2
          go_roundw
          case rel => exact ⟨k + 1, by omega, by go_num, a, ha, rfl, zs, HZ.out, by rw [sT_succ (by rw [← HL.out]; exact hlt), HD.out]; exact HT.out, hg⟩
          case measure => simp [intOf]; omega
    · obtain rfl : k = L := by omega
      have HG := Lib.hid hg
      have HZ0 := Lib.hid hz
      have HT0 := Lib.hid (show At l zs a (sumU l) by rw [← sT_all, ← HL.out]; exact hat)
      clear hg hz hat
      go_wp2
      go_loopw [5] (fun t wr => ∃ a : Nat, a ≤ 256 ∧ t = .int .i64 a ∧ ∃ zs s, WfM zs ∧ sumU l ≤ s ∧ At l zs a s ∧ Gr w wr zs) (fun t _ => 256 - (intOf t).toNat)
      case atStart => exact ⟨a, ha, rfl, zs, sumU l, HZ0.out, Nat.le_refl _, HT0.out, HG.out⟩
      case round =>
        clear HZ0 HT0 HG
        obtain ⟨a, ha, rfl, zs, s, hz, hs, hat, hg⟩ := hrel
        have HW := Lib.hid hz
        have HT := Lib.hid hat
        have HS := Lib.hid hs
        have hz16 := hz.1
        clear hz hat hs
        have hgh := Lib.hid hg
        by_cases hgo : k % 2 = 1 ∧ a < 256
        · have p1 : ((k : Int) % 2 == 1) = true := by rw [beq_iff_eq]; omega
          have p2 : (a : Int) < 256 := by omega
          have cm := hg.cell (y := a / 16) (by omega)
          have fm := hg.free (a / 16)
          have HBit := Lib.hid (show ∀ z0, Good l z0 → hasN z0 s = true from fun z0 hz0 => by
            have h1 := (HT.out z0 hz0).1
            rw [good_end hz0 HS.out (by omega), ← HL.out]; exact odd1 hgo.1)
          clear hg
          go_wp2
          go_roundw
          case rel => exact ⟨a + 1, by omega, by go_num, _, s + 1, wfM_put HW.out a, by have := HS.out; omega, HT.out.put HBit.out, hgh.out.any a⟩
          case measure => simp [intOf]; omega
        · have hR := Lib.hid hgh.out.1
          have hM := Lib.hid hgh.out.2.1
          have hB := hgh.out.2.2
          have hl := hgh.out.lt
          have HP := Lib.hid (fun w => sPackM zs hz16 w)
          have hzi := infoSize26 zs hz16
          have HF := Lib.hid (show Fin l zs from by
            rcases Nat.mod_two_eq_zero_or_one k with h0 | h1
            · exact fin_even HT.out HS.out ha (by rw [← HL.out]; exact h0)
            · have e : a = 256 := by omega
              have h2 := HT.out
              rw [e] at h2
              exact fin_all h2)
          clear hg
          rcases Nat.mod_two_eq_zero_or_one k with h0 | h1
          · have p0 : ((k : Int) % 2 == 1) = false := by rw [beq_eq_false_iff_ne]; omega
            clear hgo
            by_cases hlen : (packL zs).length = k
            · have HLn := Lib.hid hlen
              rcases first_no (p := fun j => bt (packL zs) j == bt l j) k with hall | ⟨K, hK, hlo, hbad⟩
              · have HAll := Lib.hid (show ∀ j, j < k → bt (packL zs) j = bt l j from fun j hj => by simpa using hall j hj)
                have HEq := Lib.hid (show packL zs = l from bt_same (hlen.trans HL.out) (fun j hj => HAll.out j (by omega)))
                have lnn : ¬ (((packL zs).length : Int) != (k : Int)) = true := by rw [hlen]; simp
                rw [hlen] at HP
                clear hall hlen
                go_wp2_with (first
                  | (refine wpList_load_row rfl 26 (.tmp 4) rfl (w.heap.size + 1) rfl 26 (mk zs) (0, 0) _ hM.out Try.underlying26 rfl hzi ?_)
                  | (go_at_call 42; refine (HP.out _).mono ?_; rintro e w1 ⟨gp, cp, rfl, hgp, hmp, hb1⟩; have hB1 := Lib.hid (hB.trans (hb1.mono hB.size)); have hR1 := Lib.hid ((hb1.block _ (by omega)).trans hR.out); have hM1 := Lib.hid ((hb1.block _ (by omega)).trans hM.out); have hmP := Lib.hid hmp; have hbc := Lib.hid (hB.size); clear hmp hb1))
                go_loopw [9] (fun i wr => ∃ q : Nat, q ≤ k ∧ i = .int .i64 q ∧ ∃ d, wr = w1.drewN d) (fun i _ => k - (intOf i).toNat)
                case atStart => exact ⟨0, by omega, rfl, 0, rfl⟩
                case round =>
                  obtain ⟨q, hq, rfl, d, rfl⟩ := hrel
                  by_cases hlt : q < k
                  · have i0 : (0 : Int) ≤ q := by omega
                    have i1 : (q : Int) < k := by omega
                    obtain ⟨b2, o2, rfl, hl2, hc2⟩ := H.out (by rw [← HL.out]; omega)
                    obtain ⟨x, hx⟩ : ∃ x, x = bt (packL zs) q := ⟨_, rfl⟩
                    obtain ⟨y, hy⟩ : ∃ y, y = bt l q := ⟨_, rfl⟩
                    have ca : w1.cell? ⟨gp, q, none⟩ = some (.int .u8 x) := by rw [hx]; exact hmP.out.cell (by omega)
                    have cb : w1.cell? ⟨b2, o2 + q, none⟩ = some (.int .u8 y) := by rw [hy]; exact (hB1.out.cell (p := ⟨b2, o2 + q, none⟩) hl2).trans (hc2 q (by rw [← HL.out]; omega))
                    obtain rfl : x = y := by rw [hx, hy]; exact HAll.out q hlt
                    clear hc2 hx hy
                    go_wp2
                    go_quiet (fail)
                    go_wp2
                    go_roundw
                    case rel => exact ⟨q + 1, by omega, by go_num, _, rfl⟩
                    case measure => simp [intOf]; omega
                  · obtain rfl : q = k := by omega
                    go_wp2_with (first
                      | (refine wpList_load_row rfl 26 (.tmp 4) rfl (w.heap.size + 1) rfl 26 (mk zs) (0, 0) _ hM1.out Try.underlying26 rfl hzi ?_)
                      | (refine wpList_store_row rfl 26 (.tmp 2) (.tmp 88) rfl w.heap.size (mk zs) rfl rfl 26 (mk zs0) hR1.out hzi (mk_same _ hz16) (mk_one _) ?_))
                    refine bodyPost_ret (results_row_tmp rfl _ _ w.heap.size 26 (mk zs) (0, 0) _ rfl (setRow_heap _ _ (mk zs0) _ _ _ hR1.out) Try.underlying26 rfl hzi) rfl ⟨⟨zs, 0, rfl, res_yes HW.out HEq.out⟩, ?_⟩
                    exact below_setRow (below_drewN hB1.out _) (Nat.le_refl _) _
              · have HLo := Lib.hid (show ∀ j, j < K → bt (packL zs) j = bt l j from fun j hj => by simpa using hlo j hj)
                have HBd := Lib.hid (show bt (packL zs) K ≠ bt l K by simpa using hbad)
                have HNE := Lib.hid (show packL zs ≠ l from fun e => HBd.out (by rw [e]))
                rw [hlen] at HP
                clear hlo hbad hlen
                go_wp2_with (first
                  | (refine wpList_load_row rfl 26 (.tmp 4) rfl (w.heap.size + 1) rfl 26 (mk zs) (0, 0) _ hM.out Try.underlying26 rfl hzi ?_)
                  | (go_at_call 42; refine (HP.out _).mono ?_; rintro e w1 ⟨gp, cp, rfl, hgp, hmp, hb1⟩; have hB1 := Lib.hid (hB.trans (hb1.mono hB.size)); have hR1 := Lib.hid ((hb1.block _ (by omega)).trans hR.out); have hM1 := Lib.hid ((hb1.block _ (by omega)).trans hM.out); have hmP := Lib.hid hmp; have hbc := Lib.hid (hB.size); clear hmp hb1))
                go_loopw [9] (fun i wr => ∃ q : Nat, q ≤ K ∧ i = .int .i64 q ∧ ∃ d, wr = w1.drewN d) (fun i _ => K - (intOf i).toNat)
                case atStart => exact ⟨0, by omega, rfl, 0, rfl⟩
                case round =>
                  obtain ⟨q, hq, rfl, d, rfl⟩ := hrel
                  by_cases hlt : q < K
                  · have i0 : (0 : Int) ≤ q := by omega
                    have i1 : (q : Int) < k := by omega
                    obtain ⟨b2, o2, rfl, hl2, hc2⟩ := H.out (by rw [← HL.out]; omega)
                    obtain ⟨x, hx⟩ : ∃ x, x = bt (packL zs) q := ⟨_, rfl⟩
                    obtain ⟨y, hy⟩ : ∃ y, y = bt l q := ⟨_, rfl⟩
                    have ca : w1.cell? ⟨gp, q, none⟩ = some (.int .u8 x) := by rw [hx]; exact hmP.out.cell (by omega)
                    have cb : w1.cell? ⟨b2, o2 + q, none⟩ = some (.int .u8 y) := by rw [hy]; exact (hB1.out.cell (p := ⟨b2, o2 + q, none⟩) hl2).trans (hc2 q (by rw [← HL.out]; omega))
                    obtain rfl : x = y := by rw [hx, hy]; exact HLo.out q hlt
                    clear hc2 hx hy
                    go_wp2
                    go_quiet (fail)
                    go_wp2
                    go_roundw
                    case rel => exact ⟨q + 1, by omega, by go_num, _, rfl⟩
                    case measure => simp [intOf]; omega
                  · obtain rfl : q = K := by omega
                    have i0 : (0 : Int) ≤ q := by omega
                    have i1 : (q : Int) < k := by omega
                    obtain ⟨b2, o2, rfl, hl2, hc2⟩ := H.out (by rw [← HL.out]; omega)
                    obtain ⟨x, hx⟩ : ∃ x, x = bt (packL zs) q := ⟨_, rfl⟩
                    obtain ⟨y, hy⟩ : ∃ y, y = bt l q := ⟨_, rfl⟩
                    have ca : w1.cell? ⟨gp, q, none⟩ = some (.int .u8 x) := by rw [hx]; exact hmP.out.cell (by omega)
                    have cb : w1.cell? ⟨b2, o2 + q, none⟩ = some (.int .u8 y) := by rw [hy]; exact (hB1.out.cell (p := ⟨b2, o2 + q, none⟩) hl2).trans (hc2 q (by rw [← HL.out]; omega))
                    have dne : (x != y) = true := by rw [bne_iff_ne, hx, hy]; exact HBd.out
                    clear hc2 hx hy
                    go_wp2
                    go_quiet (fail)
                    go_wp2_with (first
                      | (refine wpList_build rfl 26 #[] rfl bzs ?_)
                      | (refine wpList_store_row rfl 26 (.tmp 2) (.tmp 87) rfl w.heap.size (mk zs0) rfl (congrArg Value.agg bz) 26 (mk zs0) hR1.out (infoSize26 _ rfl) rfl (mk_one _) ?_))
                    refine bodyPost_ret (results_row_tmp rfl _ _ w.heap.size 26 (mk zs0) (0, 0) _ rfl (setRow_heap _ _ (mk zs0) _ _ _ hR1.out) Try.underlying26 rfl (infoSize26 _ rfl)) rfl ⟨⟨zs0, 5, rfl, res_no HF.out HNE.out⟩, ?_⟩
                    exact below_setRow (below_drewN hB1.out _) (Nat.le_refl _) _
            · have dl : (((packL zs).length : Int) == (k : Int)) = false := by rw [beq_eq_false_iff_ne]; omega
              have HNE := Lib.hid (show packL zs ≠ l from fun e => hlen (by rw [e, HL.out]))
              go_wp2_with (first
                | (refine wpList_load_row rfl 26 (.tmp 4) rfl (w.heap.size + 1) rfl 26 (mk zs) (0, 0) _ hM.out Try.underlying26 rfl hzi ?_)
                | (go_at_call 42; refine (HP.out _).mono ?_; rintro e w1 ⟨gp, cp, rfl, hgp, hmp, hb1⟩; have hB1 := Lib.hid (hB.trans (hb1.mono hB.size)); have hR1 := Lib.hid ((hb1.block _ (by omega)).trans hR.out); have hM1 := Lib.hid ((hb1.block _ (by omega)).trans hM.out); have hmP := Lib.hid hmp; have hbc := Lib.hid (hB.size); clear hmp hb1)
                | (refine wpList_build rfl 26 #[] rfl bzs ?_)
                | (refine wpList_store_row rfl 26 (.tmp 2) (.tmp 71) rfl w.heap.size (mk zs0) rfl (congrArg Value.agg bz) 26 (mk zs0) hR1.out (infoSize26 _ rfl) rfl (mk_one _) ?_))
              refine bodyPost_ret (results_row_tmp rfl _ _ w.heap.size 26 (mk zs0) (0, 0) _ rfl (setRow_heap _ _ (mk zs0) _ _ _ hR1.out) Try.underlying26 rfl (infoSize26 _ rfl)) rfl ⟨⟨zs0, 5, rfl, res_no HF.out HNE.out⟩, ?_⟩
              exact below_setRow hB1.out (Nat.le_refl _) _
          · have p1 : ((k : Int) % 2 == 1) = true := by rw [beq_iff_eq]; omega
            have p2 : ¬ (a : Int) < 256 := by omega
            clear hgo
            by_cases hlen : (packL zs).length = k
            · have HLn := Lib.hid hlen
              rcases first_no (p := fun j => bt (packL zs) j == bt l j) k with hall | ⟨K, hK, hlo, hbad⟩
              · have HAll := Lib.hid (show ∀ j, j < k → bt (packL zs) j = bt l j from fun j hj => by simpa using hall j hj)
                have HEq := Lib.hid (show packL zs = l from bt_same (hlen.trans HL.out) (fun j hj => HAll.out j (by omega)))
                have lnn : ¬ (((packL zs).length : Int) != (k : Int)) = true := by rw [hlen]; simp
                rw [hlen] at HP
                clear hall hlen
                go_wp2_with (first
                  | (refine wpList_load_row rfl 26 (.tmp 4) rfl (w.heap.size + 1) rfl 26 (mk zs) (0, 0) _ hM.out Try.underlying26 rfl hzi ?_)
                  | (go_at_call 42; refine (HP.out _).mono ?_; rintro e w1 ⟨gp, cp, rfl, hgp, hmp, hb1⟩; have hB1 := Lib.hid (hB.trans (hb1.mono hB.size)); have hR1 := Lib.hid ((hb1.block _ (by omega)).trans hR.out); have hM1 := Lib.hid ((hb1.block _ (by omega)).trans hM.out); have hmP := Lib.hid hmp; have hbc := Lib.hid (hB.size); clear hmp hb1))
                go_loopw [9] (fun i wr => ∃ q : Nat, q ≤ k ∧ i = .int .i64 q ∧ ∃ d, wr = w1.drewN d) (fun i _ => k - (intOf i).toNat)
                case atStart => exact ⟨0, by omega, rfl, 0, rfl⟩
                case round =>
                  obtain ⟨q, hq, rfl, d, rfl⟩ := hrel
                  by_cases hlt : q < k
                  · have i0 : (0 : Int) ≤ q := by omega
                    have i1 : (q : Int) < k := by omega
                    obtain ⟨b2, o2, rfl, hl2, hc2⟩ := H.out (by rw [← HL.out]; omega)
                    obtain ⟨x, hx⟩ : ∃ x, x = bt (packL zs) q := ⟨_, rfl⟩
                    obtain ⟨y, hy⟩ : ∃ y, y = bt l q := ⟨_, rfl⟩
                    have ca : w1.cell? ⟨gp, q, none⟩ = some (.int .u8 x) := by rw [hx]; exact hmP.out.cell (by omega)
                    have cb : w1.cell? ⟨b2, o2 + q, none⟩ = some (.int .u8 y) := by rw [hy]; exact (hB1.out.cell (p := ⟨b2, o2 + q, none⟩) hl2).trans (hc2 q (by rw [← HL.out]; omega))
                    obtain rfl : x = y := by rw [hx, hy]; exact HAll.out q hlt
                    clear hc2 hx hy
                    go_wp2
                    go_quiet (fail)
                    go_wp2
                    go_roundw
                    case rel => exact ⟨q + 1, by omega, by go_num, _, rfl⟩
                    case measure => simp [intOf]; omega
                  · obtain rfl : q = k := by omega
                    go_wp2_with (first
                      | (refine wpList_load_row rfl 26 (.tmp 4) rfl (w.heap.size + 1) rfl 26 (mk zs) (0, 0) _ hM1.out Try.underlying26 rfl hzi ?_)
                      | (refine wpList_store_row rfl 26 (.tmp 2) (.tmp 88) rfl w.heap.size (mk zs) rfl rfl 26 (mk zs0) hR1.out hzi (mk_same _ hz16) (mk_one _) ?_))
                    refine bodyPost_ret (results_row_tmp rfl _ _ w.heap.size 26 (mk zs) (0, 0) _ rfl (setRow_heap _ _ (mk zs0) _ _ _ hR1.out) Try.underlying26 rfl hzi) rfl ⟨⟨zs, 0, rfl, res_yes HW.out HEq.out⟩, ?_⟩
                    exact below_setRow (below_drewN hB1.out _) (Nat.le_refl _) _
              · have HLo := Lib.hid (show ∀ j, j < K → bt (packL zs) j = bt l j from fun j hj => by simpa using hlo j hj)
                have HBd := Lib.hid (show bt (packL zs) K ≠ bt l K by simpa using hbad)
                have HNE := Lib.hid (show packL zs ≠ l from fun e => HBd.out (by rw [e]))
                rw [hlen] at HP
                clear hlo hbad hlen
                go_wp2_with (first
                  | (refine wpList_load_row rfl 26 (.tmp 4) rfl (w.heap.size + 1) rfl 26 (mk zs) (0, 0) _ hM.out Try.underlying26 rfl hzi ?_)
                  | (go_at_call 42; refine (HP.out _).mono ?_; rintro e w1 ⟨gp, cp, rfl, hgp, hmp, hb1⟩; have hB1 := Lib.hid (hB.trans (hb1.mono hB.size)); have hR1 := Lib.hid ((hb1.block _ (by omega)).trans hR.out); have hM1 := Lib.hid ((hb1.block _ (by omega)).trans hM.out); have hmP := Lib.hid hmp; have hbc := Lib.hid (hB.size); clear hmp hb1))
                go_loopw [9] (fun i wr => ∃ q : Nat, q ≤ K ∧ i = .int .i64 q ∧ ∃ d, wr = w1.drewN d) (fun i _ => K - (intOf i).toNat)
                case atStart => exact ⟨0, by omega, rfl, 0, rfl⟩
                case round =>
                  obtain ⟨q, hq, rfl, d, rfl⟩ := hrel
                  by_cases hlt : q < K
                  · have i0 : (0 : Int) ≤ q := by omega
                    have i1 : (q : Int) < k := by omega
                    obtain ⟨b2, o2, rfl, hl2, hc2⟩ := H.out (by rw [← HL.out]; omega)
                    obtain ⟨x, hx⟩ : ∃ x, x = bt (packL zs) q := ⟨_, rfl⟩
                    obtain ⟨y, hy⟩ : ∃ y, y = bt l q := ⟨_, rfl⟩
                    have ca : w1.cell? ⟨gp, q, none⟩ = some (.int .u8 x) := by rw [hx]; exact hmP.out.cell (by omega)
                    have cb : w1.cell? ⟨b2, o2 + q, none⟩ = some (.int .u8 y) := by rw [hy]; exact (hB1.out.cell (p := ⟨b2, o2 + q, none⟩) hl2).trans (hc2 q (by rw [← HL.out]; omega))
                    obtain rfl : x = y := by rw [hx, hy]; exact HLo.out q hlt
                    clear hc2 hx hy
                    go_wp2
                    go_quiet (fail)
                    go_wp2
                    go_roundw
                    case rel => exact ⟨q + 1, by omega, by go_num, _, rfl⟩
                    case measure => simp [intOf]; omega
                  · obtain rfl : q = K := by omega
                    have i0 : (0 : Int) ≤ q := by omega
                    have i1 : (q : Int) < k := by omega
                    obtain ⟨b2, o2, rfl, hl2, hc2⟩ := H.out (by rw [← HL.out]; omega)
                    obtain ⟨x, hx⟩ : ∃ x, x = bt (packL zs) q := ⟨_, rfl⟩
                    obtain ⟨y, hy⟩ : ∃ y, y = bt l q := ⟨_, rfl⟩
                    have ca : w1.cell? ⟨gp, q, none⟩ = some (.int .u8 x) := by rw [hx]; exact hmP.out.cell (by omega)
                    have cb : w1.cell? ⟨b2, o2 + q, none⟩ = some (.int .u8 y) := by rw [hy]; exact (hB1.out.cell (p := ⟨b2, o2 + q, none⟩) hl2).trans (hc2 q (by rw [← HL.out]; omega))
                    have dne : (x != y) = true := by rw [bne_iff_ne, hx, hy]; exact HBd.out
                    clear hc2 hx hy
                    go_wp2
                    go_quiet (fail)
                    go_wp2_with (first
                      | (refine wpList_build rfl 26 #[] rfl bzs ?_)
                      | (refine wpList_store_row rfl 26 (.tmp 2) (.tmp 87) rfl w.heap.size (mk zs0) rfl (congrArg Value.agg bz) 26 (mk zs0) hR1.out (infoSize26 _ rfl) rfl (mk_one _) ?_))
                    refine bodyPost_ret (results_row_tmp rfl _ _ w.heap.size 26 (mk zs0) (0, 0) _ rfl (setRow_heap _ _ (mk zs0) _ _ _ hR1.out) Try.underlying26 rfl (infoSize26 _ rfl)) rfl ⟨⟨zs0, 5, rfl, res_no HF.out HNE.out⟩, ?_⟩
                    exact below_setRow (below_drewN hB1.out _) (Nat.le_refl _) _
            · have dl : (((packL zs).length : Int) == (k : Int)) = false := by rw [beq_eq_false_iff_ne]; omega
              have HNE := Lib.hid (show packL zs ≠ l from fun e => hlen (by rw [e, HL.out]))
              go_wp2_with (first
                | (refine wpList_load_row rfl 26 (.tmp 4) rfl (w.heap.size + 1) rfl 26 (mk zs) (0, 0) _ hM.out Try.underlying26 rfl hzi ?_)
                | (go_at_call 42; refine (HP.out _).mono ?_; rintro e w1 ⟨gp, cp, rfl, hgp, hmp, hb1⟩; have hB1 := Lib.hid (hB.trans (hb1.mono hB.size)); have hR1 := Lib.hid ((hb1.block _ (by omega)).trans hR.out); have hM1 := Lib.hid ((hb1.block _ (by omega)).trans hM.out); have hmP := Lib.hid hmp; have hbc := Lib.hid (hB.size); clear hmp hb1)
                | (refine wpList_build rfl 26 #[] rfl bzs ?_)
                | (refine wpList_store_row rfl 26 (.tmp 2) (.tmp 71) rfl w.heap.size (mk zs0) rfl (congrArg Value.agg bz) 26 (mk zs0) hR1.out (infoSize26 _ rfl) rfl (mk_one _) ?_))
              refine bodyPost_ret (results_row_tmp rfl _ _ w.heap.size 26 (mk zs0) (0, 0) _ rfl (setRow_heap _ _ (mk zs0) _ _ _ hR1.out) Try.underlying26 rfl (infoSize26 _ rfl)) rfl ⟨⟨zs0, 5, rfl, res_no HF.out HNE.out⟩, ?_⟩
              exact below_setRow hB1.out (Nat.le_refl _) _

/-- The program's round: before byte i. -/
def Ri (l : List UInt8) (zs : List Int) (a i : Nat) : Prop := (i ≤ l.length → At l zs a (sT l i)) ∧ (l.length < i → Fin l zs)
theorem ri_zero (l : List UInt8) : Ri l zs0 0 0 := ⟨fun _ => At.zero l, fun h => by omega⟩
theorem ri_byte {l : List UInt8} {zs' : List Int} {a E i d : Nat} (hi : i < l.length) (hd : (l.getD i 0).toNat = d) (hE : E = min 256 (a + d)) (hl : a ≤ 256) (h : At l zs' E (sT l i + (E - a))) : Ri l zs' E (i + 1) := by
  refine ⟨fun _ z0 hg => ?_, fun h => by omega⟩
  obtain ⟨h1, h2⟩ := h z0 hg
  refine ⟨?_, h2⟩
  have h3 := good_sum hg
  have h4 := sT_succ hi
  have h5 := sT_le l (i + 1)
  omega
theorem ri_last {l : List UInt8} {zs' : List Int} {s : Nat} (h : At l zs' 256 s) : Ri l zs' 256 (l.length + 1) := ⟨fun h => by omega, fun _ => fin_all h⟩
theorem ri_end {l : List UInt8} {zs : List Int} {a M : Nat} (hM : M = min l.length 256 + 1) (h : Ri l zs a M) : Fin l zs := fun z0 hg => by
  have h1 : l.length ≤ 256 := by
    have := (pk_lim z0 256).2
    rw [← hg.2]; exact this
  exact h.2 (by omega) z0 hg

set_option maxRecDepth 100000 in
set_option maxHeartbeats 6400000 in
theorem iUn (A : Option Addr) (c : Nat) (l : List UInt8) (hn : l.length ≤ 1048576) (w : World) (h : Bys w A l) :
    Calls Try.prog 65 #[.slice A l.length c] w fun e w' => (∃ zs c, e = .returned (.tuple #[.agg (mk zs), .int .i64 c]) ∧ Res l zs c) ∧ Below w.heap.size w w' := by
  have H := Lib.hid h
  have Z := lit0
  obtain ⟨L, hL⟩ : ∃ L, L = l.length := ⟨_, rfl⟩
  have HL := Lib.hid hL
  rw [← hL] at hn ⊢
  obtain ⟨M, hM⟩ : ∃ M : Nat, M = min L 256 := ⟨_, rfl⟩
  have hm1 : (if (256 : Int) < (L : Int) then (256 : Int) else (L : Int)) = (M : Int) := by split <;> omega
  have hMl : M ≤ 256 := by omega
  have HM := Lib.hid hM
  clear h hL hM
  go_enter Try.func65, Try.ntmps65
  go_wp2_with (first | (refine wpList_build rfl 26 #[] rfl bzs ?_) | (refine wpList_store_row rfl 26 (.tmp 4) (.tmp 9) rfl (w.heap.size + 1) (mk zs0) rfl (congrArg Value.agg bz) 26 (mk zs0) (two_second _ _ _) (infoSize26 _ rfl) rfl (mk_one _) ?_))
  go_loopw [5, 6, 14] (fun t on i wr => ∃ k : Nat, k ≤ M + 1 ∧ i = .int .i64 k ∧ on = .bool (odd k) ∧ ∃ a : Nat, a ≤ 256 ∧ t = .int .i64 a ∧ ∃ zs, WfM zs ∧ Ri l zs a k ∧ Gr w wr zs) (fun _ _ i _ => M + 1 - (intOf i).toNat)
  case atStart => exact ⟨0, by omega, rfl, rfl, 0, by omega, rfl, zs0, wfM_zero, ri_zero l, gr_start w⟩
  case round =>
    obtain ⟨k, hk, rfl, rfl, a, ha, rfl, zs, hz, hri, hg⟩ := hrel
    clear hm1
    by_cases hlt : k < M + 1
    · have i1 : (k : Int) < (M : Int) + 1 := by omega
      have HG := Lib.hid hg
      have HZ := Lib.hid hz
      have HT := Lib.hid hri
      clear hg hz hri
      have hodd := odd_succ k
      obtain ⟨ob, hob⟩ : ∃ ob, odd k = ob := ⟨_, rfl⟩
      rw [hob] at hodd ⊢
      have HO := Lib.hid hodd
      have HOb := Lib.hid hob
      clear hodd hob
      by_cases hkL : k < L
      · have i0 : (0 : Int) ≤ k := by omega
        have i2 : (k : Int) < L := by omega
        obtain ⟨b, o, rfl, hbl, hc⟩ := H.out (by rw [← HL.out]; omega)
        have hck := hc k (by rw [← HL.out]; omega)
        obtain ⟨d, hd⟩ : ∃ d : Nat, (l.getD k 0).toNat = d ∧ d ≤ 255 := ⟨(l.getD k 0).toNat, rfl, by have := (l.getD k 0).toNat_lt; omega⟩
        rw [show bt l k = (d : Int) from congrArg Int.ofNat hd.1] at hck
        have ca := (HG.out.2.2.cell (p := ⟨b, o + k, none⟩) hbl).trans hck
        have HD := Lib.hid hd.1
        have hd2 := hd.2
        obtain ⟨E, hE⟩ : ∃ E : Nat, E = min 256 (a + d) := ⟨_, rfl⟩
        have hm2 : (if (a : Int) + (d : Int) < (256 : Int) then (a : Int) + (d : Int) else (256 : Int)) = (E : Int) := by split <;> omega
        have wd : IntKind.i64.wrap (d : Int) = d := Go.IntWalk.i64_in _ (by omega)
        have hEl : E ≤ 256 ∧ a ≤ E := by omega
        have HE := Lib.hid hE
        have hat : At l zs a (sT l k) := HT.out.1 (by rw [← HL.out]; omega)
        have HA := Lib.hid hat
        clear hc hck hd hE hat HT
        go_wp2
        go_loopw [5] (fun t wr => ∃ x : Nat, a ≤ x ∧ x ≤ E ∧ t = .int .i64 x ∧ ∃ zs, WfM zs ∧ At l zs x (sT l k + (x - a)) ∧ Gr w wr zs) (fun t _ => E - (intOf t).toNat)
        case atStart => exact ⟨a, Nat.le_refl _, hEl.2, rfl, zs, HZ.out, by rw [Nat.sub_self, Nat.add_zero]; exact HA.out, HG.out⟩
        case round =>
          clear HZ HG ca hm2
          obtain ⟨x, hax, hxE, rfl, zs, hz, hat, hg⟩ := hrel
          have HZ := Lib.hid hz
          have HT := Lib.hid hat
          have z16 := hz.1
          clear hz hat
          by_cases hjd : x < E
          · have j1 : (x : Int) < E := by omega
            have cm := hg.cell (y := x / 16) (by omega)
            have fm := hg.free (x / 16)
            have hgh := Lib.hid hg
            have HBit := Lib.hid (show ∀ z0, Good l z0 → hasN z0 (sT l k + (x - a)) = odd k from fun z0 hz0 => by
              have h1 := (HT.out z0 hz0).1
              have h2 := HE.out
              exact good_in hz0 (by rw [← HL.out]; exact hkL) (by omega) (by rw [sT_succ (by rw [← HL.out]; exact hkL), HD.out]; omega))
            clear hg
            cases ob
            · go_wp2
              go_roundw
              case rel => exact ⟨x + 1, by omega, by omega, by go_num, zs, HZ.out, by rw [show x + 1 - a = (x - a) + 1 by omega]; exact HT.out.skip (fun z0 hz0 => by rw [HBit.out z0 hz0]; exact HOb.out), hgh.out⟩
              case measure => simp [intOf]; omega
            · go_wp2
              go_region
              go_wp2
              go_roundw
              case rel => exact ⟨x + 1, by omega, by omega, by go_num, _, wfM_put HZ.out x, by rw [show x + 1 - a = (x - a) + 1 by omega]; exact HT.out.put (fun z0 hz0 => by rw [HBit.out z0 hz0]; exact HOb.out), (hgh.out.drewN _).any x⟩
              case measure => simp [intOf]; omega
          · obtain rfl : x = E := by omega
            go_wp2
            go_roundw
            case rel => exact ⟨k + 1, by omega, by go_num, by rw [HO.out], x, by omega, rfl, zs, HZ.out, ri_byte (by rw [← HL.out]; exact hkL) HD.out HE.out ha HT.out, hg⟩
            case measure => simp [intOf]; omega
      · have hkE : k = L := by have := HM.out; omega
        have i2 : ¬ (k : Int) < L := by omega
        have hat : At l zs a (sumU l) := by rw [← sT_all, ← HL.out, ← hkE]; exact HT.out.1 (by rw [← HL.out]; omega)
        have HA := Lib.hid hat
        have HK := Lib.hid hkE
        clear hat HT hkE
        go_wp2
        go_loopw [5] (fun t wr => ∃ x : Nat, a ≤ x ∧ x ≤ 256 ∧ t = .int .i64 x ∧ ∃ zs, WfM zs ∧ At l zs x (sumU l + (x - a)) ∧ Gr w wr zs) (fun t _ => 256 - (intOf t).toNat)
        case atStart => exact ⟨a, Nat.le_refl _, ha, rfl, zs, HZ.out, by rw [Nat.sub_self, Nat.add_zero]; exact HA.out, HG.out⟩
        case round =>
          clear HZ HG
          obtain ⟨x, hax, hxE, rfl, zs, hz, hat, hg⟩ := hrel
          have HZ := Lib.hid hz
          have HT := Lib.hid hat
          have z16 := hz.1
          clear hz hat
          by_cases hjd : x < 256
          · have j1 : (x : Int) < 256 := by omega
            have cm := hg.cell (y := x / 16) (by omega)
            have fm := hg.free (x / 16)
            have hgh := Lib.hid hg
            have HBit := Lib.hid (show ∀ z0, Good l z0 → hasN z0 (sumU l + (x - a)) = odd k from fun z0 hz0 => by
              have h1 := (HT.out z0 hz0).1
              rw [good_end hz0 (by omega) (by omega), ← HL.out, HK.out])
            clear hg
            cases ob
            · go_wp2
              go_roundw
              case rel => exact ⟨x + 1, by omega, by omega, by go_num, zs, HZ.out, by rw [show x + 1 - a = (x - a) + 1 by omega]; exact HT.out.skip (fun z0 hz0 => by rw [HBit.out z0 hz0]; exact HOb.out), hgh.out⟩
              case measure => simp [intOf]; omega
            · go_wp2
              go_region
              go_wp2
              go_roundw
              case rel => exact ⟨x + 1, by omega, by omega, by go_num, _, wfM_put HZ.out x, by rw [show x + 1 - a = (x - a) + 1 by omega]; exact HT.out.put (fun z0 hz0 => by rw [HBit.out z0 hz0]; exact HOb.out), (hgh.out.drewN _).any x⟩
              case measure => simp [intOf]; omega
          · obtain rfl : x = 256 := by omega
            go_wp2
            go_roundw
            case rel => exact ⟨k + 1, by omega, by go_num, by rw [HO.out], 256, by omega, rfl, zs, HZ.out, by rw [HK.out, HL.out]; exact ri_last HT.out, hg⟩
            case measure => simp [intOf]; omega
    · obtain rfl : k = M + 1 := by omega
      have hz16 := hz.1
      have HW := Lib.hid hz
      have HF := Lib.hid (show Fin l zs from ri_end (by rw [← HL.out, ← HM.out]) hri)
      have hR := Lib.hid hg.1
      have hM := Lib.hid hg.2.1
      have hB := hg.2.2
      have HN := Lib.hid hn
      have hl := hg.lt
      have HP := Lib.hid (fun w => iPackM zs hz16 w)
      have hzi := infoSize26 zs hz16
      have HQ := Lib.hid (show (packL zs).length ≤ 1048576 by have := (pk_lim zs 256).2; unfold packL; omega)
      have hs : ∀ A1 c1 W, Bys W A1 (packL zs) → Bys W A l → Calls Try.prog 92 #[.slice A1 (packL zs).length c1, .slice A L c] W fun e w' => e = .returned (.bool (packL zs == l)) ∧ Below W.heap.size W w' := by
        rw [HL.out]
        exact fun A1 c1 W h1 h2 => eqSb A1 A c1 c (packL zs) l HQ.out W h1 h2
      clear hg hz hri
      cases hq : (packL zs == l)
      · have HNE := Lib.hid (show packL zs ≠ l by simpa using hq)
        rw [hq] at hs
        have HS := Lib.hid hs
        clear hq hs
        go_wp2_with (first
          | (refine wpList_load_row rfl 26 (.tmp 4) rfl (w.heap.size + 1) rfl 26 (mk zs) (0, 0) _ hM.out Try.underlying26 rfl hzi ?_)
          | (go_at_call 43; refine (HP.out _).mono ?_; rintro e w1 ⟨gp, cp, rfl, hgp, hmp, hb1⟩; have hB1 := Lib.hid (hB.trans (hb1.mono hB.size)); have hR1 := Lib.hid ((hb1.block _ (by omega)).trans hR.out); have hM1 := Lib.hid ((hb1.block _ (by omega)).trans hM.out); have hmP := Lib.hid hmp; have bA := Lib.hid ((H.out.call hB1.out)); clear hmp hb1)
          | (go_at_call 92; refine (HS.out _ _ _ hmP.out.bys bA.out).mono ?_; rintro e w2 ⟨rfl, hb2⟩; have hB2 := Lib.hid (hB1.out.trans (hb2.mono hB1.out.size)); have hR2 := Lib.hid ((hb2.block _ (by have := (Array.getElem?_eq_some_iff.1 hR1.out).1; omega)).trans hR1.out); clear hb2)
          | (refine wpList_build rfl 26 #[] rfl bzs ?_)
          | (refine wpList_store_row rfl 26 (.tmp 2) (.tmp 53) rfl w.heap.size (mk zs0) rfl (congrArg Value.agg bz) 26 (mk zs0) hR2.out (infoSize26 _ rfl) rfl (mk_one _) ?_))
        refine bodyPost_ret (results_row_tmp rfl _ _ w.heap.size 26 (mk zs0) (0, 0) _ rfl (setRow_heap _ _ (mk zs0) _ _ _ hR2.out) Try.underlying26 rfl (infoSize26 _ rfl)) rfl ⟨⟨zs0, 5, rfl, res_no HF.out HNE.out⟩, ?_⟩
        exact below_setRow hB2.out (Nat.le_refl _) _
      · have HEq := Lib.hid (show packL zs = l by simpa using hq)
        rw [hq] at hs
        have HS := Lib.hid hs
        clear hq hs
        go_wp2_with (first
          | (go_at_call 43; refine (HP.out _).mono ?_; rintro e w1 ⟨gp, cp, rfl, hgp, hmp, hb1⟩; have hB1 := Lib.hid (hB.trans (hb1.mono hB.size)); have hR1 := Lib.hid ((hb1.block _ (by omega)).trans hR.out); have hM1 := Lib.hid ((hb1.block _ (by omega)).trans hM.out); have hmP := Lib.hid hmp; have bA := Lib.hid ((H.out.call hB1.out)); clear hmp hb1)
          | (go_at_call 92; refine (HS.out _ _ _ hmP.out.bys bA.out).mono ?_; rintro e w2 ⟨rfl, hb2⟩; have hB2 := Lib.hid (hB1.out.trans (hb2.mono hB1.out.size)); have hR2 := Lib.hid ((hb2.block _ (by have := (Array.getElem?_eq_some_iff.1 hR1.out).1; omega)).trans hR1.out); have hM2 := Lib.hid ((hb2.block _ (by have := (Array.getElem?_eq_some_iff.1 hM1.out).1; omega)).trans hM1.out); clear hb2)
          | (have _t := hM2; clear _t; refine wpList_load_row rfl 26 (.tmp 4) rfl (w.heap.size + 1) rfl 26 (mk zs) (0, 0) _ hM2.out Try.underlying26 rfl hzi ?_)
          | (refine wpList_load_row rfl 26 (.tmp 4) rfl (w.heap.size + 1) rfl 26 (mk zs) (0, 0) _ hM.out Try.underlying26 rfl hzi ?_)
          | (refine wpList_store_row rfl 26 (.tmp 2) (.tmp 54) rfl w.heap.size (mk zs) rfl rfl 26 (mk zs0) hR2.out hzi (mk_same _ hz16) (mk_one _) ?_))
        refine bodyPost_ret (results_row_tmp rfl _ _ w.heap.size 26 (mk zs) (0, 0) _ rfl (setRow_heap _ _ (mk zs0) _ _ _ hR2.out) Try.underlying26 rfl hzi) rfl ⟨⟨zs, 0, rfl, res_yes HW.out HEq.out⟩, ?_⟩
        exact below_setRow hB2.out (Nat.le_refl _) _
end Go.Proofs.Ytbkbjiifklhgiaa
