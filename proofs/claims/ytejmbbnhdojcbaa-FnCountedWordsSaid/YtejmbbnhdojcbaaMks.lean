/- Marks on lists of texts; ComposeImages: the law's own functions. Conditions: none. -/
import Derived.Test.YtejmbbnhdojcbaaApp
import Derived.Test.YtejmbbnhdojcbaaNext
namespace Go.Proofs.Ytejmbbnhdojcbaa
open Go.RowKit
set_option linter.unusedVariables false

/-- Digits in front of a text. -/
def digF : Nat → Nat → List UInt8 → List UInt8
  | 0, _, o => o
  | f + 1, k, o => if k = 0 then o else digF f (k / 10) (UInt8.ofNat (48 + k % 10) :: o)
/-- The letter m and a number. -/
def mt (k : Nat) : List UInt8 := 109 :: digF k k []
theorem digF_zero (f : Nat) (o : List UInt8) : digF f 0 o = o := by cases f <;> rfl
theorem digF_step {f k : Nat} {o : List UInt8} (hk : 0 < k) (hf : k ≤ f) : digF f k o = digF (f - 1) (k / 10) (UInt8.ofNat (48 + k % 10) :: o) := by
  obtain ⟨g, rfl⟩ : ∃ g, f = g + 1 := ⟨f - 1, by omega⟩
  show (if k = 0 then o else _) = _
  rw [if_neg (by omega)]; rfl
theorem bs_cons (c : UInt8) (o : List UInt8) : bs [c] ++ bs o = bs (c :: o) := by rw [bs_append]; rfl

/-- Block g holds the texts, and maybe more behind them. -/
def SM (w : World) (g : Nat) (ls : List (List UInt8)) : Prop := ∃ cur : Array Value, w.heap[g]? = some (.cells cur 9 (0, 0)) ∧ ls.length ≤ cur.size ∧ ∀ j, j < ls.length → cur[j]? = some (.string (bs (stAt ls j)))
theorem SM.lt {w : World} {g : Nat} {ls : List (List UInt8)} (h : SM w g ls) : g < w.heap.size := by
  obtain ⟨cur, h1, _⟩ := h; exact (Array.getElem?_eq_some_iff.1 h1).1
theorem SM.heap {w w' : World} {g : Nat} {ls : List (List UInt8)} (h : SM w g ls) (hh : w'.heap[g]? = w.heap[g]?) : SM w' g ls := by
  obtain ⟨cur, h1, h2⟩ := h; exact ⟨cur, hh.trans h1, h2⟩
theorem SM.strs {w : World} {g : Nat} {ls : List (List UInt8)} (h : SM w g ls) : Strs w (some ⟨g, 0, none⟩) ls := fun _ => by
  obtain ⟨cur, h1, h2, h3⟩ := h
  exact ⟨_, rfl, (Array.getElem?_eq_some_iff.1 h1).1, fun j hj => by rw [plain_add, cell_of_row w g j _ _ _ h1]; exact h3 j hj⟩
theorem SM.of {w : World} {g : Nat} {ls : List (List UInt8)} (h : SBlk w g ls) : SM w g ls := ⟨sv ls, h, by rw [sv_size]; omega, fun j hj => sv_get ls j hj⟩
/-- The marks from k on. -/
def mks (k n : Nat) : List (List UInt8) := (List.range n).map fun j => mt (k + j)
theorem mks_len (k n : Nat) : (mks k n).length = n := by simp [mks]
theorem mks_at {k n j : Nat} (h : j < n) : stAt (mks k n) j = mt (k + j) := by simp [mks, stAt, h]
/-- Only block g may have changed, of what there was. -/
def But (g : Nat) (w w' : World) : Prop := (∀ B, B ≤ g → B ≤ w.heap.size → Below B w w') ∧ ∀ i, i < w.heap.size → i ≠ g → w'.heap[i]? = w.heap[i]?
theorem But.refl (g : Nat) (w : World) : But g w w := ⟨fun B _ _ => Below.refl _ _, fun _ _ _ => rfl⟩
theorem But.size {g : Nat} {w w' : World} (h : But g w w') : w.heap.size ≤ w'.heap.size := (h.1 0 (Nat.zero_le _) (Nat.zero_le _)).size
theorem But.call {g : Nat} {w w1 w2 : World} (h : But g w w1) (hb : Below w1.heap.size w1 w2) : But g w w2 :=
  ⟨fun B h1 h2 => (h.1 B h1 h2).trans (hb.mono (Nat.le_trans h2 h.size)), fun i hi hne => (hb.block i (Nat.lt_of_lt_of_le hi h.size)).trans (h.2 i hi hne)⟩
theorem But.set {g : Nat} {w w1 : World} (h : But g w w1) (j : Nat) (v : Value) : But g w (w1.setCell ⟨g, j, none⟩ v) :=
  ⟨fun B h1 h2 => (h.1 B h1 h2).setCell h1 v, fun i hi hne => (Below.heap_setCell w1 ⟨g, j, none⟩ v i hne).trans (h.2 i hi hne)⟩


/-- A row of texts of the call's own. -/
def SRow (w : World) (B : Nat) (v : Value) (ls : List (List UInt8)) : Prop := Row w B 9 1 v ls.length (ls.map fun l => Value.string (bs l))
theorem srow_made (w : World) (B : Nat) (hB : B ≤ w.heap.size) : SRow (w.alloc (.cells #[] 9)) B (.slice (some ⟨w.heap.size, 0, none⟩) 0 0) [] := row_made w B 9 1 hB
theorem srow_call {w w' : World} {B : Nat} {v : Value} {ls : List (List UInt8)} (h : SRow w B v ls) (hb : Below w.heap.size w w') : SRow w' B v ls := by
  refine ⟨⟨h.1.1, ?_⟩, h.2⟩
  rcases h.1.2 with h0 | ⟨g, cap, cur, h1, h2, h3, h4⟩
  · exact .inl h0
  · exact .inr ⟨g, cap, cur, h1, h2, by rw [hb.block _ (Array.getElem?_eq_some_iff.1 h3).1]; exact h3, h4⟩
theorem srow_sm {w : World} {B : Nat} {v : Value} {ls : List (List UInt8)} (h : SRow w B v ls) : ∃ g cap, v = .slice (some ⟨g, 0, none⟩) ls.length cap ∧ B ≤ g ∧ SM w g ls := by
  obtain ⟨⟨h1, h2⟩, hn⟩ := h
  rcases h2 with ⟨rfl, _⟩ | ⟨g, cap, cur, rfl, hb, hg, hc, _, hsz, htk⟩
  · exact absurd rfl hn
  · refine ⟨g, cap, rfl, hb, cur, hg, by omega, fun j hj => ?_⟩
    have : (cur.toList.take (ls.length * 1))[j]? = (ls.map fun l => Value.string (bs l))[j]? := by rw [htk]
    rw [List.getElem?_take, if_pos (by omega)] at this
    rw [List.getElem?_map, List.getElem?_eq_getElem hj] at this
    rw [stAt_eq hj]
    simpa using this
/-- 'append(out, s)', a text. -/
theorem wpList_pushS {W1 wr : World} {ops : Array Oper} {rest : List Oper} {o : Oper} {a : Act} {Q : Exit → Act → World → Prop} (hgd : o.guard = none) (s x : Operand)
    (ho : o.op = .call { callee := .builtin .append, args := #[s, x], argTypes := #[24, 24] })
    (B : Nat) (v : Value) (ls : List (List UInt8)) (l : List UInt8) (hs : a.eval s = v) (hown : SRow wr B v ls) (hb : Below B W1 wr) (hBW : B ≤ W1.heap.size)
    (hx : a.eval x = .slice (some ⟨wr.heap.size, 0, none⟩) 1 1) (hlen : ls.length < 1000000000)
    (h : ∀ v' w', SRow w' B v' (ls ++ [l]) → Below B W1 w' → wpList Try.prog ops Q rest (a.put o.dst v') w') : wpList Try.prog ops Q (o :: rest) a (wr.alloc (.cells #[.string (bs l)] 9)) := by
  refine wpList_push hgd s x 24 ho B 9 (.string ⟨#[]⟩) 1 16 Try.underlying24 info_str rfl (by decide) v ls.length _ hs hown hb hBW #[.string (bs l)] hx rfl (by simp [Value.oneCell']) hlen (by omega) fun v' w' ho hb' => h v' w' ?_ hb'
  unfold SRow
  rw [List.map_append, List.length_append]
  exact ho
/-- The images of images. -/
def comL (f g : List (List UInt8)) : List (List UInt8) := f.map (apL g)
theorem comL_len (f g : List (List UInt8)) : (comL f g).length = f.length := by simp [comL]
theorem take_com {f g : List (List UInt8)} {k : Nat} (h : k < f.length) : (f.take (k + 1)).map (apL g) = (f.take k).map (apL g) ++ [apL g (stAt f k)] := by
  rw [List.take_succ_eq_append_getElem h, stAt_eq h, List.map_append]; rfl
theorem apL_len {g : List (List UInt8)} (hg : imOk g = true) {u : List UInt8} (hu : vld u = true) : (apL g u).length ≤ 1600 := by
  obtain ⟨h1, h2⟩ := vld_iff.1 hu
  have := (apTo_ok hg h1 u.length (Nat.le_refl _)).2.1
  unfold apL; omega
/-- What is handed back: four images; or none, and a code. -/
def SCom (w : World) (f g : List (List UInt8)) (e : Ending) (w' : World) : Prop := ∃ gg cc, e = .returned (.tuple #[.slice (some ⟨gg, 0, none⟩) 4 cc, .int .i64 0]) ∧ w.heap.size ≤ gg ∧ SM w' gg (comL f g) ∧ Below w.heap.size w w'
def SBad (w : World) (c : Int) (e : Ending) (w' : World) : Prop := ∃ A cc, e = .returned (.tuple #[.slice A 0 cc, .int .i64 c]) ∧ Below w.heap.size w w'
set_option maxHeartbeats 3200000 in
theorem iCom_yes (A1 A2 : Option Addr) (c1 c2 : Nat) (f g : List (List UInt8)) (hs1 : Sml f) (hs2 : Sml g) (hf : imOk f = true) (hg : imOk g = true) (hok : ∀ j, j < 4 → (apL g (stAt f j)).length ≤ 40) (w : World) (h1 : Strs w A1 f) (h2 : Strs w A2 g) :
    Calls Try.prog 12 #[.slice A1 4 c1, .slice A2 4 c2] w (SCom w f g) := by
  have f4 := (imOk_iff.1 hf).1
  have g4 := (imOk_iff.1 hg).1
  have HV1 := Lib.hid (show ∀ w, Strs w A1 f → _ from fun w h => iVal_any A1 c1 f hs1 w h)
  have HV2 := Lib.hid (show ∀ w, Strs w A2 g → _ from fun w h => iVal_any A2 c2 g hs2 w h)
  rw [f4, hf] at HV1
  rw [g4, hg] at HV2
  have HF := Lib.hid hf
  have HG := Lib.hid hg
  have H1 := Lib.hid h1
  have H2 := Lib.hid h2
  have F4 := Lib.hid f4
  have HLO := Lib.hid hok
  clear h1 h2 hs1 hs2 hf hg f4 g4 hok
  go_enter Try.func12, Try.ntmps12
  go_wp2_with (first
    | (go_at_call_of 13 (Value.slice A1 4 c1); refine (HV1.out _ H1.out).mono ?_; rintro e w1 ⟨rfl, hb1⟩)
    | (go_at_call_of 13 (Value.slice A2 4 c2); refine (HV2.out _ (H2.out.below hb1)).mono ?_; rintro e w2 ⟨rfl, hb2⟩; have hB0 := bl_call hb2 hb1))
  go_loopw [6, 22] (fun o i wr => ∃ k : Nat, k ≤ 4 ∧ i = .int .i64 k ∧ SRow wr w.heap.size o ((f.take k).map (apL g)) ∧ Below w.heap.size w wr) (fun _ i _ => 5 - (intOf i).toNat)
  case atStart => exact ⟨0, by omega, rfl, srow_made _ _ hB0.size, below_al hB0 (Nat.le_refl _) _⟩
  case round =>
    obtain ⟨k, hk, rfl, hrow, hb⟩ := hrel
    have HRow := Lib.hid hrow
    have i0 : (0 : Int) ≤ k := by omega
    clear hrow hb1 hb2 hB0
    by_cases hlt : k < 4
    · skip
      obtain ⟨ad, hadd, hbl, hcell⟩ := (H1.out.below hb).at_ (k := k) (by rw [F4.out]; omega)
      subst hadd
      have hvu := (stAt_ok HF.out (show k < 4 by omega)).1
      have HOKv := Lib.hid (show (apL g (stAt f k)).length ≤ 40 from HLO.out k (by omega))
      have HTk := Lib.hid (take_com (f := f) (g := g) (k := k) (by rw [F4.out]; omega))
      have hvl := apL_len HG.out hvu
      obtain ⟨u, hu⟩ : ∃ u, u = stAt f k := ⟨_, rfl⟩
      rw [← hu] at hcell hvu HOKv HTk hvl
      have HA := Lib.hid (show ∀ w, Strs w A2 g → _ from fun w h => iApp_any A2 c2 g HG.out u hvu w h)
      obtain ⟨v, hv⟩ : ∃ v, v = apL g u := ⟨_, rfl⟩
      rw [← hv] at HA HOKv HTk hvl
      have vl : v.length ≤ 40 := HOKv.out
      rw [show tl2 v = v by unfold tl2; rw [if_pos vl], show tc2 v = 0 by unfold tc2; rw [if_pos vl]] at HA
      have k1 : (k : Int) < 4 := by omega
      clear hu hv hvu
      have ll : ((f.take k).map (apL g)).length < 1000000000 := by simp; omega
      go_wp2_with (first
        | (go_at_call 36; refine (HA.out _ (H2.out.below hb)).mono ?_; rintro e w1 ⟨rfl, hb1⟩; have hB1 := bl_call hb1 hb; have HR1 := Lib.hid (srow_call HRow.out hb1))
        | (at_builtin; refine wpList_pushS rfl (.tmp 35) (.tmp 37) rfl w.heap.size _ ((f.take k).map (apL g)) v rfl HR1.out hB1 (Nat.le_refl _) rfl ll ?_))
      intro v' w' hO hB
      go_wp2
      go_roundw
      case rel => exact ⟨k + 1, by omega, by go_num, by rw [HTk.out, List.map_take]; exact hO, hB⟩
      case measure => simp [intOf]; omega
    · obtain rfl : k = 4 := by omega
      have E := Lib.hid (show (f.take 4).map (apL g) = comL f g by rw [show f.take 4 = f by rw [← F4.out, List.take_length]]; rfl)
      obtain ⟨gg, cc, hvv, hgg, hsm⟩ := srow_sm HRow.out
      rw [E.out, show (comL f g).length = 4 by rw [comL_len, F4.out]] at hvv
      rw [E.out] at hsm
      subst hvv
      have HSM := Lib.hid hsm
      clear hsm
      go_wp2
      go_ret2
      exact ⟨_, _, rfl, hgg, HSM.out, hb⟩
set_option maxHeartbeats 3200000 in
theorem iCom_bad (A1 A2 : Option Addr) (c1 c2 : Nat) (f g : List (List UInt8)) (hs1 : Sml f) (hs2 : Sml g) (hf : imOk f = true) (hg : imOk g = true) (k0 : Nat) (hk0 : k0 < 4) (hlo : ∀ j, j < k0 → (apL g (stAt f j)).length ≤ 40) (hbad : 40 < (apL g (stAt f k0)).length) (w : World) (h1 : Strs w A1 f) (h2 : Strs w A2 g) :
    Calls Try.prog 12 #[.slice A1 4 c1, .slice A2 4 c2] w (SBad w 3) := by
  have f4 := (imOk_iff.1 hf).1
  have g4 := (imOk_iff.1 hg).1
  have HV1 := Lib.hid (show ∀ w, Strs w A1 f → _ from fun w h => iVal_any A1 c1 f hs1 w h)
  have HV2 := Lib.hid (show ∀ w, Strs w A2 g → _ from fun w h => iVal_any A2 c2 g hs2 w h)
  rw [f4, hf] at HV1
  rw [g4, hg] at HV2
  have HF := Lib.hid hf
  have HG := Lib.hid hg
  have H1 := Lib.hid h1
  have H2 := Lib.hid h2
  have F4 := Lib.hid f4
  have HLO := Lib.hid hlo
  have HBAD := Lib.hid hbad
  clear h1 h2 hs1 hs2 hf hg f4 g4 hlo hbad
  go_enter Try.func12, Try.ntmps12
  go_wp2_with (first
    | (go_at_call_of 13 (Value.slice A1 4 c1); refine (HV1.out _ H1.out).mono ?_; rintro e w1 ⟨rfl, hb1⟩)
    | (go_at_call_of 13 (Value.slice A2 4 c2); refine (HV2.out _ (H2.out.below hb1)).mono ?_; rintro e w2 ⟨rfl, hb2⟩; have hB0 := bl_call hb2 hb1))
  go_loopw [6, 22] (fun o i wr => ∃ k : Nat, k ≤ k0 ∧ i = .int .i64 k ∧ SRow wr w.heap.size o ((f.take k).map (apL g)) ∧ Below w.heap.size w wr) (fun _ i _ => 5 - (intOf i).toNat)
  case atStart => exact ⟨0, by omega, rfl, srow_made _ _ hB0.size, below_al hB0 (Nat.le_refl _) _⟩
  case round =>
    obtain ⟨k, hk, rfl, hrow, hb⟩ := hrel
    have HRow := Lib.hid hrow
    have i0 : (0 : Int) ≤ k := by omega
    clear hrow hb1 hb2 hB0
    by_cases hlt : k < k0
    · skip
      obtain ⟨ad, hadd, hbl, hcell⟩ := (H1.out.below hb).at_ (k := k) (by rw [F4.out]; omega)
      subst hadd
      have hvu := (stAt_ok HF.out (show k < 4 by omega)).1
      have HOKv := Lib.hid (show (apL g (stAt f k)).length ≤ 40 from HLO.out k (by omega))
      have HTk := Lib.hid (take_com (f := f) (g := g) (k := k) (by rw [F4.out]; omega))
      have hvl := apL_len HG.out hvu
      obtain ⟨u, hu⟩ : ∃ u, u = stAt f k := ⟨_, rfl⟩
      rw [← hu] at hcell hvu HOKv HTk hvl
      have HA := Lib.hid (show ∀ w, Strs w A2 g → _ from fun w h => iApp_any A2 c2 g HG.out u hvu w h)
      obtain ⟨v, hv⟩ : ∃ v, v = apL g u := ⟨_, rfl⟩
      rw [← hv] at HA HOKv HTk hvl
      have vl : v.length ≤ 40 := HOKv.out
      rw [show tl2 v = v by unfold tl2; rw [if_pos vl], show tc2 v = 0 by unfold tc2; rw [if_pos vl]] at HA
      have k1 : (k : Int) < 4 := by omega
      clear hu hv hvu
      have ll : ((f.take k).map (apL g)).length < 1000000000 := by simp; omega
      go_wp2_with (first
        | (go_at_call 36; refine (HA.out _ (H2.out.below hb)).mono ?_; rintro e w1 ⟨rfl, hb1⟩; have hB1 := bl_call hb1 hb; have HR1 := Lib.hid (srow_call HRow.out hb1))
        | (at_builtin; refine wpList_pushS rfl (.tmp 35) (.tmp 37) rfl w.heap.size _ ((f.take k).map (apL g)) v rfl HR1.out hB1 (Nat.le_refl _) rfl ll ?_))
      intro v' w' hO hB
      go_wp2
      go_roundw
      case rel => exact ⟨k + 1, by omega, by go_num, by rw [HTk.out, List.map_take]; exact hO, hB⟩
      case measure => simp [intOf]; omega
    · obtain rfl : k = k0 := by omega
      obtain ⟨ad, hadd, hbl, hcell⟩ := (H1.out.below hb).at_ (k := k) (by rw [F4.out]; omega)
      subst hadd
      have hvu := (stAt_ok HF.out (show k < 4 by omega)).1
      have HOKv := Lib.hid (show 40 < (apL g (stAt f k)).length from HBAD.out)
      have HTk := Lib.hid (take_com (f := f) (g := g) (k := k) (by rw [F4.out]; omega))
      have hvl := apL_len HG.out hvu
      obtain ⟨u, hu⟩ : ∃ u, u = stAt f k := ⟨_, rfl⟩
      rw [← hu] at hcell hvu HOKv HTk hvl
      have HA := Lib.hid (show ∀ w, Strs w A2 g → _ from fun w h => iApp_any A2 c2 g HG.out u hvu w h)
      obtain ⟨v, hv⟩ : ∃ v, v = apL g u := ⟨_, rfl⟩
      rw [← hv] at HA HOKv HTk hvl
      have vl : 40 < v.length := HOKv.out
      rw [show tc2 v = 3 by unfold tc2; rw [if_neg (by omega)]] at HA
      have k1 : (k : Int) < 4 := by omega
      clear hu hv hvu
      go_wp2_with (first
        | (go_at_call 36; refine (HA.out _ (H2.out.below hb)).mono ?_; rintro e w1 ⟨rfl, hb1⟩; have hB1 := bl_call hb1 hb; have HR1 := Lib.hid (srow_call HRow.out hb1)))
      go_ret2
      exact ⟨_, _, rfl, hB1⟩
set_option maxHeartbeats 800000 in
theorem iCom_no1 (A1 A2 : Option Addr) (c1 c2 : Nat) (f g : List (List UInt8)) (hs1 : Sml f) (hs2 : Sml g) (hf : imOk f = false) (w : World) (h1 : Strs w A1 f) (h2 : Strs w A2 g) :
    Calls Try.prog 12 #[.slice A1 f.length c1, .slice A2 g.length c2] w (SBad w 1) := by
  have HV1 := Lib.hid (show ∀ w, Strs w A1 f → _ from fun w h => iVal_any A1 c1 f hs1 w h)
  have HV2 := Lib.hid (show ∀ w, Strs w A2 g → _ from fun w h => iVal_any A2 c2 g hs2 w h)
  rw [hf] at HV1
  skip
  have H1 := Lib.hid h1
  have H2 := Lib.hid h2
  clear h1 h2 hs1 hs2 hf 
  go_enter Try.func12, Try.ntmps12
  go_wp2_with (first
    | (go_at_call_of 13 (Value.slice A1 f.length c1); refine (HV1.out _ H1.out).mono ?_; rintro e w1 ⟨rfl, hb1⟩))
  go_ret2
  exact ⟨_, _, rfl, hb1⟩
set_option maxHeartbeats 800000 in
theorem iCom_no2 (A1 A2 : Option Addr) (c1 c2 : Nat) (f g : List (List UInt8)) (hs1 : Sml f) (hs2 : Sml g) (hf : imOk f = true) (hg : imOk g = false) (w : World) (h1 : Strs w A1 f) (h2 : Strs w A2 g) :
    Calls Try.prog 12 #[.slice A1 f.length c1, .slice A2 g.length c2] w (SBad w 1) := by
  have HV1 := Lib.hid (show ∀ w, Strs w A1 f → _ from fun w h => iVal_any A1 c1 f hs1 w h)
  have HV2 := Lib.hid (show ∀ w, Strs w A2 g → _ from fun w h => iVal_any A2 c2 g hs2 w h)
  rw [hf] at HV1
  rw [hg] at HV2
  have H1 := Lib.hid h1
  have H2 := Lib.hid h2
  clear h1 h2 hs1 hs2 hf hg
  go_enter Try.func12, Try.ntmps12
  go_wp2_with (first
    | (go_at_call_of 13 (Value.slice A1 f.length c1); refine (HV1.out _ H1.out).mono ?_; rintro e w1 ⟨rfl, hb1⟩)
    | (go_at_call_of 13 (Value.slice A2 g.length c2); refine (HV2.out _ (H2.out.below hb1)).mono ?_; rintro e w2 ⟨rfl, hb2⟩; have hB0 := bl_call hb2 hb1))
  go_ret2
  exact ⟨_, _, rfl, hB0⟩
end Go.Proofs.Ytejmbbnhdojcbaa
