/- ValidImages, ApplyImages: the walks of both sides and of the laws. Conditions: none. -/
import Derived.Test.YtejmbbnhdojcbaaImg
import Derived.Test.YtejmbbnhdojcbaaRank
namespace Go.Proofs.Ytejmbbnhdojcbaa
open Go.RowKit
set_option linter.unusedVariables false

theorem St.more {w w1 w2 : World} {M : List (Nat × Obj)} {ls : List (List UInt8)} (h : St w M w1) (hb : Below w1.heap.size w1 w2) (hs : SBlk w2 w1.heap.size ls) :
    St w (M ++ [(w1.heap.size, .cells (sv ls) 9)]) w2 := by
  refine ⟨(St.call hb h).1, fun i g o hi => ?_⟩
  rw [List.getElem?_append] at hi
  split at hi
  · exact (St.call hb h).2 i g o hi
  · have e : i - M.length = 0 := by
      have := (List.getElem?_eq_some_iff.1 hi).1
      simp at this; omega
    rw [e] at hi
    simp at hi
    obtain ⟨rfl, rfl⟩ := hi
    exact ⟨h.1.size, hs⟩
theorem St.sb {w w' : World} {M : List (Nat × Obj)} {ls : List (List UInt8)} (h : St w M w') (i : Nat) {g : Nat} (hi : M[i]? = some (g, .cells (sv ls) 9)) : Strs w' (some ⟨g, 0, none⟩) ls := SBlk.strs (h.get i hi)
theorem sz_yes {ls : List (List UInt8)} (h : tot ls ≤ 1048576) : ¬ szR 1048576 ls < 0 := by unfold szR; rw [if_pos h]; omega
theorem sz_no {ls : List (List UInt8)} (h : ¬ tot ls ≤ 1048576) : szR 1048576 ls < 0 := by unfold szR; rw [if_neg h]; omega


/-- The image of a letter. -/
def img (ls : List (List UInt8)) (c : UInt8) : List UInt8 := if lnoN c % 2 = 1 then Wd.inv (stAt ls (lnoN c / 2)) else stAt ls (lnoN c / 2)
/-- The reduced image of the first k letters. -/
def apTo (ls : List (List UInt8)) (l : List UInt8) : Nat → List UInt8
  | 0 => []
  | k + 1 => Wd.red (apTo ls l k ++ img ls (atb l k))
def apL (ls : List (List UInt8)) (l : List UInt8) : List UInt8 := apTo ls l l.length
theorem stAt_ok {ls : List (List UInt8)} (h : imOk ls = true) {p : Nat} (hp : p < 4) : vld (stAt ls p) = true ∧ Wd.red (stAt ls p) = stAt ls p := by
  obtain ⟨h1, h2⟩ := imOk_iff.1 h
  have := h2 p (by omega)
  unfold lsOk isRed at this
  simpa using this
theorem img_ok {ls : List (List UInt8)} (h : imOk ls = true) {c : UInt8} (hc : Wd.isL c = true) : (∀ x ∈ img ls c, Wd.isL x = true) ∧ (img ls c).length ≤ 40 := by
  obtain ⟨a1, _⟩ := letter_at c hc
  obtain ⟨h1, _⟩ := stAt_ok h (show lnoN c / 2 < 4 by omega)
  obtain ⟨h2, h3⟩ := vld_iff.1 h1
  unfold img
  split
  · exact ⟨Wd.all_inv h2, by rw [Wd.inv_length]; exact h3⟩
  · exact ⟨h2, h3⟩
theorem apTo_ok {ls : List (List UInt8)} (h : imOk ls = true) {l : List UInt8} (hl : ∀ x ∈ l, Wd.isL x = true) : ∀ k, k ≤ l.length → (∀ x ∈ apTo ls l k, Wd.isL x = true) ∧ (apTo ls l k).length ≤ 40 * k ∧ Wd.red (apTo ls l k) = apTo ls l k
  | 0, _ => ⟨by simp [apTo], by simp [apTo], rfl⟩
  | k + 1, hk => by
    obtain ⟨h1, h2, _⟩ := apTo_ok h hl k (by omega)
    obtain ⟨h3, h4⟩ := img_ok h (vld_at hl (show k < l.length by omega))
    have hlen := (Wd.red_length (apTo ls l k ++ img ls (atb l k))).1
    rw [List.length_append] at hlen
    unfold apTo
    exact ⟨Wd.all_red (fun x hx => (List.mem_append.1 hx).elim (h1 x) (h3 x)), by omega, Wd.red_red _⟩

def tl2 (r : List UInt8) : List UInt8 := if r.length ≤ 40 then r else []
def tc2 (r : List UInt8) : Int := if r.length ≤ 40 then 0 else 3
theorem orLong2_any (l : List UInt8) (hl : l.length ≤ 1048576) (w : World) :
    Calls Try.prog 37 #[.string (bs l)] w fun e w' => e = .returned (.tuple #[.string (bs (tl2 (Wd.red l))), .int .i64 (tc2 (Wd.red l))]) ∧ Below w.heap.size w w' := by
  unfold tl2 tc2
  by_cases h : (Wd.red l).length ≤ 40
  · rw [if_pos h, if_pos h]; exact orLong_yes l hl h w
  · rw [if_neg h, if_neg h]; exact orLong_no l hl (by omega) w

set_option maxHeartbeats 3200000 in
theorem iApp_any (A : Option Addr) (c : Nat) (ls : List (List UInt8)) (hi : imOk ls = true) (l : List UInt8) (hv : vld l = true) (w : World) (h : Strs w A ls) :
    Calls Try.prog 36 #[.slice A 4 c, .string (bs l)] w fun e w' => e = .returned (.tuple #[.string (bs (tl2 (apL ls l))), .int .i64 (tc2 (apL ls l))]) ∧ Below w.heap.size w w' := by
  have HS := Lib.hid h
  have HI := Lib.hid hi
  have h4 := (imOk_iff.1 hi).1
  have H4 := Lib.hid h4
  have HL := Lib.hid (vld_iff.1 hv).1
  have h40 := (vld_iff.1 hv).2
  clear h hi hv h4
  go_enter Try.func36, Try.ntmps36
  go_wp2
  go_loopw [6, 11] (fun o i wr => ∃ k : Nat, k ≤ l.length ∧ i = .int .i64 k ∧ o = .string (bs (apTo ls l k)) ∧ Below w.heap.size w wr) (fun _ i _ => l.length - (intOf i).toNat)
  case atStart => exact ⟨0, by omega, rfl, rfl, Below.refl _ _⟩
  case round =>
    obtain ⟨k, hk, rfl, rfl, hb⟩ := hrel
    have i0 : (0 : Int) ≤ k := by omega
    by_cases hlt : k < l.length
    · have i1 : (k : Int) < l.length := by omega
      have hlet := vld_at HL.out hlt
      obtain ⟨e1, e2⟩ := lno_N hlet
      have hio := img_ok HI.out hlet
      obtain ⟨a1, a2, _⟩ := apTo_ok HI.out HL.out k hk
      have hsu : apTo ls l (k + 1) = Wd.red (apTo ls l k ++ img ls (atb l k)) := rfl
      have himg : img ls (atb l k) = if lnoN (atb l k) % 2 = 1 then Wd.inv (stAt ls (lnoN (atb l k) / 2)) else stAt ls (lnoN (atb l k) / 2) := rfl
      obtain ⟨p, hp⟩ : ∃ p, p = lnoN (atb l k) := ⟨_, rfl⟩
      rw [← hp] at e1 e2 himg
      obtain ⟨q, hq⟩ : ∃ q, q = p / 2 := ⟨_, rfl⟩
      have eq : (p : Int) / 2 = (q : Int) := by omega
      have q0 : (0 : Int) ≤ q := by omega
      have q4 : (q : Int) < 4 := by omega
      have p0 : (0 : Int) ≤ p := by omega
      have p8 : (p : Int) < 8 := by omega
      obtain ⟨ad, rfl, hbl, hcell⟩ := (HS.out.below hb).at_ (k := q) (by rw [H4.out]; omega)
      have hso := (vld_iff.1 (stAt_ok HI.out (show q < 4 by omega)).1)
      rw [← hq] at himg
      obtain ⟨s, hs⟩ : ∃ s, s = stAt ls q := ⟨_, rfl⟩
      rw [← hs] at hcell hso himg
      obtain ⟨g, hg⟩ : ∃ g, g = img ls (atb l k) := ⟨_, rfl⟩
      rw [← hg] at hio hsu himg
      obtain ⟨v, hv⟩ : ∃ v, v = apTo ls l k := ⟨_, rfl⟩
      rw [← hv] at a1 a2 hsu ⊢
      have E1 := Lib.hid e1
      have HSU := Lib.hid hsu
      have vg : (v ++ g).length ≤ 1048576 := by have := hio.2; simp; omega
      have HVG := Lib.hid (show ∀ w, _ from fun w => iRed_any (v ++ g) vg w)
      have sl := hso.2
      have gl := hio.2
      have vl : v.length ≤ 1600 := by omega
      have HSI := Lib.hid (show ∀ w, _ from fun w => iInv_any s (by omega) w)
      clear e1 hsu hv hg hs hp hlet hso hio a1 a2 vg
      by_cases hodd : p % 2 = 1
      · have d : ((p : Int) % 2 == 1) = true := by rw [beq_iff_eq]; omega
        have HG := Lib.hid (show g = Wd.inv s by rw [himg, if_pos hodd])
        clear himg hodd hq
        go_wp2_with (first
          | (go_at_call 45; refine (place_any (atb l k) _).mono ?_; rintro e w1 ⟨rfl, rfl⟩; rw [E1.out])
          | (go_at_call 52; refine (HSI.out _).mono ?_; rintro e w1 ⟨rfl, hb1⟩; have hB1 := bl_call hb1 hb; clear hb1; rw [← HG.out])
          | (go_at_call 53; refine (HVG.out _).mono ?_; rintro e w1 ⟨rfl, hb1⟩; have hB2 := bl_call hb1 hB1; clear hb1))
        go_roundw
        case rel => exact ⟨k + 1, by omega, by go_num, by rw [HSU.out], hB2⟩
        case measure => simp [intOf]; omega
      · have d : ((p : Int) % 2 == 1) = false := by rw [beq_eq_false_iff_ne]; omega
        have HG := Lib.hid (show g = s by rw [himg, if_neg hodd])
        rw [HG.out] at HVG
        clear himg hodd hq
        go_wp2_with (first
          | (go_at_call 45; refine (place_any (atb l k) _).mono ?_; rintro e w1 ⟨rfl, rfl⟩; rw [E1.out])
          | (go_at_call 53; refine (HVG.out _).mono ?_; rintro e w1 ⟨rfl, hb1⟩; have hB2 := bl_call hb1 hb; clear hb1))
        go_roundw
        case rel => exact ⟨k + 1, by omega, by go_num, by rw [HSU.out, HG.out], hB2⟩
        case measure => simp [intOf]; omega
    · obtain rfl : k = l.length := by omega
      obtain ⟨_, z2, z3⟩ := apTo_ok HI.out HL.out l.length (Nat.le_refl _)
      have E := Lib.hid (show apL ls l = Wd.red (apTo ls l l.length) from z3.symm)
      obtain ⟨v, hv⟩ : ∃ v, v = apTo ls l l.length := ⟨_, rfl⟩
      rw [← hv] at z2 E ⊢
      have HV := Lib.hid hv
      have vl : v.length ≤ 1048576 := by omega
      clear z3 hv z2
      go_wp2_with (go_at_call 37; refine (orLong2_any v vl _).mono ?_; rintro e w1 ⟨rfl, hb1⟩; have hB1 := bl_call hb1 hb; clear hb1)
      go_ret2
      exact ⟨by rw [E.out]; rfl, hB1⟩


set_option maxHeartbeats 400000 in
theorem iAI_no (A : Option Addr) (c : Nat) (ls : List (List UInt8)) (l : List UInt8) (hs : Sml ls) (hi : imOk ls = false) (w : World) (h : Strs w A ls) :
    Calls Try.prog 10 #[.slice A ls.length c, .string (bs l)] w fun e w' => e = .returned (.tuple #[.string (bs []), .int .i64 1]) ∧ Below w.heap.size w w' := by
  have HC := Lib.hid (iVal_any A c ls hs w h)
  rw [hi] at HC
  clear h hs hi
  go_enter Try.func10, Try.ntmps10
  go_wp2_with (go_at_call 13; refine HC.out.mono ?_; rintro e w1 ⟨rfl, hb1⟩)
  go_ret2
  exact ⟨rfl, hb1⟩
set_option maxHeartbeats 400000 in
theorem iAI_no2 (A : Option Addr) (c : Nat) (ls : List (List UInt8)) (l : List UInt8) (hl : l.length ≤ 1048576) (hs : Sml ls) (hi : imOk ls = true) (hv : vld l = false) (w : World) (h : Strs w A ls) :
    Calls Try.prog 10 #[.slice A ls.length c, .string (bs l)] w fun e w' => e = .returned (.tuple #[.string (bs []), .int .i64 1]) ∧ Below w.heap.size w w' := by
  have HC := Lib.hid (iVal_any A c ls hs w h)
  have HO := Lib.hid (show ∀ w, _ from fun w => iValid_any l hl w)
  rw [hi] at HC
  rw [hv] at HO
  clear h hs hi hv
  go_enter Try.func10, Try.ntmps10
  go_wp2_with (first
    | (go_at_call 13; refine HC.out.mono ?_; rintro e w1 ⟨rfl, hb1⟩)
    | (go_at_call 35; refine (HO.out _).mono ?_; rintro e w2 ⟨rfl, rfl⟩))
  go_ret2
  exact ⟨rfl, hb1⟩
set_option maxHeartbeats 400000 in
theorem iAI_yes (A : Option Addr) (c : Nat) (ls : List (List UInt8)) (l : List UInt8) (hl : l.length ≤ 1048576) (hs : Sml ls) (hi : imOk ls = true) (hv : vld l = true) (w : World) (h : Strs w A ls) :
    Calls Try.prog 10 #[.slice A ls.length c, .string (bs l)] w fun e w' => e = .returned (.tuple #[.string (bs (tl2 (apL ls l))), .int .i64 (tc2 (apL ls l))]) ∧ Below w.heap.size w w' := by
  have HC := Lib.hid (iVal_any A c ls hs w h)
  have HO := Lib.hid (show ∀ w, _ from fun w => iValid_any l hl w)
  have HA := Lib.hid (show ∀ w, Strs w A ls → _ from fun w h => iApp_any A c ls hi l hv w h)
  have HS := Lib.hid h
  have h4 := (imOk_iff.1 hi).1
  rw [h4] at HC ⊢
  rw [hi] at HC
  rw [hv] at HO
  clear h hs hi hv h4
  go_enter Try.func10, Try.ntmps10
  go_wp2_with (first
    | (go_at_call 13; refine HC.out.mono ?_; rintro e w1 ⟨rfl, hb1⟩)
    | (go_at_call 35; refine (HO.out _).mono ?_; rintro e w2 ⟨rfl, rfl⟩)
    | (go_at_call 36; refine (HA.out _ (HS.out.below hb1)).mono ?_; rintro e w2 ⟨rfl, hb2⟩; have hB := bl_call hb2 hb1))
  go_ret2
  exact ⟨rfl, hB⟩


end Go.Proofs.Ytejmbbnhdojcbaa
