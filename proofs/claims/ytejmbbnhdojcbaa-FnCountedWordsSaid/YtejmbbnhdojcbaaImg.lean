/- ValidImages, ApplyImages: the walks of both sides and of the laws. Conditions: none. -/
import Derived.Test.YtejmbbnhdojcbaaStr
namespace Go.Proofs.Ytejmbbnhdojcbaa
open Go.RowKit
set_option linter.unusedVariables false

/-- Is a text a reduced word? -/
def lsOk (l : List UInt8) : Bool := vld l && isRed l
/-- Are texts four reduced words? -/
def imOk (ls : List (List UInt8)) : Bool := decide (ls.length = 4) && ls.all lsOk
theorem imOk_no {ls : List (List UInt8)} {k : Nat} (hk : k < ls.length) (h : lsOk (stAt ls k) = false) : imOk ls = false := by
  unfold imOk
  rw [Bool.and_eq_false_iff]; right
  rw [List.all_eq_false]
  exact ⟨_, stAt_mem hk, by simp [h]⟩
theorem all_ok {ls : List (List UInt8)} (h : ∀ j, j < ls.length → lsOk (stAt ls j) = true) : ls.all lsOk = true := by
  rw [List.all_eq_true]
  intro x hx
  obtain ⟨j, hj, rfl⟩ := List.mem_iff_getElem.1 hx
  rw [← stAt_eq hj]; exact h j hj
theorem imOk_end {ls : List (List UInt8)} (h : ∀ j, j < ls.length → lsOk (stAt ls j) = true) : imOk ls = decide (ls.length = 4) := by
  unfold imOk; rw [all_ok h, Bool.and_true]
theorem imOk_iff {ls : List (List UInt8)} : imOk ls = true ↔ ls.length = 4 ∧ ∀ j, j < ls.length → lsOk (stAt ls j) = true := by
  constructor
  · intro h
    unfold imOk at h
    simp only [Bool.and_eq_true, decide_eq_true_eq, List.all_eq_true] at h
    exact ⟨h.1, fun j hj => h.2 _ (stAt_mem hj)⟩
  · rintro ⟨h1, h2⟩
    rw [imOk_end h2, h1]; rfl
/-- Do all texts keep a bound? -/
def Sml (ls : List (List UInt8)) : Prop := ls.length ≤ 1048576 ∧ ∀ k, k < ls.length → (stAt ls k).length ≤ 1048576
theorem sml_of {ls : List (List UInt8)} (h : tot ls ≤ 1048576) : Sml ls := ⟨by unfold tot at h; omega, fun k hk => Nat.le_trans (len_le_tot ls hk) h⟩

theorem hld_call {w w1 w2 : World} {ad : Addr} {k : Nat} {v : Value} (h : w1.cell? (ad.add k) = some v ∧ ad.block < w1.heap.size ∧ Below w.heap.size w w1) (hb : Below w1.heap.size w1 w2) :
    w2.cell? (ad.add k) = some v ∧ ad.block < w2.heap.size ∧ Below w.heap.size w w2 :=
  ⟨(hb.cell (by rw [add_block]; exact h.2.1)).trans h.1, Nat.lt_of_lt_of_le h.2.1 hb.size, bl_call hb h.2.2⟩

set_option maxHeartbeats 400000 in
theorem imCl_any (u : List UInt8) (hu : u.length ≤ 1048576) (w : World) :
    Calls Try.prog 39 #[.string (bs u)] w fun e w' => e = .returned (.bool (!lsOk u)) ∧ Below w.heap.size w w' := by
  have HOk := Lib.hid (show ∀ w, _ from fun w => iValid_any u hu w)
  have HRd := Lib.hid (show ∀ w, _ from fun w => isReduced_any u hu w)
  cases hv : vld u
  · rw [hv] at HOk
    have E := Lib.hid (show (!lsOk u) = true by unfold lsOk; rw [hv]; rfl)
    clear hv
    go_enter Try.func39, Try.ntmps39
    go_wp2_with (go_at_call 35; refine (HOk.out _).mono ?_; rintro e w1 ⟨rfl, rfl⟩)
    go_ret
    exact ⟨by rw [E.out]; rfl, Below.refl _ _⟩
  · cases hr : isRed u
    all_goals
      rw [hv] at HOk
      rw [hr] at HRd
      have E := Lib.hid (show lsOk u = _ by unfold lsOk; rw [hv, hr])
      clear hv hr
      go_enter Try.func39, Try.ntmps39
      go_wp2_with (first
        | (go_at_call 35; refine (HOk.out _).mono ?_; rintro e w1 ⟨rfl, rfl⟩)
        | (go_at_call 40; refine (HRd.out _).mono ?_; rintro e w1 ⟨rfl, hb1⟩))
      go_ret
      exact ⟨by rw [E.out]; rfl, hb1⟩
/-- Where the first text stands that is no reduced word. -/
def idxS (ls : List (List UInt8)) : Int := if ls.all lsOk then -1 else (cnt (fun n => decide (n < ls.length) && lsOk (stAt ls n)) 1000 0 : Nat)
theorem idxS_of {ls : List (List UInt8)} {k : Nat} (hk : k < ls.length) (hl : ls.length ≤ 900) (hn : ∀ j, j < k → lsOk (stAt ls j) = true) (hp : lsOk (stAt ls k) = false) : idxS ls = k := by
  unfold idxS
  have h1 : ls.all lsOk = false := by
    rw [List.all_eq_false]; exact ⟨_, stAt_mem hk, by simp [hp]⟩
  rw [h1, cnt_of 1000 0 k (Nat.zero_le _) (by omega) (fun j _ hj => by simp [hn j hj]; omega) (by simp [hp])]
  simp
theorem idxS_dec (ls : List (List UInt8)) : decide (0 ≤ idxS ls) = !(ls.all lsOk) := by
  unfold idxS
  cases ls.all lsOk
  · simp
  · simp
set_option maxHeartbeats 1600000 in
theorem idxF_any (A : Option Addr) (c : Nat) (ls : List (List UInt8)) (hs : Sml ls) (h9 : ls.length ≤ 900) (w : World) (h : Strs w A ls) :
    Calls Try.prog 60 #[.slice A ls.length c, .func (.func 39) #[] #[]] w fun e w' => e = .returned (.int .i64 (idxS ls)) ∧ Below w.heap.size w w' := by
  have HS := Lib.hid h
  have HSm := Lib.hid hs
  obtain ⟨N, hN⟩ : ∃ N, N = ls.length := ⟨_, rfl⟩
  rw [← hN] at h9 ⊢
  have HN := Lib.hid hN
  clear h hs hN
  go_enter Try.func60, Try.ntmps60
  go_wp2
  go_loopw [8] (fun i wr => ∃ k : Nat, k ≤ N ∧ i = .int .i64 k ∧ (∀ j, j < k → lsOk (stAt ls j) = true) ∧ Below w.heap.size w wr) (fun i _ => N - (intOf i).toNat)
  case atStart => exact ⟨0, by omega, rfl, fun j hj => by omega, Below.refl _ _⟩
  case round =>
    obtain ⟨k, hk, rfl, hn, hb⟩ := hrel
    have HNo := Lib.hid hn
    clear hn
    by_cases hlt : k < N
    · have i0 : (0 : Int) ≤ k := by omega
      have i1 : (k : Int) < N := by omega
      obtain ⟨ad, rfl, hbl, hcell⟩ := (HS.out.below hb).at_ (k := k) (by rw [← HN.out]; exact hlt)
      have hul := HSm.out.2 k (by rw [← HN.out]; exact hlt)
      have HIx := Lib.hid (show lsOk (stAt ls k) = false → idxS ls = k from fun h => idxS_of (by rw [← HN.out]; exact hlt) (by rw [← HN.out]; exact h9) HNo.out h)
      obtain ⟨u, hu⟩ : ∃ u, u = stAt ls k := ⟨_, rfl⟩
      rw [← hu] at hcell hul HIx
      have HU := Lib.hid hu
      have HC := Lib.hid (show ∀ w, _ from fun w => imCl_any u hul w)
      clear hu
      cases hv : lsOk u
      · have E := Lib.hid (HIx.out hv)
        rw [hv] at HC
        clear hv
        go_wp2_with (go_at_call 39; refine (HC.out _).mono ?_; rintro e w1 ⟨rfl, hb1⟩; have hB := bl_call hb1 hb; clear hb1)
        go_ret
        exact ⟨by rw [E.out]; rfl, hB⟩
      · have E := Lib.hid hv
        rw [hv] at HC
        clear hv
        go_wp2_with (go_at_call 39; refine (HC.out _).mono ?_; rintro e w1 ⟨rfl, hb1⟩; have hB := bl_call hb1 hb; clear hb1)
        go_roundw
        case rel => exact ⟨k + 1, by omega, by go_num, fun j hj => if h : j = k then (by subst h; rw [← HU.out]; exact E.out) else HNo.out j (by omega), hB⟩
        case measure => simp [intOf]; omega
    · obtain rfl : k = N := by omega
      have E := Lib.hid (show idxS ls = -1 by unfold idxS; rw [all_ok (fun j hj => HNo.out j (by rw [HN.out]; exact hj))]; rfl)
      go_wp2
      go_ret
      exact ⟨by rw [E.out]; rfl, hb⟩
set_option maxHeartbeats 400000 in
theorem contF_any (A : Option Addr) (c : Nat) (ls : List (List UInt8)) (hs : Sml ls) (h9 : ls.length ≤ 900) (w : World) (h : Strs w A ls) :
    Calls Try.prog 38 #[.slice A ls.length c, .func (.func 39) #[] #[]] w fun e w' => e = .returned (.bool (!(ls.all lsOk))) ∧ Below w.heap.size w w' := by
  have HC := Lib.hid (idxF_any A c ls hs h9 w h)
  have HD := Lib.hid (idxS_dec ls)
  clear h hs
  generalize idxS ls = I at *
  go_enter Try.func38, Try.ntmps38
  go_wp2_with (go_at_call 60; refine HC.out.mono ?_; rintro e w1 ⟨rfl, hb1⟩)
  go_ret
  exact ⟨by rw [← HD.out]; rfl, hb1⟩
set_option maxHeartbeats 400000 in
theorem iVal_any (A : Option Addr) (c : Nat) (ls : List (List UInt8)) (hs : Sml ls) (w : World) (h : Strs w A ls) :
    Calls Try.prog 13 #[.slice A ls.length c] w fun e w' => e = .returned (.bool (imOk ls)) ∧ Below w.heap.size w w' := by
  by_cases h4 : ls.length = 4
  · have HC := Lib.hid (contF_any A c ls hs (by omega) w h)
    have E := Lib.hid (show imOk ls = ls.all lsOk by unfold imOk; rw [h4]; rfl)
    rw [h4] at HC
    rw [h4]
    generalize ls.all lsOk = b at *
    clear h hs h4
    go_enter Try.func13, Try.ntmps13
    go_wp2_with (go_at_call 38; refine HC.out.mono ?_; rintro e w1 ⟨rfl, hb1⟩)
    go_ret
    exact ⟨by rw [E.out]; simp, hb1⟩
  · have E := Lib.hid (show imOk ls = false by unfold imOk; simp [h4])
    obtain ⟨N, hN⟩ : ∃ N, N = ls.length := ⟨_, rfl⟩
    have hl := hs.1
    rw [← hN] at h4 hl ⊢
    have d : ((N : Int) == 4) = false := by rw [beq_eq_false_iff_ne]; omega
    clear h hs hN h4
    go_enter Try.func13, Try.ntmps13
    go_wp2
    go_ret
    exact ⟨by rw [E.out]; rfl, Below.refl _ _⟩

/-- A list of texts that came in. -/
theorem open_strs_row {H : Type} {enc : TypeId × Value → H} {P : Program} {w : World} {base : Nat} {spare : Nat → Bool} {held : Bool} {t e : TypeId}
    {a : Option Addr} {len cap : Nat} {d : DataW H} {p : List MemPlace} (ht : P.underlying t = some (.slice e)) (he : P.underlying e = some .string) (hc : P.cellsOf e = 1)
    (h : DataW.Trod enc P w base spare held t (.slice a len cap) d p) : ∃ ls : List (List UInt8), ls.length = len ∧ ls.length ≤ 9223372036854775807 ∧ (∀ k, k < ls.length → (stAt ls k).length ≤ 9223372036854775807) ∧ Strs w a ls := by
  obtain ⟨fuel, hf⟩ := h
  rcases Deep.open_strs ht he hc hf with ⟨h0, _⟩ | ⟨ad, n, cp, m, Sx, h0, hb, hl, hm, hmm, hx, hcell⟩
  · have : (Value.slice a len cap) = .slice none 0 0 := by simpa [Value.cells] using h0
    injection this with h1 h2 h3
    subst h1 h2 h3
    exact ⟨[], rfl, by simp, fun k hk => by simp at hk, Strs.nil _ _⟩
  · have : (Value.slice a len cap) = .slice (some ad) n cp := by simpa [Value.cells] using h0
    injection this with h1 h2 h3
    subst h1 h2 h3
    have hlm : len ≤ m := by rw [hmm]; split <;> omega
    have hat : ∀ k, k < len → stAt ((List.range len).map fun i => (Sx i).data.toList) k = (Sx k).data.toList := fun k hk => by simp [stAt, hk]
    unfold maxLen at hm hcell
    have hbs : ∀ s : ByteArray, bs s.data.toList = s := fun s => by unfold bs; simp
    refine ⟨(List.range len).map fun i => (Sx i).data.toList, by simp, by simp; omega, fun k hk => ?_, fun hn => ⟨ad, rfl, ?_, fun j hj => ?_⟩⟩
    · simp at hk
      rw [hat k hk]
      have := (hcell k (by omega)).2
      simpa using this
    · simp at hn
      exact World.block_lt_of_cell? w ad (by have := (hcell 0 (by omega)).1; simpa [Addr.add] using this)
    · simp at hj
      rw [hat j hj, hbs]
      exact (hcell j (by omega)).1

end Go.Proofs.Ytejmbbnhdojcbaa
