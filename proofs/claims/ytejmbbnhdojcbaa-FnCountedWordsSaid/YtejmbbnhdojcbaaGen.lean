/- The code of a number of generators and of a word of them: the walks of both sides. Conditions: none. -/
import Derived.Test.YtejmbbnhdojcbaaWay
import Derived.Test.YtejmbbnhdojcbaaCmp
import Derived.Test.YtejmbbnhdojcbaaRow
import Derived.Lib.OthersKept
import Derived.Deep.LoopGhost
import Derived.OneCell
namespace Go.Proofs.Ytejmbbnhdojcbaa
open Go.RowKit
set_option linter.unusedVariables false

/-- Is a letter one of so many generators? -/
def okG (g : Int) (l : List UInt8) (n : Nat) : Bool := decide (n < l.length) && decide (lno (atb l n) < 2 * g)
/-- Are all letters of so many generators? -/
def gOk (g : Int) (l : List UInt8) : Bool := decide (∀ n, n < l.length → lno (atb l n) < 2 * g)
theorem gOk_iff {g : Int} {l : List UInt8} : gOk g l = true ↔ ∀ n, n < l.length → lno (atb l n) < 2 * g := by simp [gOk]
theorem lno_07 {c : UInt8} (h : Wd.isL c = true) : 0 ≤ lno c ∧ lno c ≤ 7 := by
  obtain ⟨a1, _, _, _⟩ := letter_at c h
  unfold lno; rw [if_pos a1]; omega
theorem bs_at (l : List UInt8) (k : Nat) (h : k < (bs l).size) : (bs l)[k]'h = atb l k := by
  have h2 : k < l.length := h
  rw [atb_eq h2]; rfl
theorem small_letter {c : UInt8} (h : Wd.isL c = true) : c.toNat < 128 := by
  have := Wd.allU8 (p := fun c => !Wd.isL c || decide (c.toNat < 128)) (by decide +kernel) c
  rw [h] at this; simpa using this

set_option maxHeartbeats 800000 in
theorem clos_any (g : Int) (hg : 1 ≤ g) (hg4 : g ≤ 4) (c : UInt8) (hc : lno c ≤ 7) (hc0 : -1 ≤ lno c) (B : Nat) (w : World) (hB : w.heap[B]? = some (.cells #[.int .i64 g] 2 (0, 0))) :
    Calls Try.prog 62 #[.int .i32 c.toNat, .pointer (some ⟨B, 0, none⟩)] w fun e w' => e = .returned (.bool (decide (2 * g ≤ lno c))) ∧ ∃ q, w' = w.drewN q := by
  have hcell := cell_of_one hB
  have hb8 : c.toNat < 256 := c.toNat_lt
  have hw : IntKind.u8.wrap (c.toNat : Int) = c.toNat := by simp [IntKind.wrap, IntKind.bits, IntKind.signed]; omega
  have hs : ∀ w n, Calls Try.prog 45 #[.int .u8 c.toNat] (World.drewN w n) fun e w'' => e = .returned (.int .i64 (lno c)) ∧ w'' = World.drewN w n := fun w n => (place_any c _).mono fun _ _ ⟨h1, h2⟩ => ⟨h1, h2.symm⟩
  have HS := Lib.hid hs
  clear hs
  go_enter Try.func62, Try.ntmps62
  go_wp2
  have q1 : IntKind.i64.wrap (2 * g) = 2 * g := Go.IntWalk.i64_in _ (by omega)
  go_quiet ((go_at_call 45; exact Calls.quiet_of_same (HS.out _ _)))
  clear q1
  go_wp2
  go_ret
  exact ⟨rfl, _, rfl⟩
/-- Where the first letter stands that is none of so many generators. -/
def idxG (g : Int) (l : List UInt8) : Int := if gOk g l then -1 else (cnt (okG g l) 1000 0 : Nat)
theorem idxG_of {g : Int} {l : List UInt8} {k : Nat} (hk : k < l.length) (hl : l.length ≤ 900) (hn : ∀ j, j < k → lno (atb l j) < 2 * g) (hp : ¬ lno (atb l k) < 2 * g) : idxG g l = k := by
  unfold idxG
  have h1 : gOk g l = false := by
    cases h : gOk g l
    · rfl
    · exact absurd (gOk_iff.1 h k hk) hp
  rw [h1, cnt_of 1000 0 k (Nat.zero_le _) (by omega) (fun j _ hj => by unfold okG; simp [hn j hj]; omega) (by unfold okG; simp; omega)]
  simp
set_option maxHeartbeats 1600000 in
theorem idx_any (g : Int) (hg : 1 ≤ g) (hg4 : g ≤ 4) (l : List UInt8) (hl : l.length ≤ 900) (hL : ∀ x ∈ l, Wd.isL x = true) (B : Nat) (w : World) (hB : w.heap[B]? = some (.cells #[.int .i64 g] 2 (0, 0))) :
    Calls Try.prog 82 #[.string (bs l), .func (.func 62) #[] #[.pointer (some ⟨B, 0, none⟩)], .bool true] w fun e w' => e = .returned (.int .i64 (idxG g l)) ∧ Below w.heap.size w w' := by
  have hBl := lt_of_block hB
  go_enter Try.func82, Try.ntmps82
  go_wp2
  go_loopg [] l.length (fun gf wx => ∃ pos : Nat, pos + gf = l.length ∧ wx.heap[w.heap.size]? = some (.stringIter (bs l) pos) ∧ Below w.heap.size w wx ∧ ∀ j, j < pos → lno (atb l j) < 2 * g)
  case atStart => exact ⟨0, by omega, World.iter_heap w (bs l) 0, (Below.refl _ w).alloc (Nat.le_refl _) _, fun j hj => by omega⟩
  case round =>
    obtain ⟨pos, hsum, hit, hbw, hn⟩ := hrel
    have HN := Lib.hid hn
    clear hn
    by_cases hps : pos < l.length
    · obtain ⟨g', rfl⟩ : ∃ g', gk = g' + 1 := ⟨gk - 1, by omega⟩
      have hps2 : pos < (bs l).size := hps
      have hlet := vld_at hL hps
      have hnx : ∀ ty, (Instr.next (.pointer (some ⟨w.heap.size, 0, none⟩)) true ty).run Try.prog wr = .ok (.tuple #[.bool true, .int .i64 pos, .int .i32 (atb l pos).toNat]) (wr.iterAt w.heap.size (bs l) (pos + 1)) := fun ty => by
        rw [Lib.run_next_ascii_at wr w.heap.size (bs l) pos ty hit hps2 (by rw [bs_at]; exact small_letter hlet), bs_at]
      have hit2 := Lib.iterAt_heap wr w.heap.size (bs l) pos (pos + 1) hit
      have hbw2 := Lib.below_iterAt hbw (k := w.heap.size) (Nat.le_refl _) (bs l) (pos + 1)
      obtain ⟨W, hWd⟩ : ∃ W, wr.iterAt w.heap.size (bs l) (pos + 1) = W := ⟨_, rfl⟩
      rw [hWd] at hnx hit2 hbw2
      have hB2 : W.heap[B]? = some (.cells #[.int .i64 g] 2 (0, 0)) := by rw [hbw2.block _ hBl]; exact hB
      have hc := lno_07 (hlet)
      have hC := Lib.hid (show ∀ w, _ from fun w => clos_any g hg hg4 (atb l pos) (by omega) (by omega) B w)
      clear hc hWd
      by_cases hbig : 2 * g ≤ lno (atb l pos)
      · have hi := idxG_of hps hl HN.out (by omega)
        have HI := Lib.hid hi
        have d : decide (2 * g ≤ lno (atb l pos)) = true := by simp [hbig]
        clear hi hlet hL
        go_wp2_with (go_at_call 62; refine (hC.out W hB2).mono ?_; rintro e W' ⟨rfl, q, rfl⟩)
        go_ret
        exact ⟨by rw [HI.out]; rfl, below_drewN hbw2 q⟩
      · have d : decide (2 * g ≤ lno (atb l pos)) = false := by simp; omega
        have HB := Lib.hid hbig
        clear hlet hL hbig
        go_wp2_with (go_at_call 62; refine (hC.out W hB2).mono ?_; rintro e W' ⟨rfl, q, rfl⟩)
        go_roundg g'
        case measure => omega
        case rel => exact ⟨pos + 1, by omega, hit2, below_drewN hbw2 q, fun j hj => if h : j = pos then by subst h; have := HB.out; omega else HN.out j (by omega)⟩
    · have hps2 : ¬ pos < (bs l).size := hps
      have hnx : ∀ ty, (Instr.next (.pointer (some ⟨w.heap.size, 0, none⟩)) true ty).run Try.prog wr = .ok (.tuple #[.bool false]) wr := fun ty => Lib.run_next_end_at wr w.heap.size (bs l) pos ty hit hps2
      have hi : idxG g l = -1 := by
        unfold idxG
        rw [gOk_iff.2 (fun n hn => HN.out n (by omega))]; rfl
      have HI := Lib.hid hi
      clear hi hL
      go_wp2
      go_ret
      exact ⟨by rw [HI.out]; rfl, hbw⟩

theorem idx_dec (g : Int) (l : List UInt8) : decide (0 ≤ idxG g l) = !gOk g l := by
  unfold idxG
  cases gOk g l
  · simp
  · simp
set_option maxHeartbeats 400000 in
theorem idxT_any (g : Int) (hg : 1 ≤ g) (hg4 : g ≤ 4) (l : List UInt8) (hl : l.length ≤ 900) (hL : ∀ x ∈ l, Wd.isL x = true) (B : Nat) (w : World) (hB : w.heap[B]? = some (.cells #[.int .i64 g] 2 (0, 0))) :
    Calls Try.prog 74 #[.string (bs l), .func (.func 62) #[] #[.pointer (some ⟨B, 0, none⟩)]] w fun e w' => e = .returned (.int .i64 (idxG g l)) ∧ Below w.heap.size w w' := by
  have HC := Lib.hid (idx_any g hg hg4 l hl hL B w hB)
  clear hB hL
  go_enter Try.func74, Try.ntmps74
  go_wp2_with (go_at_call 82; refine HC.out.mono ?_; rintro e w1 ⟨rfl, hb1⟩)
  go_ret
  exact ⟨rfl, hb1⟩
set_option maxHeartbeats 400000 in
theorem cont_any (g : Int) (hg : 1 ≤ g) (hg4 : g ≤ 4) (l : List UInt8) (hl : l.length ≤ 900) (hL : ∀ x ∈ l, Wd.isL x = true) (B : Nat) (w : World) (hB : w.heap[B]? = some (.cells #[.int .i64 g] 2 (0, 0))) :
    Calls Try.prog 61 #[.string (bs l), .func (.func 62) #[] #[.pointer (some ⟨B, 0, none⟩)]] w fun e w' => e = .returned (.bool (!gOk g l)) ∧ Below w.heap.size w w' := by
  have HC := Lib.hid (idxT_any g hg hg4 l hl hL B w hB)
  have HD := Lib.hid (idx_dec g l)
  clear hB hL
  generalize idxG g l = I at *
  go_enter Try.func61, Try.ntmps61
  go_wp2_with (go_at_call 74; refine HC.out.mono ?_; rintro e w1 ⟨rfl, hb1⟩)
  go_ret
  exact ⟨by rw [← HD.out]; rfl, hb1⟩

set_option maxHeartbeats 400000 in
theorem iGen_no (g : Int) (l : List UInt8) (hl : l.length ≤ 1048576) (hv : vld l = false) (w : World) :
    Calls Try.prog 44 #[.int .i64 g, .string (bs l)] w fun e w' => e = .returned (.int .i64 1) ∧ Below w.heap.size w w' := by
  have hB0 := Below.refl w.heap.size w
  have hA := (Below.refl w.heap.size w).alloc (Nat.le_refl _) (.cells #[.int .i64 g] 2)
  go_enter Try.func44, Try.ntmps44
  go_wp2_with (first
    | ((go_at_call 35); refine (iValid_any l hl _).mono ?_; rintro e w1 ⟨rfl, rfl⟩))
  go_ret
  exact ⟨rfl, hA⟩

set_option maxHeartbeats 400000 in
theorem iGen_lo (g : Int) (l : List UInt8) (hl : l.length ≤ 1048576) (hv : vld l = true) (h : g < 1) (w : World) :
    Calls Try.prog 44 #[.int .i64 g, .string (bs l)] w fun e w' => e = .returned (.int .i64 2) ∧ Below w.heap.size w w' := by
  have hB0 := Below.refl w.heap.size w
  have hA := (Below.refl w.heap.size w).alloc (Nat.le_refl _) (.cells #[.int .i64 g] 2)
  go_enter Try.func44, Try.ntmps44
  go_wp2_with (first
    | ((go_at_call 35); refine (iValid_any l hl _).mono ?_; rintro e w1 ⟨rfl, rfl⟩)
    | ((go_at_call 41); refine (iIn_lo g _ _ h _).mono ?_; rintro e w1 ⟨rfl, rfl⟩))
  go_ret
  exact ⟨rfl, hA⟩

set_option maxHeartbeats 400000 in
theorem iGen_hi (g : Int) (l : List UInt8) (hl : l.length ≤ 1048576) (hv : vld l = true) (h : 4 < g) (w : World) :
    Calls Try.prog 44 #[.int .i64 g, .string (bs l)] w fun e w' => e = .returned (.int .i64 2) ∧ Below w.heap.size w w' := by
  have hB0 := Below.refl w.heap.size w
  have hA := (Below.refl w.heap.size w).alloc (Nat.le_refl _) (.cells #[.int .i64 g] 2)
  go_enter Try.func44, Try.ntmps44
  go_wp2_with (first
    | ((go_at_call 35); refine (iValid_any l hl _).mono ?_; rintro e w1 ⟨rfl, rfl⟩)
    | ((go_at_call 41); refine (iIn_hi g _ _ (by omega) h _).mono ?_; rintro e w1 ⟨rfl, rfl⟩))
  go_ret
  exact ⟨rfl, hA⟩

set_option maxHeartbeats 400000 in
theorem iGen_bad (g : Int) (l : List UInt8) (hl : l.length ≤ 1048576) (hv : vld l = true) (hg : 1 ≤ g) (hg4 : g ≤ 4) (ho : gOk g l = false) (w : World) :
    Calls Try.prog 44 #[.int .i64 g, .string (bs l)] w fun e w' => e = .returned (.int .i64 2) ∧ Below w.heap.size w w' := by
  have hB0 := Below.refl w.heap.size w
  have hA := (Below.refl w.heap.size w).alloc (Nat.le_refl _) (.cells #[.int .i64 g] 2)
  have HV := Lib.hid hv
  have h40 := (vld_iff.1 hv).2
  have h1 : (w.alloc (.cells #[.int .i64 g] 2)).heap[w.heap.size]? = some (.cells #[.int .i64 g] 2 (0, 0)) := one_first _ _
  have H1 := Lib.hid h1
  clear h1
  go_enter Try.func44, Try.ntmps44
  go_wp2_with (first
    | ((go_at_call 35); refine (iValid_any l hl _).mono ?_; rintro e w1 ⟨rfl, rfl⟩)
    | ((go_at_call 41); refine (iIn_in g _ _ hg hg4 _).mono ?_; rintro e w1 ⟨rfl, rfl⟩)
    | ((go_at_call 61); refine (cont_any g hg hg4 l (by omega) (vld_iff.1 HV.out).1 w.heap.size _ H1.out).mono ?_; rintro e w1 ⟨rfl, hb1⟩; have hB := bl_call hb1 hA; clear hb1))
  go_ret
  exact ⟨rfl, hB⟩

set_option maxHeartbeats 400000 in
theorem iGen_good (g : Int) (l : List UInt8) (hl : l.length ≤ 1048576) (hv : vld l = true) (hg : 1 ≤ g) (hg4 : g ≤ 4) (ho : gOk g l = true) (w : World) :
    Calls Try.prog 44 #[.int .i64 g, .string (bs l)] w fun e w' => e = .returned (.int .i64 0) ∧ Below w.heap.size w w' := by
  have hB0 := Below.refl w.heap.size w
  have hA := (Below.refl w.heap.size w).alloc (Nat.le_refl _) (.cells #[.int .i64 g] 2)
  have HV := Lib.hid hv
  have h40 := (vld_iff.1 hv).2
  have h1 : (w.alloc (.cells #[.int .i64 g] 2)).heap[w.heap.size]? = some (.cells #[.int .i64 g] 2 (0, 0)) := one_first _ _
  have H1 := Lib.hid h1
  clear h1
  go_enter Try.func44, Try.ntmps44
  go_wp2_with (first
    | ((go_at_call 35); refine (iValid_any l hl _).mono ?_; rintro e w1 ⟨rfl, rfl⟩)
    | ((go_at_call 41); refine (iIn_in g _ _ hg hg4 _).mono ?_; rintro e w1 ⟨rfl, rfl⟩)
    | ((go_at_call 61); refine (cont_any g hg hg4 l (by omega) (vld_iff.1 HV.out).1 w.heap.size _ H1.out).mono ?_; rintro e w1 ⟨rfl, hb1⟩; have hB := bl_call hb1 hA; clear hb1))
  go_ret
  exact ⟨rfl, hB⟩




/-- The code of a reduced word over so many generators, if the word is valid and the number is. -/
def givC (g : Int) (l : List UInt8) : Int := if gOk g l then (if isRed l then 0 else 4) else 2

end Go.Proofs.Ytejmbbnhdojcbaa
