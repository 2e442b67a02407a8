/- Words as strings: texts of bytes under one name, and the walks of the smallest functions of words. Conditions: none. -/
import Derived.Test.YtejmbbnhdojcbaaByt
import Derived.Test.YtejmbbnhdojcbaaFree
import Derived.ProofKit
import Derived.OpenShut
import Derived.Deep.QuietTactic
import Derived.BigQuiet
namespace Go.Proofs.Ytejmbbnhdojcbaa
open Go.RowKit

/-- A text of bytes; a name that the walk does not open. -/
def bs (l : List UInt8) : ByteArray := ⟨l.toArray⟩
theorem bs_of (s : ByteArray) : ∃ l, s = bs l := ⟨s.data.toList, by unfold bs; simp⟩
theorem bs_inj {a b : List UInt8} (h : bs a = bs b) : a = b := by
  have := congrArg (fun s => s.data.toList) h
  simpa [bs] using this
@[go_sem] theorem bs_size (l : List UInt8) : (bs l).size = l.length := by simp [bs, ByteArray.size]
theorem bs_nil : (⟨#[]⟩ : ByteArray) = bs [] := rfl
@[go_sem] theorem bs_append (a b : List UInt8) : bs a ++ bs b = bs (a ++ b) := by
  apply ByteArray.ext; simp [bs]
/-- The byte at a place. -/
def atb (l : List UInt8) (k : Nat) : UInt8 := l.getD k 0
theorem atb_eq {l : List UInt8} {k : Nat} (h : k < l.length) : atb l k = l[k] := by simp [atb, h]
@[go_sem high] theorem run_index_bs {P : Program} (w : World) (t : TypeId) (l : List UInt8) (k : IntKind) (i : Int) (h : P.underlying t = some .string) (h0 : 0 ≤ i) (h1 : i < l.length) :
    (Instr.index t (.string (bs l)) (.int k i)).run P w = .ok (.int .u8 ((atb l i.toNat).toNat : Int)) w := by
  have hi : 0 ≤ i ∧ i < ((bs l).size : Int) := by rw [bs_size]; omega
  rw [run_index_string w t (bs l) k i h, dif_pos hi]
  have : (bs l)[i.toNat]'(by rw [bs_size]; omega) = atb l i.toNat := by
    rw [atb_eq (by omega)]; simp [bs, ByteArray.getElem_eq_getElem_data]
  rw [← this]

/-- All letters, in their order. -/
def letters : List UInt8 := [97, 65, 98, 66, 99, 67, 100, 68]
@[go_sem high] theorem fold_letters : (⟨#[97, 65, 98, 66, 99, 67, 100, 68]⟩ : ByteArray) = bs letters := rfl
theorem letters_len : letters.length = 8 := rfl
/-- The number of a letter, 8 if a byte is none. -/
def lnoN (c : UInt8) : Nat := letters.idxOf c
def lno (c : UInt8) : Int := if lnoN c < 8 then lnoN c else -1
theorem lnoN_of {c : UInt8} {k : Nat} (hk : k < 8) (h : atb letters k = c) (hn : ∀ j, j < k → atb letters j ≠ c) : lnoN c = k := by
  have h1 : k < letters.length := hk
  unfold lnoN
  rw [List.idxOf, List.findIdx_eq h1]
  refine ⟨?_, fun j hj => ?_⟩
  · rw [← atb_eq h1]; simp [h]
  · have := hn j hj
    rw [atb_eq (by omega)] at this
    simpa using this
theorem lnoN_no {c : UInt8} (hn : ∀ j, j < 8 → atb letters j ≠ c) : lnoN c = 8 := by
  unfold lnoN
  rw [← letters_len]
  refine List.idxOf_eq_length fun hc => ?_
  obtain ⟨j, hj, e⟩ := List.mem_iff_getElem.1 hc
  exact hn j hj (by rw [atb_eq hj]; exact e)
theorem lno_isL (c : UInt8) : (decide (lnoN c < 8)) = Wd.isL c := by
  have := Wd.allU8 (p := fun c => decide (lnoN c < 8) == Wd.isL c) (by decide +kernel) c
  simpa using this
theorem letter_at (c : UInt8) (h : Wd.isL c = true) : lnoN c < 8 ∧ atb letters (lnoN c) = c ∧ atb letters (lnoN c ^^^ 1) = Wd.oth c ∧ lnoN c ^^^ 1 < 8 := by
  have := Wd.allU8 (p := fun c => !Wd.isL c || (decide (lnoN c < 8) && atb letters (lnoN c) == c && atb letters (lnoN c ^^^ 1) == Wd.oth c && decide (lnoN c ^^^ 1 < 8))) (by decide +kernel) c
  simp only [h, Bool.not_true, Bool.false_or, Bool.and_eq_true, decide_eq_true_eq, beq_iff_eq] at this
  exact ⟨this.1.1.1, this.1.1.2, this.1.2, this.2⟩

set_option maxHeartbeats 400000 in
theorem letter_any (c : UInt8) (w : World) :
    Calls Try.prog 71 #[.int .u8 c.toNat] w fun e w' => e = .returned (.int .i64 (lno c)) ∧ w = w' := by
  go_enter Try.func71, Try.ntmps71
  go_wp2
  go_loop [3] (fun i => ∃ k : Nat, k ≤ 8 ∧ i = .int .i64 k ∧ ∀ j, j < k → atb letters j ≠ c) (fun i => 8 - (intOf i).toNat)
  case atStart => exact ⟨0, by omega, rfl, fun j hj => by omega⟩
  case round =>
    obtain ⟨k, hk, rfl, hn⟩ := hrel
    by_cases hlt : k < 8
    · have i1 : (k : Int) < 8 := by omega
      have i2 : (k : Int) < letters.length := i1
      have HN := Lib.hid hn
      clear hn
      by_cases hc : atb letters k = c
      · have b : ((atb letters k).toNat : Int) = c.toNat := by rw [hc]
        have d : (((atb letters k).toNat : Int) == (c.toNat : Int)) = true := by rw [b]; simp
        clear b
        have e : lno c = k := by unfold lno; rw [lnoN_of hlt hc HN.out, if_pos hlt]
        have HE := Lib.hid e
        have HC := Lib.hid hc
        clear e hc
        go_wp2
        go_ret
        exact ⟨by rw [HE.out]; rfl, rfl⟩
      · have d : (((atb letters k).toNat : Int) == (c.toNat : Int)) = false := by
          rw [beq_eq_false_iff_ne]; intro h; exact hc (UInt8.toNat_inj.1 (by omega))
        have HC := Lib.hid hc
        clear hc
        go_wp2
        go_round
        case rel => exact ⟨k + 1, by omega, by go_num, fun j hj => if h : j = k then h ▸ HC.out else HN.out j (by omega)⟩
        case measure => simp [intOf]; omega
    · obtain rfl : k = 8 := by omega
      have e : lno c = -1 := by unfold lno; rw [lnoN_no hn]; simp
      have HE := Lib.hid e
      clear e hn
      go_wp2
      go_ret
      exact ⟨by rw [HE.out]; rfl, rfl⟩

end Go.Proofs.Ytejmbbnhdojcbaa
