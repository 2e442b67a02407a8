/- Inverses of letters and of words: the walks of both sides. Conditions: none. -/
import Derived.Test.YtejmbbnhdojcbaaOk
namespace Go.Proofs.Ytejmbbnhdojcbaa
open Go.RowKit

theorem info_u8 : (Try.prog.info? 5).map (fun i => (i.zero, i.size, i.bytes)) = some (some (.int .u8 0), 1, 1) := by kernel_rfl
theorem below_al {B : Nat} {a w : World} (h : Below B a w) (hB : B ≤ a.heap.size) (o : Obj) : Below B a (w.alloc o) := h.alloc (Nat.le_trans hB h.size) o
/-- What one call leaves as it was, and then another. -/
theorem bl_call {w w1 w2 : World} (hb : Below w1.heap.size w1 w2) (h : Below w.heap.size w w1) : Below w.heap.size w w2 := h.trans (hb.mono h.size)
theorem bl_same {w w1 : World} (h : w = w1) : Below w.heap.size w w1 := h ▸ Below.refl _ _

theorem xor_one : ∀ n : Nat, n < 8 → bits BinOp.xor IntKind.i64 (n : Int) 1 = ((n ^^^ 1 : Nat) : Int) := by decide +kernel
theorem xor_32 (c : UInt8) : bits BinOp.xor IntKind.u8 (c.toNat : Int) 32 = ((Wd.oth c).toNat : Int) := by
  have := Wd.allU8 (p := fun c => bits BinOp.xor IntKind.u8 (c.toNat : Int) 32 == ((Wd.oth c).toNat : Int)) (by decide +kernel) c
  simpa using this

set_option maxHeartbeats 400000 in
theorem other_any (c : UInt8) (h : Wd.isL c = true) (w : World) :
    Calls Try.prog 56 #[.int .u8 c.toNat] w fun e w' => e = .returned (.int .u8 (Wd.oth c).toNat) ∧ w = w' := by
  obtain ⟨h1, h2, h3, h4⟩ := letter_at c h
  have e1 : lno c = (lnoN c : Nat) := by unfold lno; rw [if_pos h1]
  obtain ⟨n, hn⟩ : ∃ n, n = lnoN c := ⟨_, rfl⟩
  rw [← hn] at h1 h3 h4 e1
  have e2 := xor_one n h1
  obtain ⟨m, hm⟩ : ∃ m, m = n ^^^ 1 := ⟨_, rfl⟩
  rw [← hm] at e2 h3 h4
  have i1 : (m : Int) < letters.length := by rw [letters_len]; omega
  have H3 := Lib.hid h3
  clear h3 h2 hn hm
  go_enter Try.func56, Try.ntmps56
  go_wp2_with (go_at_call 71; refine (letter_any c _).mono ?_; rintro e w' ⟨rfl, rfl⟩)
  go_ret
  exact ⟨by rw [← H3.out]; rfl, rfl⟩

set_option maxHeartbeats 400000 in
theorem iOther_any (c : UInt8) (w : World) :
    Calls Try.prog 43 #[.int .u8 c.toNat] w fun e w' => e = .returned (.int .u8 (Wd.oth c).toNat) ∧ w = w' := by
  have e2 := xor_32 c
  go_enter Try.func43, Try.ntmps43
  go_wp2
  go_ret
  exact ⟨rfl, rfl⟩

/-- The inverse of what stands behind a place, and of one letter more. -/
theorem inv_drop (l : List UInt8) (m : Nat) (h : m < l.length) : Wd.inv (l.drop m) = Wd.inv (l.drop (m + 1)) ++ [Wd.oth (atb l m)] := by
  rw [List.drop_eq_getElem_cons h, atb_eq h]
  unfold Wd.inv
  rw [List.map_cons, List.reverse_cons]


set_option maxHeartbeats 800000 in
theorem iInv_any (l : List UInt8) (hl : l.length ≤ 1048576) (w : World) :
    Calls Try.prog 52 #[.string (bs l)] w fun e w' => e = .returned (.string (bs (Wd.inv l))) ∧ Below w.heap.size w w' := by
  go_enter Try.func52, Try.ntmps52
  go_wp2
  go_loopw [3, 4] (fun v i wr => ∃ j : Nat, j ≤ l.length ∧ i = .int .i64 ((j : Int) - 1) ∧ Own wr w.heap.size 5 v (Wd.inv (l.drop j)) ∧ Below w.heap.size w wr) (fun _ i _ => (intOf i + 1).toNat)
  case atStart => exact ⟨l.length, by omega, rfl, by rw [List.drop_length]; exact own_made w w.heap.size 5 (by omega), below_al (Below.refl _ _) (Nat.le_refl _) _⟩
  case round =>
    obtain ⟨j, hj, rfl, hown, hbel⟩ := hrel
    cases j with
    | succ m =>
      have i2 : (m : Int) < l.length := by omega
      have e0 : ((m + 1 : Nat) : Int) - 1 = (m : Int) := by omega
      rw [e0]
      have hs := inv_drop l m (by omega)
      have HS := Lib.hid hs
      have ll : (Wd.inv (l.drop (m + 1))).length < 1000000000 := by rw [Wd.inv_length]; simp; omega
      clear hs e0
      go_wp2_with (first
        | (go_at_call 43; refine (iOther_any (atb l m) _).mono ?_; rintro e w' ⟨rfl, rfl⟩)
        | (at_builtin; refine wpList_pushByte rfl (.tmp 13) (.tmp 18) 22 rfl w.heap.size 5 Try.underlying22 info_u8 _ _ (Wd.oth (atb l m)) _ rfl rfl hown hbel (Nat.le_refl _) rfl ll ?_))
      intro v' w' hO hB
      go_wp2
      go_roundw
      case rel => exact ⟨m, by omega, by first | rfl | go_num, by rw [HS.out]; exact hO, hB⟩
      case measure => first | (simp [intOf]; done) | (simp [intOf]; omega)
    | zero =>
      have e0 : ((0 : Nat) : Int) - 1 = -1 := by omega
      rw [e0]
      clear e0
      go_wp2_with (refine wpList_str rfl (.tmp 20) 22 9 rfl w.heap.size 5 Try.underlying22 Try.underlying5 Try.underlying9 (Wd.inv l) hown ?_)
      go_ret
      exact ⟨rfl, hbel⟩

end Go.Proofs.Ytejmbbnhdojcbaa
