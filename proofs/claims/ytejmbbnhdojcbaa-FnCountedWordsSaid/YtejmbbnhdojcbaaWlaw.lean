/- FnWords: the plain law: what is joined with its inverse is nothing, joining is put together as one likes, powers are joined, sums are added. Conditions: none. -/
import Derived.Test.YtejmbbnhdojcbaaPow
import Derived.Test.YtejmbbnhdojcbaaSum
namespace Go.Proofs.Ytejmbbnhdojcbaa
set_option linter.unusedVariables false

/-- What a letter adds to the sum with number j. -/
def con (c : UInt8) (j : Nat) : Int := if lnoN c / 2 = j then 1 - 2 * ((lnoN c % 2 : Nat) : Int) else 0
def sm (l : List UInt8) (j : Nat) : Int := (l.map fun c => con c j).sum
theorem sm_append (a b : List UInt8) (j : Nat) : sm (a ++ b) j = sm a j + sm b j := by simp [sm]
theorem sm_one (c : UInt8) (j : Nat) : sm [c] j = con c j := by simp [sm]
theorem oth_no (c : UInt8) (h : Wd.isL c = true) : lnoN (Wd.oth c) / 2 = lnoN c / 2 ∧ lnoN (Wd.oth c) % 2 = 1 - lnoN c % 2 := by
  have := Wd.allU8 (p := fun c => !Wd.isL c || (decide (lnoN (Wd.oth c) / 2 = lnoN c / 2) && decide (lnoN (Wd.oth c) % 2 = 1 - lnoN c % 2))) (by decide +kernel) c
  simp only [h, Bool.not_true, Bool.false_or, Bool.and_eq_true, decide_eq_true_eq] at this
  exact this
theorem con_oth (c : UInt8) (h : Wd.isL c = true) (j : Nat) : con (Wd.oth c) j = - con c j := by
  obtain ⟨h1, h2⟩ := oth_no c h
  unfold con
  rw [h1, h2]
  have : lnoN c % 2 < 2 := Nat.mod_lt _ (by omega)
  split
  · omega
  · rfl
theorem sm_step {l : List UInt8} {c : UInt8} (hl : ∀ x ∈ l, Wd.isL x = true) (hc : Wd.isL c = true) (j : Nat) : sm (Wd.step l c) j = sm l j + con c j := by
  unfold Wd.step
  split
  · rename_i h
    obtain ⟨q, hq⟩ := List.getLast?_eq_some_iff.1 h
    subst hq
    rw [List.dropLast_concat, sm_append, sm_one, con_oth c hc]; omega
  · rw [sm_append, sm_one]
theorem sm_red (l : List UInt8) (j : Nat) : (∀ x ∈ l, Wd.isL x = true) → sm (Wd.red l) j = sm l j := by
  refine Wd.snocInd (P := fun l => (∀ x ∈ l, Wd.isL x = true) → sm (Wd.red l) j = sm l j) (fun _ => rfl) (fun l c ih h => ?_) l
  have hl : ∀ x ∈ l, Wd.isL x = true := fun x hx => h x (by simp [hx])
  rw [Wd.red_snoc, sm_step (Wd.all_red hl) (h c (by simp)), ih hl, sm_append, sm_one]
theorem sumTo_sm (l : List UInt8) (h : ∀ x ∈ l, Wd.isL x = true) (j : Nat) (hj : j < 4) : nth (sumTo l l.length) j = sm l j := by
  have key : ∀ k, k ≤ l.length → nth (sumTo l k) j = sm (l.take k) j := by
    intro k
    induction k with
    | zero =>
      intro _
      have e : sumTo l 0 = [0, 0, 0, 0] := rfl
      rw [e]
      match j, hj with
      | 0, _ => rfl
      | 1, _ => rfl
      | 2, _ => rfl
      | 3, _ => rfl
    | succ k ih =>
      intro hk
      have hL := vld_at h (k := k) (by omega)
      have h8 := (letter_at _ hL).1
      rw [sumTo_succ l k (by omega), take_atb (by omega), sm_append, sm_one]
      unfold addAt
      rw [nth_set _ _ _ _ (by rw [sumTo_len]; omega), ih (by omega)]
      unfold con
      by_cases e : j = lnoN (atb l k) / 2
      · rw [if_pos e, if_pos e.symm, ← e, ih (by omega)]
      · rw [if_neg e, if_neg (fun h => e h.symm)]; omega
  have := key l.length (Nat.le_refl _)
  rwa [List.take_length] at this

/-- Powers are joined. -/
theorem pow_join (u : List UInt8) (n m : Int) (hn : 0 ≤ n) (hn2 : n ≤ 2) (hm : -1 ≤ m) (hm1 : m ≤ 1) :
    Wd.red (Wd.red (powLetters u n) ++ Wd.red (powLetters u m)) = Wd.red (powLetters u (n + m)) := by
  rw [← Wd.red_append]
  have p0 : powLetters u 0 = [] := rfl
  have p1 : powLetters u 1 = u := by show Lib.repeatL u 1 = u; exact Lib.repeatL_one u
  have pm : powLetters u (-1) = Wd.inv u := by show Lib.repeatL (Wd.inv u) 1 = _; exact Lib.repeatL_one _
  have p2 : powLetters u 2 = u ++ u := by show Lib.repeatL u (1 + 1) = _; rw [rep_snoc, Lib.repeatL_one]
  have p3 : powLetters u 3 = u ++ u ++ u := by show Lib.repeatL u (2 + 1) = _; rw [rep_snoc]; show Lib.repeatL u (1 + 1) ++ u = _; rw [rep_snoc, Lib.repeatL_one]
  have hn' : n = 0 ∨ n = 1 ∨ n = 2 := by omega
  have hm' : m = -1 ∨ m = 0 ∨ m = 1 := by omega
  rcases hn' with rfl | rfl | rfl <;> rcases hm' with rfl | rfl | rfl
  · rw [p0]; rfl
  · rfl
  · rw [p0]; rfl
  · show Wd.red (powLetters u 1 ++ powLetters u (-1)) = Wd.red (powLetters u 0)
    rw [p1, pm, p0, Wd.red_inv_right]; rfl
  · show Wd.red (powLetters u 1 ++ powLetters u 0) = Wd.red (powLetters u 1)
    rw [p0, List.append_nil]
  · show Wd.red (powLetters u 1 ++ powLetters u 1) = Wd.red (powLetters u 2)
    rw [p1, p2]
  · show Wd.red (powLetters u 2 ++ powLetters u (-1)) = Wd.red (powLetters u 1)
    rw [p1, pm, p2, List.append_assoc, ← Wd.red_append_right, Wd.red_inv_right, List.append_nil]
  · show Wd.red (powLetters u 2 ++ powLetters u 0) = Wd.red (powLetters u 2)
    rw [p0, List.append_nil]
  · show Wd.red (powLetters u 2 ++ powLetters u 1) = Wd.red (powLetters u 3)
    rw [p1, p2, p3]
end Go.Proofs.Ytejmbbnhdojcbaa
