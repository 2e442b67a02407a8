/- UnpackMask: what is known of the mask while it grows back (plain law). Conditions: none. -/
import Derived.Test.YtbkbjiifklhgiaaUnq
namespace Go.Proofs.Ytbkbjiifklhgiaa
open Go.RowKit
set_option linter.unusedVariables false

def WfM (zs : List Int) : Prop := zs.length = 16 ∧ ∀ z ∈ zs, (Lit.int .u16 z).wf = true
/-- A mask with these bytes. -/
def Good (l : List UInt8) (z0 : List Int) : Prop := WfM z0 ∧ packL z0 = l
/-- At cell a, the sum of the bytes so far being s: of every mask with these bytes, zs has the cells so far. -/
def At (l : List UInt8) (zs : List Int) (a s : Nat) : Prop := ∀ z0, Good l z0 → a = s ∧ zs = upM z0 a
def sT (l : List UInt8) (k : Nat) : Nat := sumU (l.take k)
theorem sT_succ {l : List UInt8} {k : Nat} (h : k < l.length) : sT l (k + 1) = sT l k + (l.getD k 0).toNat := by
  unfold sT
  rw [List.take_succ_eq_append_getElem h, sumU_snoc]
  simp [List.getD, h]
theorem sT_le (l : List UInt8) (k : Nat) : sT l k ≤ sumU l := by
  unfold sT sumU
  have h : ((l.take k).map UInt8.toNat).sum + ((l.drop k).map UInt8.toNat).sum = (l.map UInt8.toNat).sum := by
    rw [← List.sum_append, ← List.map_append, List.take_append_drop]
  omega
theorem sT_all (l : List UInt8) : sT l l.length = sumU l := by unfold sT; rw [List.take_length]
theorem good_sum {l : List UInt8} {z0 : List Int} (h : Good l z0) : sumU l ≤ 256 := by
  have := (packed z0).1; rw [h.2] at this; exact this
theorem good_in {l : List UInt8} {z0 : List Int} (h : Good l z0) {k t : Nat} (hk : k < l.length) (h1 : sT l k ≤ t) (h2 : t < sT l (k + 1)) : hasN z0 t = odd k := by
  have := (packed z0).2.2 k; rw [h.2] at this; exact this hk t h1 h2
theorem good_end {l : List UInt8} {z0 : List Int} (h : Good l z0) {t : Nat} (h1 : sumU l ≤ t) (h2 : t < 256) : hasN z0 t = odd l.length := by
  have := (packed z0).2.1 t; rw [h.2] at this; exact this h1 h2
theorem odd0 {k : Nat} (h : k % 2 = 0) : odd k = false := by unfold odd; rw [h]; rfl
theorem odd1 {k : Nat} (h : k % 2 = 1) : odd k = true := by unfold odd; rw [h]; rfl

theorem wf_wrapU (e : Int) : (Lit.int .u16 (IntKind.u16.wrap e)).wf = true := by
  simp [Lit.wf, IntKind.wrap, IntKind.min, IntKind.max, IntKind.signed, IntKind.bits]; omega
theorem wfM_zero : WfM zs0 := ⟨rfl, by decide⟩
theorem wfM_put {zs : List Int} (h : WfM zs) (t : Nat) : WfM (put zs t) := by
  refine ⟨by rw [← h.1]; unfold put; simp, fun z hz => ?_⟩
  unfold put at hz
  rcases List.mem_or_eq_of_mem_set hz with hz | rfl
  · exact h.2 z hz
  · unfold bits
    exact wf_wrapU _
theorem At.zero (l : List UInt8) : At l zs0 0 0 := fun z0 _ => ⟨rfl, rfl⟩
theorem At.skip {l : List UInt8} {zs : List Int} {a s : Nat} (h : At l zs a s) (hb : ∀ z0, Good l z0 → hasN z0 s = false) : At l zs (a + 1) (s + 1) := fun z0 hg => by
  obtain ⟨h1, h2⟩ := h z0 hg
  subst h1
  refine ⟨rfl, ?_⟩
  show zs = (if hasN z0 a then put (upM z0 a) a else upM z0 a)
  rw [hb z0 hg, if_neg (by simp)]; exact h2
theorem At.put {l : List UInt8} {zs : List Int} {a s : Nat} (h : At l zs a s) (hb : ∀ z0, Good l z0 → hasN z0 s = true) : At l (put zs a) (a + 1) (s + 1) := fun z0 hg => by
  obtain ⟨h1, h2⟩ := h z0 hg
  subst h1
  refine ⟨rfl, ?_⟩
  show Go.Proofs.Ytbkbjiifklhgiaa.put zs a = (if hasN z0 a then Go.Proofs.Ytbkbjiifklhgiaa.put (upM z0 a) a else upM z0 a)
  rw [hb z0 hg, if_pos rfl, ← h2]
/-- Cells that are not set, up to the last one. -/
theorem upM_rest {z0 : List Int} {a : Nat} (h : ∀ t, a ≤ t → t < 256 → hasN z0 t = false) : ∀ n, a + n ≤ 256 → upM z0 (a + n) = upM z0 a
  | 0, _ => rfl
  | n + 1, hn => by
    show (if hasN z0 (a + n) then put (upM z0 (a + n)) (a + n) else upM z0 (a + n)) = _
    rw [h _ (by omega) (by omega), if_neg (by simp)]
    exact upM_rest h n (by omega)
/-- What a finished mask is. -/
def Fin (l : List UInt8) (zs : List Int) : Prop := ∀ z0, Good l z0 → zs = z0
theorem fin_all {l : List UInt8} {zs : List Int} {s : Nat} (h : At l zs 256 s) : Fin l zs := fun z0 hg => by
  rw [(h z0 hg).2]; exact upM_all z0 hg.1.1 hg.1.2
theorem fin_even {l : List UInt8} {zs : List Int} {a s : Nat} (h : At l zs a s) (hs : sumU l ≤ s) (ha : a ≤ 256) (he : l.length % 2 = 0) : Fin l zs := fun z0 hg => by
  obtain ⟨h1, h2⟩ := h z0 hg
  have h3 := upM_rest (z0 := z0) (a := a) (fun t h3 h4 => by rw [good_end hg (by omega) h4]; exact odd0 he) (256 - a) (by omega)
  rw [h2, ← h3, show a + (256 - a) = 256 by omega]
  exact upM_all z0 hg.1.1 hg.1.2
theorem up_same {l : List UInt8} {z0 z1 : List Int} (h0 : Good l z0) (h1 : Good l z1) : z0 = z1 := by
  have key : ∀ k, k ≤ l.length → ∀ t, t < sT l k → hasN z0 t = hasN z1 t := by
    intro k
    induction k with
    | zero => intro _ t ht; simp [sT, sumU] at ht
    | succ k ih =>
      intro hk t ht
      by_cases hlt : t < sT l k
      · exact ih (by omega) t hlt
      · rw [good_in h0 (by omega) (by omega) ht, good_in h1 (by omega) (by omega) ht]
  have all : ∀ t, t < 256 → hasN z0 t = hasN z1 t := fun t ht => by
    by_cases hlt : t < sumU l
    · exact key l.length (Nat.le_refl _) t (by rw [sT_all]; exact hlt)
    · rw [good_end h0 (by omega) ht, good_end h1 (by omega) ht]
  have up : ∀ n, n ≤ 256 → upM z0 n = upM z1 n := by
    intro n
    induction n with
    | zero => intro _; rfl
    | succ n ih =>
      intro hn
      show (if hasN z0 n then put (upM z0 n) n else upM z0 n) = (if hasN z1 n then put (upM z1 n) n else upM z1 n)
      rw [all n (by omega), ih (by omega)]
  have := up 256 (Nat.le_refl _)
  rwa [upM_all z0 h0.1.1 h0.1.2, upM_all z1 h1.1.1 h1.1.2] at this
/-- What UnpackMask answers. -/
def Res (l : List UInt8) (zs : List Int) (c : Int) : Prop := (c = 0 ∧ Good l zs) ∨ (c = 5 ∧ zs = zs0 ∧ ∀ z0, ¬ Good l z0)
theorem res_one {l : List UInt8} {zs zs' : List Int} {c c' : Int} (h : Res l zs c) (h' : Res l zs' c') : zs = zs' ∧ c = c' := by
  rcases h with ⟨h1, h2⟩ | ⟨h1, h2, h3⟩ <;> rcases h' with ⟨h1', h2'⟩ | ⟨h1', h2', h3'⟩
  · exact ⟨up_same h2 h2', by omega⟩
  · exact absurd h2 (h3' zs)
  · exact absurd h2' (h3 zs')
  · exact ⟨by rw [h2, h2'], by omega⟩
theorem res_len {l : List UInt8} {zs : List Int} {c : Int} (h : Res l zs c) : zs.length = 16 := by
  rcases h with ⟨_, h2⟩ | ⟨_, h2, _⟩
  · exact h2.1.1
  · rw [h2]; rfl
/-- The end of both: the mask is packed, and its bytes are held against the given ones. -/
theorem res_yes {l : List UInt8} {zs : List Int} (hw : WfM zs) (h : packL zs = l) : Res l zs 0 := .inl ⟨rfl, hw, h⟩
theorem res_no {l : List UInt8} {zs : List Int} (hf : Fin l zs) (h : packL zs ≠ l) : Res l zs0 5 := .inr ⟨rfl, rfl, fun z0 hg => h (by rw [hf z0 hg]; exact hg.2)⟩
theorem res_over {l : List UInt8} {zs : List Int} {k j d : Nat} (h : At l zs 256 (sT l k + j)) (hk : k < l.length) (hd : (l.getD k 0).toNat = d) (hj : j < d) : Res l zs0 5 := .inr ⟨rfl, rfl, fun z0 hg => by
  have h1 := (h z0 hg).1
  have h2 := sT_succ hk
  have h3 := sT_le l (k + 1)
  have h4 := good_sum hg
  omega⟩
end Go.Proofs.Ytbkbjiifklhgiaa
