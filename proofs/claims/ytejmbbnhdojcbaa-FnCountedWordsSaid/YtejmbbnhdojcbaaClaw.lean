/- FnConjugates: the plain law: cores, rotations, the least of them, roots. Conditions: none. -/
import Derived.Test.YtejmbbnhdojcbaaRoot
import Derived.Test.YtejmbbnhdojcbaaRot
import Derived.Test.YtejmbbnhdojcbaaCyc
import Derived.Test.YtejmbbnhdojcbaaIlaw
namespace Go.Proofs.Ytejmbbnhdojcbaa
set_option linter.unusedVariables false

theorem atb_left {a b : List UInt8} {i : Nat} (h : i < a.length) : atb (a ++ b) i = atb a i := by
  unfold atb
  rw [List.getD_eq_getElem?_getD, List.getD_eq_getElem?_getD, List.getElem?_append_left h]
theorem atb_right {a b : List UInt8} {i : Nat} (h : a.length ≤ i) : atb (a ++ b) i = atb b (i - a.length) := by
  unfold atb
  rw [List.getD_eq_getElem?_getD, List.getD_eq_getElem?_getD, List.getElem?_append_right h]
theorem atb_drop {a : List UInt8} {n i : Nat} : atb (a.drop n) i = atb a (n + i) := by
  unfold atb
  rw [List.getD_eq_getElem?_getD, List.getD_eq_getElem?_getD, List.getElem?_drop]
theorem atb_tk {a : List UInt8} {n i : Nat} (h : i < n) : atb (a.take n) i = atb a i := by
  unfold atb
  rw [List.getD_eq_getElem?_getD, List.getD_eq_getElem?_getD, List.getElem?_take, if_pos h]
theorem atb_ext {a b : List UInt8} (hl : a.length = b.length) (h : ∀ i, i < a.length → atb a i = atb b i) : a = b := by
  apply List.ext_getElem hl
  intro i h1 h2
  have := h i h1
  rwa [atb_eq h1, atb_eq h2] at this
theorem inv_cons (x : UInt8) (f : List UInt8) : Wd.inv (x :: f) = Wd.inv f ++ [Wd.oth x] := by simp [Wd.inv]
theorem inv_at (f : List UInt8) (i : Nat) (h : i < f.length) : atb (Wd.inv f) i = Wd.oth (atb f (f.length - 1 - i)) := by
  rw [atb_eq (by rw [Wd.inv_length]; exact h), atb_eq (by omega)]
  simp [Wd.inv]

/-- A word that does not begin with the inverse of its end. -/
def Cy (c : List UInt8) : Prop := ∀ a m b, c = a :: (m ++ [b]) → a ≠ Wd.oth b
theorem front_spec (v : List UInt8) (hv : v.length ≤ 900) : 2 * front v ≤ v.length ∧ (∀ j, j < front v → facing v j = true) ∧ facing v (front v) = false := by
  have h := cnt_spec (p := facing v) ⟨v.length, by omega, by unfold facing; simp; omega⟩
  refine ⟨?_, h.1, h.2⟩
  by_cases h0 : front v = 0
  · omega
  · have := h.1 (front v - 1) (show _ < front v by omega)
    unfold facing at this
    simp at this
    omega
def mid (v : List UInt8) : List UInt8 := (v.take (v.length - front v)).drop (front v)
theorem mid_len (v : List UInt8) (hv : v.length ≤ 900) : (mid v).length = v.length - 2 * front v := by
  have := (front_spec v hv).1
  unfold mid
  rw [List.length_drop, List.length_take]; omega
theorem mid_at (v : List UInt8) (i : Nat) (h : i < v.length - 2 * front v) : atb (mid v) i = atb v (front v + i) := by
  unfold mid
  rw [atb_drop, atb_tk (by omega)]
theorem core_dec (v : List UInt8) (hv : v.length ≤ 900) : v = v.take (front v) ++ mid v ++ Wd.inv (v.take (front v)) ∧ Cy (mid v) := by
  obtain ⟨h1, h2, h3⟩ := front_spec v hv
  have hl := mid_len v hv
  have tl : (v.take (front v)).length = front v := by rw [List.length_take]; omega
  constructor
  · refine atb_ext (by rw [List.length_append, List.length_append, Wd.inv_length, tl, hl]; omega) fun i hi => ?_
    by_cases c1 : i < front v
    · rw [atb_left (by rw [List.length_append]; omega), atb_left (by omega), atb_tk c1]
    · by_cases c2 : i < v.length - front v
      · rw [atb_left (by rw [List.length_append]; omega), atb_right (by omega), tl, mid_at v _ (by omega), show front v + (i - front v) = i by omega]
      · rw [atb_right (by rw [List.length_append]; omega), List.length_append, tl, hl, inv_at _ _ (by omega), tl, atb_tk (by omega)]
        have hf := h2 (front v - 1 - (i - (front v + (v.length - 2 * front v)))) (by omega)
        unfold facing at hf
        rw [Bool.and_eq_true, beq_iff_eq] at hf
        rw [hf.2, Wd.oth_oth]
        congr 1; omega
  · intro a m b e hab
    have l2 : (mid v).length = m.length + 2 := by rw [e]; simp
    have ea : a = atb v (front v) := by
      have := mid_at v 0 (by omega)
      rw [e] at this
      simpa [atb] using this
    have eb : b = atb v (v.length - 1 - front v) := by
      have := mid_at v (m.length + 1) (by omega)
      rw [e, show front v + (m.length + 1) = v.length - 1 - front v by omega] at this
      rw [← this]
      simp [atb]
    unfold facing at h3
    rw [← ea, ← eb, hab] at h3
    simp at h3
    omega
theorem core_uniq (f c : List UInt8) (hl : (f ++ c ++ Wd.inv f).length ≤ 900) (hcy : Cy c) : front (f ++ c ++ Wd.inv f) = f.length := by
  have le : (f ++ c ++ Wd.inv f).length = 2 * f.length + c.length := by rw [List.length_append, List.length_append, Wd.inv_length]; omega
  refine cnt_of 1000 0 f.length (Nat.zero_le _) (by omega) (fun j _ hj => ?_) ?_
  · unfold facing
    rw [le, Bool.and_eq_true, decide_eq_true_eq, beq_iff_eq]
    refine ⟨by omega, ?_⟩
    rw [atb_left (by rw [List.length_append]; omega), atb_left hj, atb_right (by rw [List.length_append]; omega), List.length_append, inv_at _ _ (by omega), Wd.oth_oth]
    congr 1; omega
  · unfold facing
    rw [le]
    by_cases h2 : 2 ≤ c.length
    · rw [atb_left (by rw [List.length_append]; omega), atb_right (Nat.le_refl _), atb_left (by rw [List.length_append]; omega), atb_right (by omega)]
      obtain ⟨a, t, rfl⟩ : ∃ a t, c = a :: t := by
        cases c with
        | nil => simp at h2
        | cons a t => exact ⟨a, t, rfl⟩
      obtain ⟨m, b, rfl⟩ : ∃ m b, t = m ++ [b] := by
        have ht : t ≠ [] := by intro e; subst e; simp at h2
        exact ⟨t.dropLast, t.getLast ht, (List.dropLast_concat_getLast ht).symm⟩
      have := hcy a m b rfl
      have e1 : atb (a :: (m ++ [b])) (f.length - f.length) = a := by simp [atb]
      have e2 : atb (a :: (m ++ [b])) (2 * f.length + (a :: (m ++ [b])).length - 1 - f.length - f.length) = b := by
        rw [show 2 * f.length + (a :: (m ++ [b])).length - 1 - f.length - f.length = m.length + 1 by simp; omega]
        simp [atb]
      rw [e1, e2]
      simp [this]
    · have : decide (2 ≤ ((2 * f.length + c.length : Nat) : Int) - 2 * (f.length : Int)) = false := by rw [decide_eq_false_iff_not]; omega
      rw [this]; rfl
theorem core_of {l f c : List UInt8} (h : Wd.red l = f ++ c ++ Wd.inv f) (hl : l.length ≤ 900) (hcy : Cy c) : coreOf l = c ∧ frontOf l = f := by
  have h1 := (Wd.red_length l).1
  have hu := core_uniq f c (by rw [← h]; omega) hcy
  unfold coreOf frontOf
  rw [h, hu]
  have le : (f ++ c ++ Wd.inv f).length = 2 * f.length + c.length := by rw [List.length_append, List.length_append, Wd.inv_length]; omega
  constructor
  · rw [le, show 2 * f.length + c.length - f.length = (f ++ c).length by rw [List.length_append]; omega, List.take_left, List.drop_left]
  · rw [List.append_assoc, List.take_left]
theorem core_self (l : List UInt8) (hl : l.length ≤ 900) : Wd.red l = frontOf l ++ coreOf l ++ Wd.inv (frontOf l) ∧ Cy (coreOf l) :=
  core_dec (Wd.red l) (by have := (Wd.red_length l).1; omega)

/-- One word is the other, turned. -/
def IsRot (c c' : List UInt8) : Prop := ∃ p q, c = p ++ q ∧ c' = q ++ p
theorem IsRot.refl (c : List UInt8) : IsRot c c := ⟨[], c, rfl, by simp⟩
theorem IsRot.symm {a b : List UInt8} (h : IsRot a b) : IsRot b a := by obtain ⟨p, q, h1, h2⟩ := h; exact ⟨q, p, h2, h1⟩
theorem IsRot.trans {a b c : List UInt8} (h : IsRot a b) (h' : IsRot b c) : IsRot a c := by
  obtain ⟨p, q, rfl, rfl⟩ := h
  obtain ⟨p', q', h1, rfl⟩ := h'
  rcases List.append_eq_append_iff.1 h1 with ⟨s, rfl, rfl⟩ | ⟨s, rfl, rfl⟩
  · exact ⟨s, q' ++ q, by simp, by simp⟩
  · exact ⟨p ++ p', s, by simp, by simp⟩
theorem ok_cons {x : UInt8} {l : List UInt8} (h : Wd.Ok l) (hx : ∀ a t, l = a :: t → a ≠ Wd.oth x) : Wd.Ok (x :: l) := by
  cases l with
  | nil => trivial
  | cons a t => exact ⟨hx a t rfl, h⟩
theorem ok_snoc {l : List UInt8} {c : UInt8} (h : Wd.Ok l) (hc : ∀ m b, l = m ++ [b] → c ≠ Wd.oth b) : Wd.Ok (l ++ [c]) := by
  refine Wd.ok_append_single h fun e => ?_
  obtain ⟨m, hm⟩ := List.getLast?_eq_some_iff.1 e
  exact hc m _ hm (by rw [Wd.oth_oth])
theorem conj_one (x : UInt8) (f c : List UInt8) (hok : Wd.Ok (f ++ c ++ Wd.inv f)) (hcy : Cy c) : ∃ f' c', Wd.red ([x] ++ (f ++ c ++ Wd.inv f) ++ [Wd.oth x]) = f' ++ c' ++ Wd.inv f' ∧ Cy c' ∧ IsRot c c' := by
  cases f with
  | cons a f1 =>
    by_cases ha : a = Wd.oth x
    · subst ha
      refine ⟨f1, c, ?_, hcy, IsRot.refl c⟩
      have e : [x] ++ (Wd.oth x :: f1 ++ c ++ Wd.inv (Wd.oth x :: f1)) ++ [Wd.oth x] = ([x] ++ Wd.inv [x]) ++ ((f1 ++ c ++ Wd.inv f1) ++ ([x] ++ Wd.inv [x])) := by
        rw [inv_cons, Wd.oth_oth]; simp [Wd.inv]
      have hm : Wd.Ok (f1 ++ c ++ Wd.inv f1) := by
        rw [inv_cons] at hok
        have : Wd.Ok ([Wd.oth x] ++ ((f1 ++ c ++ Wd.inv f1) ++ [Wd.oth (Wd.oth x)])) := by simpa using hok
        exact Wd.ok_append_left (Wd.ok_append_right this)
      rw [e, ← Wd.red_append_left, Wd.red_inv_right, List.nil_append, ← Wd.red_append_right, Wd.red_inv_right, List.append_nil]
      exact Wd.red_of_ok hm
    · refine ⟨x :: a :: f1, c, ?_, hcy, IsRot.refl c⟩
      have e : x :: a :: f1 ++ c ++ Wd.inv (x :: a :: f1) = [x] ++ (a :: f1 ++ c ++ Wd.inv (a :: f1)) ++ [Wd.oth x] := by
        rw [inv_cons x]; simp
      rw [e]
      refine Wd.red_of_ok ?_
      have h1 : Wd.Ok ((a :: f1 ++ c ++ Wd.inv (a :: f1)) ++ [Wd.oth x]) := by
        refine ok_snoc hok fun m b e hb => ha ?_
        rw [inv_cons, ← List.append_assoc] at e
        have := List.append_inj_right' e rfl
        simp at this
        rw [← this, Wd.oth_oth] at hb
        exact hb.symm
      rw [List.append_assoc]
      refine ok_cons h1 fun a' t e => ?_
      simp at e
      rw [← e.1]; exact ha
  | nil =>
    simp only [List.nil_append, show Wd.inv [] = [] from rfl, List.append_nil] at hok ⊢
    cases c with
    | nil =>
      refine ⟨[], [], ?_, hcy, IsRot.refl _⟩
      exact Wd.red_inv_right [x]
    | cons a t =>
      by_cases ha : a = Wd.oth x
      · subst ha
        refine ⟨[], t ++ [Wd.oth x], ?_, ?_, [Wd.oth x], t, rfl, rfl⟩
        · have e : [x] ++ (Wd.oth x :: t) ++ [Wd.oth x] = ([x] ++ Wd.inv [x]) ++ (t ++ [Wd.oth x]) := by simp [Wd.inv]
          rw [e, ← Wd.red_append_left, Wd.red_inv_right, List.nil_append, show Wd.inv [] = [] from rfl, List.append_nil]
          refine Wd.red_of_ok (ok_snoc hok.tail fun m b e => ?_)
          exact hcy _ m b (by rw [e])
        · intro a' m b e hab
          cases t with
          | nil => simp at e
          | cons a2 t2 =>
            simp at e
            have hb : Wd.oth x = b := e.2.2
            have := hok.1
            rw [e.1, hb] at this
            exact this hab
      · obtain ⟨m, b, hmb⟩ : ∃ m b, a :: t = m ++ [b] := ⟨(a :: t).dropLast, (a :: t).getLast (by simp), (List.dropLast_concat_getLast (by simp)).symm⟩
        by_cases hb : b = x
        · subst hb
          refine ⟨[], b :: m, ?_, ?_, m, [b], hmb, rfl⟩
          · have e : [b] ++ (a :: t) ++ [Wd.oth b] = (b :: m) ++ ([b] ++ Wd.inv [b]) := by rw [hmb]; simp [Wd.inv]
            rw [e, ← Wd.red_append_right, Wd.red_inv_right, List.append_nil, show [] ++ (b :: m) ++ Wd.inv [] = b :: m by simp [Wd.inv]]
            rw [hmb] at hok
            refine Wd.red_of_ok (ok_cons (Wd.ok_append_left hok) fun a' t' e => ?_)
            exact hcy a' t' b (by rw [hmb, e]; rfl)
          · intro a' m' b' e hab
            simp at e
            rw [hmb, e.2] at hok
            have := Wd.ok_append_right (l := m') (r := [b', b]) (by simpa using hok)
            rw [← e.1] at hab
            exact this.1 hab
        · refine ⟨[x], a :: t, ?_, hcy, IsRot.refl _⟩
          have e : [x] ++ (a :: t) ++ Wd.inv [x] = [x] ++ (a :: t) ++ [Wd.oth x] := by simp [Wd.inv]
          rw [e]
          refine Wd.red_of_ok ?_
          have h1 : Wd.Ok ((a :: t) ++ [Wd.oth x]) := by
            refine ok_snoc hok fun m' b' e hb' => hb ?_
            rw [hmb] at e
            have := List.append_inj_right' e rfl
            simp at this
            rw [this]; exact (Wd.oth_inj hb').symm
          rw [List.append_assoc]
          refine ok_cons h1 fun a' t' e => ?_
          simp at e
          rw [← e.1]; exact ha
/-- The core of a word that is turned around another is the core, turned. -/
theorem conj_many (l : List UInt8) (hl : l.length ≤ 900) : ∀ v : List UInt8, ∃ f c, Wd.red (v ++ l ++ Wd.inv v) = f ++ c ++ Wd.inv f ∧ Cy c ∧ IsRot (coreOf l) c
  | [] => ⟨frontOf l, coreOf l, by simpa [Wd.inv] using (core_self l hl).1, (core_self l hl).2, IsRot.refl _⟩
  | x :: v => by
    obtain ⟨f, c, h1, h2, h3⟩ := conj_many l hl v
    have hok := Wd.red_ok (v ++ l ++ Wd.inv v)
    rw [h1] at hok
    obtain ⟨f', c', k1, k2, k3⟩ := conj_one x f c hok h2
    refine ⟨f', c', ?_, k2, h3.trans k3⟩
    rw [← k1, ← h1, red_mid, inv_cons]
    congr 1
    simp
theorem conj_core (l v : List UInt8) (hl : l.length + 2 * v.length ≤ 900) : IsRot (coreOf l) (coreOf (v ++ l ++ Wd.inv v)) := by
  obtain ⟨f, c, h1, h2, h3⟩ := conj_many l (by omega) v
  rw [(core_of h1 (by rw [List.length_append, List.length_append, Wd.inv_length]; omega) h2).1]
  exact h3
end Go.Proofs.Ytejmbbnhdojcbaa
