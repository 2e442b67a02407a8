/- FnConjugates: the plain law: the least rotation belongs to the circle, not to its beginning; roots. Conditions: none. -/
import Derived.Test.YtejmbbnhdojcbaaClaw
namespace Go.Proofs.Ytejmbbnhdojcbaa
set_option linter.unusedVariables false

/-- The order of words of one length. -/
def Lt (u l : List UInt8) : Prop := ∃ k, k < u.length ∧ (∀ j, j < k → atb u j = atb l j) ∧ lno (atb u k) < lno (atb l k)
theorem diff_ex (u l : List UInt8) (hu : u.length ≤ 900) : diffAt u l ≤ u.length ∧ (∀ j, j < diffAt u l → atb u j = atb l j) ∧ (diffAt u l = u.length ∨ atb u (diffAt u l) ≠ atb l (diffAt u l)) := by
  have key : ∃ k, k ≤ u.length ∧ (∀ j, j < k → atb u j = atb l j) ∧ (k = u.length ∨ atb u k ≠ atb l k) := by
    have gen : ∀ n, n ≤ u.length → (∀ j, j < n → atb u j = atb l j) ∨ ∃ k, k < n ∧ (∀ j, j < k → atb u j = atb l j) ∧ atb u k ≠ atb l k := by
      intro n
      induction n with
      | zero => intro _; exact .inl fun j hj => by omega
      | succ n ih =>
        intro hn
        rcases ih (by omega) with h | ⟨k, hk, h1, h2⟩
        · by_cases e : atb u n = atb l n
          · refine .inl fun j hj => ?_
            by_cases ej : j = n
            · rw [ej]; exact e
            · exact h j (by omega)
          · exact .inr ⟨n, by omega, h, e⟩
        · exact .inr ⟨k, by omega, h1, h2⟩
    rcases gen u.length (Nat.le_refl _) with h | ⟨k, hk, h1, h2⟩
    · exact ⟨u.length, Nat.le_refl _, h, .inl rfl⟩
    · exact ⟨k, by omega, h1, .inr h2⟩
  obtain ⟨k, h1, h2, h3⟩ := key
  rw [diffAt_of h1 hu h2 h3]
  exact ⟨h1, h2, h3⟩
theorem cmp_lt {u l : List UInt8} (hl : u.length = l.length) (hu : u.length ≤ 900) : cmpL u l < 0 ↔ Lt u l := by
  obtain ⟨h1, h2, h3⟩ := diff_ex u l hu
  unfold cmpL
  rw [if_pos hl]
  constructor
  · intro h
    by_cases e : diffAt u l = u.length
    · rw [if_pos e] at h; omega
    · rw [if_neg e] at h
      refine ⟨diffAt u l, by omega, h2, ?_⟩
      unfold cmpI at h
      split at h
      · assumption
      · split at h <;> omega
  · rintro ⟨k, k1, k2, k3⟩
    have e : diffAt u l = k := diffAt_of (by omega) hu k2 (.inr fun e => by rw [e] at k3; omega)
    rw [e, if_neg (by omega)]
    unfold cmpI
    rw [if_pos k3]; omega
theorem Lt.irr {u : List UInt8} (h : Lt u u) : False := by obtain ⟨k, _, _, h⟩ := h; omega
theorem Lt.trans {a b c : List UInt8} (hl : a.length = b.length) (h : Lt a b) (h' : Lt b c) : Lt a c := by
  obtain ⟨k, h1, h2, h3⟩ := h
  obtain ⟨q, k1, k2, k3⟩ := h'
  rcases Nat.lt_trichotomy k q with hk | hk | hk
  · exact ⟨k, h1, fun j hj => (h2 j hj).trans (k2 j (by omega)), by rw [← k2 k hk]; exact h3⟩
  · subst hk
    exact ⟨k, h1, fun j hj => (h2 j hj).trans (k2 j hj), by omega⟩
  · exact ⟨q, by omega, fun j hj => (h2 j (by omega)).trans (k2 j hj), by rw [h2 q hk]; exact k3⟩
theorem lt_eq {u l : List UInt8} (hl : u.length = l.length) (hu : u.length ≤ 900) (hU : ∀ x ∈ u, Wd.isL x = true) (hL : ∀ x ∈ l, Wd.isL x = true) (h1 : ¬ Lt u l) (h2 : ¬ Lt l u) : u = l := by
  obtain ⟨k1, k2, k3⟩ := diff_ex u l hu
  rcases k3 with e | e
  · exact atb_ext hl fun i hi => k2 i (by omega)
  · by_cases hk : diffAt u l < u.length
    · exfalso
      have l1 := vld_at hU hk
      have l2 := vld_at hL (k := diffAt u l) (by omega)
      rcases Int.lt_trichotomy (lno (atb u (diffAt u l))) (lno (atb l (diffAt u l))) with h | h | h
      · exact h1 ⟨_, hk, k2, h⟩
      · exact e (lno_inj l1 l2 h)
      · exact h2 ⟨_, by omega, fun j hj => (k2 j hj).symm, h⟩
    · exact atb_ext hl fun i hi => k2 i (by omega)
theorem rot_is (c : List UInt8) (i : Nat) : IsRot c (rot c i) := ⟨c.take i, c.drop i, (List.take_append_drop i c).symm, rfl⟩
theorem least_is (c : List UInt8) : ∀ k, IsRot c (least c k)
  | 0 => IsRot.refl c
  | k + 1 => by
    unfold least
    split
    · exact rot_is c k
    · exact least_is c k
theorem least_min (c : List UInt8) (hc : c.length ≤ 900) : ∀ k i, i < k → ¬ Lt (rot c i) (least c k)
  | 0, i, h => by omega
  | k + 1, i, h => by
    have hl := least_len c k
    have hr := rot_len c
    unfold least
    by_cases e : cmpL (rot c k) (least c k) < 0
    · rw [if_pos e]
      rw [cmp_lt (by rw [hr, hl]) (by rw [hr]; exact hc)] at e
      by_cases ei : i = k
      · rw [ei]; exact Lt.irr
      · exact fun hlt => least_min c hc k i (by omega) (Lt.trans (by rw [hr, hr]) hlt e)
    · rw [if_neg e]
      rw [cmp_lt (by rw [hr, hl]) (by rw [hr]; exact hc)] at e
      by_cases ei : i = k
      · rw [ei]; exact e
      · exact least_min c hc k i (by omega)
theorem isRot_rot {c c' : List UInt8} (h : IsRot c c') : c = [] ∧ c' = [] ∨ ∃ i, i < c.length ∧ c' = rot c i := by
  obtain ⟨p, q, rfl, rfl⟩ := h
  by_cases hq : q = []
  · subst hq
    by_cases hp : p = []
    · subst hp; exact .inl ⟨rfl, rfl⟩
    · refine .inr ⟨0, ?_, ?_⟩
      · have : p.length ≠ 0 := fun e => hp (List.length_eq_zero_iff.1 e)
        simp; omega
      · simp [rot]
  · refine .inr ⟨p.length, ?_, ?_⟩
    · have : q.length ≠ 0 := fun e => hq (List.length_eq_zero_iff.1 e)
      rw [List.length_append]; omega
    · unfold rot; rw [List.drop_left, List.take_left]
theorem IsRot.len {a b : List UInt8} (h : IsRot a b) : b.length = a.length := by
  obtain ⟨p, q, rfl, rfl⟩ := h
  rw [List.length_append, List.length_append]; omega
theorem IsRot.mem {a b : List UInt8} (h : IsRot a b) {x : UInt8} (hx : x ∈ b) : x ∈ a := by
  obtain ⟨p, q, rfl, rfl⟩ := h
  rw [List.mem_append] at hx ⊢
  exact hx.symm
theorem least_rot {c c' : List UInt8} (h : IsRot c c') (hc : c.length ≤ 900) (hL : ∀ x ∈ c, Wd.isL x = true) : least c c.length = least c' c'.length := by
  have hl := h.len
  have r1 := least_is c c.length
  have r2 := least_is c' c'.length
  have no : ∀ {a b : List UInt8}, IsRot a b → a.length ≤ 900 → ¬ Lt b (least a a.length) := fun {a b} hab ha => by
    rcases isRot_rot hab with ⟨rfl, rfl⟩ | ⟨i, hi, rfl⟩
    · rintro ⟨k, hk, _⟩; simp at hk
    · exact least_min a ha _ i hi
  refine lt_eq (by rw [r1.len, r2.len, hl]) (by rw [r1.len]; exact hc) (fun x hx => hL x (r1.mem hx)) (fun x hx => hL x (h.mem (r2.mem hx))) ?_ ?_
  · exact no (h.symm.trans r1) (by omega)
  · exact no (h.trans r2) hc
theorem least_conj (l v : List UInt8) (hl : l.length + 2 * v.length ≤ 900) (hL : ∀ x ∈ l, Wd.isL x = true) : leastOf l = leastOf (v ++ l ++ Wd.inv v) := by
  unfold leastOf
  exact least_rot (conj_core l v hl) (by have := core_len l; omega) (fun x hx => hL x (Wd.mem_red _ _ (core_mem hx)))
theorem red_core (l : List UInt8) : coreOf (Wd.red l) = coreOf l := by unfold coreOf; rw [Wd.red_red]
theorem leastOf_red (l : List UInt8) : leastOf (Wd.red l) = leastOf l := by unfold leastOf; rw [red_core]

/-! Roots. -/
theorem per_iff {c : List UInt8} {n : Nat} (hn : n ≤ c.length) : per c n = true ↔ c.length % n = 0 ∧ ∀ i, i + n < c.length → atb c (i + n) = atb c i := by
  unfold per
  rw [Bool.and_eq_true, decide_eq_true_eq, beq_iff_eq]
  constructor
  · rintro ⟨h1, h2⟩
    refine ⟨h1, fun i hi => ?_⟩
    have e1 : atb (c.drop n) i = atb c (i + n) := by rw [atb_drop, Nat.add_comm]
    rw [← e1, h2, atb_tk (by omega)]
  · rintro ⟨h1, h2⟩
    refine ⟨h1, atb_ext (by rw [List.length_drop, List.length_take]; omega) fun i hi => ?_⟩
    rw [List.length_drop] at hi
    rw [atb_drop, atb_tk (by omega), Nat.add_comm]
    exact h2 i (by omega)
theorem per_mod {c : List UInt8} {n : Nat} (h0 : 1 ≤ n) (h : ∀ i, i + n < c.length → atb c (i + n) = atb c i) : ∀ i, i < c.length → atb c i = atb c (i % n) := by
  intro i
  induction i using Nat.strongRecOn with
  | ind i ih =>
    intro hi
    by_cases hn : i < n
    · rw [Nat.mod_eq_of_lt hn]
    · have h1 := h (i - n) (by omega)
      rw [show i - n + n = i by omega] at h1
      rw [h1, ih (i - n) (by omega) (by omega), Nat.mod_eq_sub_mod (by omega : n ≤ i)]
theorem root_spec {c : List UInt8} (h1 : 1 ≤ c.length) (hc : c.length ≤ 900) : 1 ≤ rootN c ∧ rootN c ≤ c.length ∧ per c (rootN c) = true ∧ ∀ j, 1 ≤ j → j < rootN c → per c j = false := by
  have key : ∀ n, 1 ≤ n → per c n = true → ∃ k, 1 ≤ k ∧ k ≤ n ∧ per c k = true ∧ ∀ j, 1 ≤ j → j < k → per c j = false := by
    intro n
    induction n using Nat.strongRecOn with
    | ind n ih =>
      intro h1 hp
      by_cases h : ∃ j, 1 ≤ j ∧ j < n ∧ per c j = true
      · obtain ⟨j, hj1, hj2, hj3⟩ := h
        obtain ⟨k, k1, k2, k3, k4⟩ := ih j hj2 hj1 hj3
        exact ⟨k, k1, by omega, k3, k4⟩
      · refine ⟨n, h1, Nat.le_refl _, hp, fun j a b => ?_⟩
        cases hq : per c j
        · rfl
        · exact absurd ⟨j, a, b, hq⟩ h
  obtain ⟨k, k1, k2, k3, k4⟩ := key c.length h1 (per_all h1)
  have e := rootN_of k1 (by omega) k4 k3
  rw [e]
  exact ⟨k1, k2, k3, k4⟩
theorem root_pow {c : List UInt8} (h1 : 1 ≤ c.length) (hc : c.length ≤ 900) : Lib.repeatL (c.take (rootN c)) (c.length / rootN c) = c := by
  obtain ⟨a, b, h, _⟩ := root_spec h1 hc
  unfold per at h
  rw [Bool.and_eq_true, decide_eq_true_eq, beq_iff_eq] at h
  have hq : 1 ≤ c.length / rootN c := Nat.div_pos b a
  have hm := Nat.div_add_mod c.length (rootN c)
  rw [h.1, Nat.add_zero] at hm
  have := rep_of_per (c.length / rootN c - 1) (rootN c) c (by rw [show c.length / rootN c - 1 + 1 = c.length / rootN c by omega, Nat.mul_comm]; exact hm.symm) h.2
  rwa [show c.length / rootN c - 1 + 1 = c.length / rootN c by omega] at this
theorem root_root {c : List UInt8} (h1 : 1 ≤ c.length) (hc : c.length ≤ 900) : rootN (c.take (rootN c)) = rootN c := by
  obtain ⟨a, b, h, hmin⟩ := root_spec h1 hc
  have tl : (c.take (rootN c)).length = rootN c := by rw [List.length_take]; omega
  refine rootN_of a (by omega) (fun j hj1 hj2 => ?_) ?_
  · cases hp : per (c.take (rootN c)) j
    · rfl
    · exfalso
      have hb := hmin j hj1 hj2
      rw [per_iff (by omega)] at hp h
      obtain ⟨p1, p2⟩ := hp
      rw [tl] at p1 p2
      have m1 := per_mod a h.2
      have m2 := per_mod hj1 (c := c.take (rootN c)) (by rw [tl]; exact p2)
      rw [tl] at m2
      have m3 : ∀ i, i < c.length → atb c i = atb c (i % j) := fun i hi => by
        have l1 : i % rootN c < rootN c := Nat.mod_lt _ (by omega)
        have l2 : i % j < j := Nat.mod_lt _ (by omega)
        have := m2 (i % rootN c) l1
        rw [atb_tk l1, atb_tk (by have := Nat.mod_lt (i % rootN c) (show 0 < j by omega); omega), Nat.mod_mod_of_dvd i (Nat.dvd_of_mod_eq_zero p1)] at this
        rw [m1 i hi, this]
      have : per c j = true := by
        rw [per_iff (by omega)]
        refine ⟨Nat.mod_eq_zero_of_dvd (Nat.dvd_trans (Nat.dvd_of_mod_eq_zero p1) (Nat.dvd_of_mod_eq_zero h.1)), fun i hi => ?_⟩
        rw [m3 (i + j) hi, m3 i (by omega), Nat.add_mod_right]
      rw [hb] at this; cases this
  · have := per_all (c := c.take (rootN c)) (by omega)
    rwa [tl] at this
theorem root_core {c : List UInt8} (h1 : 1 ≤ c.length) (hc : c.length ≤ 900) (hok : Wd.Ok c) (hcy : Cy c) : coreOf (c.take (rootN c)) = c.take (rootN c) := by
  obtain ⟨a0, b0, h, _⟩ := root_spec h1 hc
  have tl : (c.take (rootN c)).length = rootN c := by rw [List.length_take]; omega
  have ok : Wd.Ok (c.take (rootN c)) := Wd.ok_append_left (r := c.drop (rootN c)) (by rw [List.take_append_drop]; exact hok)
  have cy : Cy (c.take (rootN c)) := by
    intro a m b e hab
    by_cases hn : rootN c = c.length
    · rw [hn, List.take_length] at e
      exact hcy a m b e hab
    · rw [per_iff b0] at h
      have hd : c = (a :: m ++ [b]) ++ c.drop (rootN c) := by
        have := (List.take_append_drop (rootN c) c).symm
        rw [e] at this; simpa using this
      obtain ⟨a', t, ht⟩ : ∃ a' t, c.drop (rootN c) = a' :: t := by
        cases hx : c.drop (rootN c) with
        | nil =>
          have := congrArg List.length hx
          rw [List.length_drop] at this
          simp at this; omega
        | cons a' t => exact ⟨a', t, rfl⟩
      have ha : a' = a := by
        have e1 : atb (c.drop (rootN c)) 0 = a' := by rw [ht]; rfl
        rw [atb_drop] at e1
        have e2 := h.2 0 (by omega)
        rw [Nat.zero_add, Nat.add_zero] at *
        have e3 : atb (c.take (rootN c)) 0 = a := by rw [e]; rfl
        rw [atb_tk (by omega)] at e3
        rw [← e1, e2, e3]
      rw [hd, ht, ha] at hok
      have := Wd.ok_append_right (l := a :: m) (r := b :: a :: t) (by simpa using hok)
      exact this.1 hab
  have hr : Wd.red (c.take (rootN c)) = [] ++ c.take (rootN c) ++ Wd.inv [] := by
    rw [List.nil_append, show Wd.inv [] = [] from rfl, List.append_nil]; exact Wd.red_of_ok ok
  exact (core_of hr (by omega) cy).1
theorem sm_inv (l : List UInt8) (j : Nat) : (∀ x ∈ l, Wd.isL x = true) → sm (Wd.inv l) j = - sm l j := by
  induction l with
  | nil => intro _; rfl
  | cons c l ih =>
    intro h
    rw [inv_cons, sm_append, sm_one, ih (fun x hx => h x (by simp [hx])), con_oth c (h c (by simp))]
    have : sm (c :: l) j = con c j + sm l j := by simp [sm]
    omega
theorem nth_ext {a b : List Int} (n : Nat) (ha : a.length = n) (hb : b.length = n) (h : ∀ j, j < n → nth a j = nth b j) : a = b := by
  apply List.ext_getElem (by omega)
  intro j h1 h2
  have := h j (by omega)
  simpa [nth, h1, h2] using this
theorem sum_conj (l v : List UInt8) (hl : ∀ x ∈ l, Wd.isL x = true) (hv : ∀ x ∈ v, Wd.isL x = true) : sumTo (Wd.red (v ++ l ++ Wd.inv v)) (Wd.red (v ++ l ++ Wd.inv v)).length = sumTo l l.length := by
  have ha : ∀ x ∈ v ++ l ++ Wd.inv v, Wd.isL x = true := fun x hx => by
    rcases List.mem_append.1 hx with hx | hx
    · exact (List.mem_append.1 hx).elim (hv x) (hl x)
    · exact Wd.all_inv hv x hx
  refine nth_ext 4 (sumTo_len _ _) (sumTo_len _ _) fun j hj => ?_
  rw [sumTo_sm _ (Wd.all_red ha) j hj, sumTo_sm _ hl j hj, sm_red _ _ ha, sm_append, sm_append, sm_inv v j hv]
  omega
end Go.Proofs.Ytejmbbnhdojcbaa
