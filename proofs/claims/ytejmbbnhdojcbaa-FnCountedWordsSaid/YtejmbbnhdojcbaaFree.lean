/- Plain mathematics of words of a free group: letters, inverses, reduction. No program is named here. -/
namespace Go.Proofs.Ytejmbbnhdojcbaa.Wd

def isL (c : UInt8) : Bool := (decide (97 ≤ c) && decide (c ≤ 100)) || (decide (65 ≤ c) && decide (c ≤ 68))
def oth (c : UInt8) : UInt8 := c ^^^ 32
theorem oth_oth (c : UInt8) : oth (oth c) = c := by unfold oth; rw [UInt8.xor_assoc]; simp
theorem oth_ne (c : UInt8) : oth c ≠ c := by
  unfold oth; intro h
  have h2 : c ^^^ (c ^^^ 32) = c ^^^ c := by rw [h]
  rw [← UInt8.xor_assoc] at h2
  simp at h2
theorem oth_inj {a b : UInt8} (h : oth a = oth b) : a = b := by rw [← oth_oth a, h, oth_oth]
/-- What a program can look at for all bytes. -/
theorem allU8 {p : UInt8 → Bool} (h : (List.range 256).all (fun n => p (UInt8.ofNat n)) = true) (c : UInt8) : p c = true := by
  have := List.all_eq_true.1 h c.toNat (List.mem_range.2 c.toNat_lt)
  simpa using this
theorem isL_oth (c : UInt8) (h : isL c = true) : isL (oth c) = true := by
  have := allU8 (p := fun c => !isL c || isL (oth c)) (by decide +kernel) c
  simp only [h, Bool.not_true, Bool.false_or] at this; exact this

/-- One letter more, behind a word that is a stack. -/
def step (out : List UInt8) (c : UInt8) : List UInt8 := if out.getLast? = some (oth c) then out.dropLast else out ++ [c]
def run (out l : List UInt8) : List UInt8 := l.foldl step out
def red (l : List UInt8) : List UInt8 := run [] l
def inv (l : List UInt8) : List UInt8 := (l.map oth).reverse

/-- No letter stands beside its inverse. -/
def Ok : List UInt8 → Prop
  | [] => True
  | [_] => True
  | a :: b :: r => b ≠ oth a ∧ Ok (b :: r)

theorem Ok.tail {a : UInt8} {l : List UInt8} (h : Ok (a :: l)) : Ok l := by
  cases l with
  | nil => trivial
  | cons b r => exact h.2

theorem ok_append_single {l : List UInt8} {c : UInt8} (h : Ok l) (hc : l.getLast? ≠ some (oth c)) : Ok (l ++ [c]) := by
  induction l with
  | nil => trivial
  | cons a r ih =>
    cases r with
    | nil =>
      refine ⟨fun e => hc ?_, trivial⟩
      simp only [List.getLast?_singleton, e, oth_oth]
    | cons b r =>
      refine ⟨h.1, ih h.2 ?_⟩
      simpa [List.getLast?_cons_cons] using hc

theorem ok_append_left {l r : List UInt8} (h : Ok (l ++ r)) : Ok l := by
  induction l with
  | nil => trivial
  | cons a l ih =>
    cases l with
    | nil => trivial
    | cons b l => exact ⟨h.1, ih h.2⟩

theorem ok_append_right {l r : List UInt8} (h : Ok (l ++ r)) : Ok r := by
  induction l with
  | nil => exact h
  | cons a l ih => exact ih h.tail

theorem ok_last {l : List UInt8} {a c : UInt8} (h : Ok (l ++ [a, c])) : c ≠ oth a := (ok_append_right h).1

theorem ok_dropLast {l : List UInt8} (h : Ok l) : Ok l.dropLast := by
  rcases List.eq_nil_or_concat l with rfl | ⟨r, a, rfl⟩
  · exact h
  · rw [List.concat_eq_append] at *; simp only [List.dropLast_concat]; exact ok_append_left h

theorem step_ok {l : List UInt8} {c : UInt8} (h : Ok l) : Ok (step l c) := by
  unfold step; split
  · exact ok_dropLast h
  · exact ok_append_single h (by assumption)

theorem run_ok {l w : List UInt8} (h : Ok l) : Ok (run l w) := by
  induction w generalizing l with
  | nil => exact h
  | cons c w ih => exact ih (step_ok h)

theorem red_ok (w : List UInt8) : Ok (red w) := run_ok trivial

theorem step_snoc {l : List UInt8} {a c : UInt8} : step (l ++ [a]) c = if a = oth c then l else l ++ [a, c] := by
  unfold step; simp only [List.getLast?_concat, Option.some.injEq, List.dropLast_concat]; split <;> simp

theorem step_nil (c : UInt8) : step [] c = [c] := by simp [step]

/-- A letter and its inverse behind a reduced word are nothing. -/
theorem step_back {l : List UInt8} {c : UInt8} (h : Ok l) : step (step l c) (oth c) = l := by
  rcases List.eq_nil_or_concat l with rfl | ⟨r, a, rfl⟩
  · rw [step_nil]; have := @step_snoc [] c (oth c); simp only [List.nil_append] at this; rw [this, oth_oth]; simp
  · rw [List.concat_eq_append] at *
    rw [step_snoc]
    by_cases e : a = oth c
    · rw [if_pos e]; subst e
      rcases List.eq_nil_or_concat r with rfl | ⟨r, b, rfl⟩
      · rw [step_nil]; rfl
      · rw [List.concat_eq_append] at *
        rw [step_snoc, if_neg]
        · simp
        · intro hb; rw [oth_oth] at hb
          have := ok_last (l := r) (a := b) (c := oth c) (by simpa using h)
          exact this (by rw [hb])
    · rw [if_neg e]
      have : r ++ [a, c] = (r ++ [a]) ++ [c] := by simp
      rw [this, step_snoc, oth_oth]; simp

theorem run_append (l u v : List UInt8) : run l (u ++ v) = run (run l u) v := List.foldl_append ..
theorem run_snoc (l u : List UInt8) (c : UInt8) : run l (u ++ [c]) = step (run l u) c := by rw [run_append]; rfl
theorem red_snoc (u : List UInt8) (c : UInt8) : red (u ++ [c]) = step (red u) c := run_snoc ..

theorem snocInd {P : List UInt8 → Prop} (h0 : P []) (h1 : ∀ l c, P l → P (l ++ [c])) : ∀ l, P l := by
  intro l
  have : ∀ n (l : List UInt8), l.length = n → P l := by
    intro n
    induction n with
    | zero => intro l hl; rw [List.length_eq_zero_iff] at hl; rw [hl]; exact h0
    | succ n ih =>
      intro l hl
      rcases List.eq_nil_or_concat l with rfl | ⟨r, a, rfl⟩
      · exact h0
      · rw [List.concat_eq_append] at *; exact h1 r a (ih r (by simpa using hl))
  exact this _ l rfl

/-- Letters may be reduced before they are put behind a reduced word. -/
theorem run_red {l : List UInt8} (h : Ok l) : ∀ w, run l (red w) = run l w := by
  refine snocInd rfl fun w c ih => ?_
  rw [red_snoc, run_snoc, ← ih]
  unfold step
  split
  · rename_i hc
    rcases List.eq_nil_or_concat (red w) with e | ⟨r, a, e⟩
    · rw [e] at hc; simp at hc
    · rw [List.concat_eq_append] at e
      rw [e] at hc ⊢
      simp only [List.getLast?_concat, Option.some.injEq] at hc
      subst hc
      rw [List.dropLast_concat, run_snoc]
      have := step_back (l := run l r) (c := oth c) (run_ok h)
      rw [oth_oth] at this
      conv => lhs; rw [← this]
      rfl
  · rw [run_snoc]; rfl

theorem red_append (u v : List UInt8) : red (u ++ v) = red (red u ++ red v) := by
  have h1 : ∀ w, red (red w) = red w := fun w => run_red (l := []) trivial w
  show run [] (u ++ v) = run [] (red u ++ red v)
  rw [run_append, run_append]
  show run (red u) v = run (red (red u)) (red v)
  rw [h1, run_red (red_ok u)]
theorem red_red (w : List UInt8) : red (red w) = red w := run_red (l := []) trivial w
theorem red_append_left (u v : List UInt8) : red (red u ++ v) = red (u ++ v) := by rw [red_append, red_red, ← red_append]
theorem red_append_right (u v : List UInt8) : red (u ++ red v) = red (u ++ v) := by rw [red_append, red_red, ← red_append]

theorem run_of_ok : ∀ w l : List UInt8, Ok (l ++ w) → run l w = l ++ w := by
  intro w
  induction w with
  | nil => intro l _; simp [run]
  | cons c w ih =>
    intro l h
    have h2 : Ok ((l ++ [c]) ++ w) := by simpa using h
    show run (step l c) w = _
    have : step l c = l ++ [c] := by
      unfold step
      rw [if_neg]
      intro e
      rcases List.eq_nil_or_concat l with rfl | ⟨r, a, rfl⟩
      · simp at e
      · rw [List.concat_eq_append] at *
        simp only [List.getLast?_concat, Option.some.injEq] at e
        have := ok_last (l := r) (a := a) (c := c) (by simpa using ok_append_left h2)
        rw [e, oth_oth] at this
        exact this rfl
    rw [this, ih _ h2]; simp
theorem red_of_ok {w : List UInt8} (h : Ok w) : red w = w := run_of_ok w [] h
theorem ok_iff_red {w : List UInt8} : Ok w ↔ red w = w := ⟨red_of_ok, fun h => h ▸ red_ok w⟩

theorem inv_append (u v : List UInt8) : inv (u ++ v) = inv v ++ inv u := by simp [inv]
theorem inv_inv (u : List UInt8) : inv (inv u) = u := by
  simp only [inv, List.map_reverse, List.reverse_reverse, List.map_map]
  conv => rhs; rw [← List.map_id u]
  exact List.map_congr_left fun a _ => oth_oth a
theorem inv_length (u : List UInt8) : (inv u).length = u.length := by simp [inv]

theorem run_inv : ∀ w l : List UInt8, Ok l → run l (w ++ inv w) = l := by
  intro w
  induction w with
  | nil => intro l _; rfl
  | cons c w ih =>
    intro l h
    have : inv (c :: w) = inv w ++ [oth c] := by simp [inv]
    rw [this, ← List.append_assoc, run_snoc]
    show step (run (step l c) (w ++ inv w)) (oth c) = l
    rw [ih _ (step_ok h), step_back h]
theorem red_inv_right (w : List UInt8) : red (w ++ inv w) = [] := run_inv w [] trivial
theorem red_inv_left (w : List UInt8) : red (inv w ++ w) = [] := by have := red_inv_right (inv w); rwa [inv_inv] at this

theorem step_length (l : List UInt8) (c : UInt8) : (step l c).length = l.length + 1 ∨ ((step l c).length + 1 = l.length) := by
  unfold step; split
  · rename_i h; right
    rcases List.eq_nil_or_concat l with rfl | ⟨r, a, rfl⟩
    · simp at h
    · simp
  · left; simp
theorem red_length : ∀ w : List UInt8, (red w).length ≤ w.length ∧ (w.length - (red w).length) % 2 = 0 := by
  refine snocInd (by simp [red, run]) fun w c ih => ?_
  rw [red_snoc]
  have := step_length (red w) c
  simp only [List.length_append, List.length_singleton]
  omega

theorem mem_step {l : List UInt8} {c x : UInt8} (h : x ∈ step l c) : x ∈ l ∨ x = c := by
  unfold step at h; split at h
  · exact .inl (List.dropLast_subset _ h)
  · simpa using h
theorem mem_red : ∀ (w : List UInt8) (x : UInt8), x ∈ red w → x ∈ w := by
  refine snocInd (by simp [red, run]) fun w c ih x hx => ?_
  rw [red_snoc] at hx
  rcases mem_step hx with h | rfl
  · exact List.mem_append_left _ (ih x h)
  · simp
theorem all_red {w : List UInt8} (h : ∀ x ∈ w, isL x = true) : ∀ x ∈ red w, isL x = true := fun x hx => h x (mem_red w x hx)
theorem all_inv {w : List UInt8} (h : ∀ x ∈ w, isL x = true) : ∀ x ∈ inv w, isL x = true := by
  intro x hx
  simp only [inv, List.mem_reverse, List.mem_map] at hx
  obtain ⟨y, hy, rfl⟩ := hx
  exact isL_oth y (h y hy)

end Go.Proofs.Ytejmbbnhdojcbaa.Wd
