/- FnCountedWords: the plain law: each reduced word has its number, and the next word has the next number. Conditions: none. -/
import Derived.Test.YtejmbbnhdojcbaaAt
import Derived.Test.YtejmbbnhdojcbaaNxt
import Derived.Test.YtejmbbnhdojcbaaClb
namespace Go.Proofs.Ytejmbbnhdojcbaa
set_option linter.unusedVariables false

/-- May letter x stand behind the letter s (nothing: at the beginning)? -/
def fr (s : Option UInt8) (x : Nat) : Bool := s != some (Wd.oth (atb letters x))
/-- How many of the first x letters may. -/
def cA (s : Option UInt8) : Nat → Nat
  | 0 => 0
  | x + 1 => cA s x + (if fr s x then 1 else 0)
theorem cA_mono (s : Option UInt8) : ∀ d x, cA s x ≤ cA s (x + d)
  | 0, _ => Nat.le_refl _
  | d + 1, x => Nat.le_trans (cA_mono s d x) (by show _ ≤ cA s (x + d) + _; omega)
/-- The rank of what follows. -/
def rk (g : Int) : Option UInt8 → List UInt8 → Int
  | _, [] => 0
  | s, c :: t => (cA s (lnoN c) : Int) * wy g true t.length + rk g (some c) t
/-- A reduced word of the first p letters, behind s. -/
def Rw (p : Nat) : Option UInt8 → List UInt8 → Prop
  | _, [] => True
  | s, c :: t => (Wd.isL c = true ∧ lnoN c < p ∧ fr s (lnoN c) = true) ∧ Rw p (some c) t
def Gs (p : Nat) (s : Option UInt8) : Prop := ∀ a, s = some a → Wd.isL a = true ∧ lnoN a < p
theorem cA_none (p : Nat) : cA none p = p := by
  induction p with
  | zero => rfl
  | succ p ih => show cA none p + (if fr none p then 1 else 0) = p + 1; rw [ih]; rfl
theorem cA_some : ∀ q, q < 5 → ∀ x, x < 2 * q → cA (some (atb letters x)) (2 * q) = 2 * q - 1 := by decide +kernel
theorem wy_all {g : Int} {p : Nat} (hgp : 2 * g = (p : Int)) (hg : 1 ≤ g) (hg4 : g ≤ 4) {s : Option UInt8} (hs : Gs p s) (n : Nat) : (cA s p : Int) * wy g true n = wy g s.isSome (n + 1) := by
  cases s with
  | none =>
    rw [cA_none]
    show (p : Int) * wy g true n = wy g false (n + 1)
    induction n with
    | zero => rw [wy_first, wy_zero]; omega
    | succ n ih =>
      rw [wy_next g true n (.inr rfl), wy_next g false (n + 1) (.inl (by omega)), ← ih, Int.mul_assoc]
  | some a =>
    obtain ⟨h1, h2⟩ := hs a rfl
    obtain ⟨q, rfl⟩ : ∃ q : Nat, p = 2 * q := ⟨g.toNat, by omega⟩
    have := cA_some q (by omega) (lnoN a) h2
    rw [(letter_at a h1).2.1] at this
    rw [this]
    show ((2 * q - 1 : Nat) : Int) * wy g true n = wy g true (n + 1)
    rw [wy_next g true n (.inr rfl), Int.mul_comm, show ((2 * q - 1 : Nat) : Int) = 2 * g - 1 by omega]
theorem wy_pos {g : Int} {b : Bool} (hg : 1 ≤ g) (hg4 : g ≤ 4) (n : Nat) : 1 ≤ wy g b n := (wy_le hg hg4 n).1
/-- A rank lies in its bounds. -/
theorem rk_lim {g : Int} {p : Nat} (hgp : 2 * g = (p : Int)) (hg : 1 ≤ g) (hg4 : g ≤ 4) : ∀ (l : List UInt8) (s : Option UInt8), Gs p s → Rw p s l → 0 ≤ rk g s l ∧ rk g s l < wy g s.isSome l.length
  | [], s, _, _ => by
    show (0 : Int) ≤ 0 ∧ (0 : Int) < wy g s.isSome 0
    rw [wy_zero]; omega
  | c :: t, s, hs, ⟨⟨h1, h2, h3⟩, h4⟩ => by
    have ih := rk_lim hgp hg hg4 t (some c) (fun a e => by injection e with e; subst e; exact ⟨h1, h2⟩) h4
    have hM := wy_pos (b := true) hg hg4 t.length
    have e1 : cA s (lnoN c + 1) = cA s (lnoN c) + 1 := by show cA s (lnoN c) + (if fr s (lnoN c) then 1 else 0) = _; rw [h3]; rfl
    have e2 : cA s (lnoN c + 1) ≤ cA s p := by
      have := cA_mono s (p - (lnoN c + 1)) (lnoN c + 1)
      rwa [show lnoN c + 1 + (p - (lnoN c + 1)) = p by omega] at this
    have e3 := wy_all hgp hg hg4 hs t.length
    have e4 : ((cA s (lnoN c) : Int) + 1) * wy g true t.length ≤ (cA s p : Int) * wy g true t.length := Int.mul_le_mul_of_nonneg_right (by omega) (by omega)
    have e5 : 0 ≤ (cA s (lnoN c) : Int) * wy g true t.length := Int.mul_nonneg (by omega) (by omega)
    rw [Int.add_mul, Int.one_mul] at e4
    have i2 : rk g (some c) t < wy g true t.length := ih.2
    show 0 ≤ _ + _ ∧ _ + _ < wy g s.isSome (t.length + 1)
    omega
/-- Each number is a word's. -/
theorem cA_hit (s : Option UInt8) (j : Nat) : ∀ q, j < cA s q → ∃ x, x < q ∧ fr s x = true ∧ cA s x = j
  | 0, h => by simp [cA] at h
  | q + 1, h => by
    by_cases hq : j < cA s q
    · obtain ⟨x, h1, h2⟩ := cA_hit s j q hq
      exact ⟨x, by omega, h2⟩
    · have e : cA s (q + 1) = cA s q + (if fr s q then 1 else 0) := rfl
      cases hf : fr s q
      · rw [hf] at e; simp at e; omega
      · rw [hf] at e; simp at e; exact ⟨q, by omega, hf, by omega⟩
theorem rk_ex {g : Int} {p : Nat} (hgp : 2 * g = (p : Int)) (hg : 1 ≤ g) (hg4 : g ≤ 4) : ∀ (n : Nat) (s : Option UInt8) (k : Int), Gs p s → 0 ≤ k → k < wy g s.isSome n → ∃ l, l.length = n ∧ Rw p s l ∧ rk g s l = k
  | 0, s, k, _, h1, h2 => ⟨[], rfl, trivial, by rw [wy_zero] at h2; show (0 : Int) = k; omega⟩
  | n + 1, s, k, hs, h1, h2 => by
    have hM := wy_pos (b := true) hg hg4 n
    have e := wy_all hgp hg hg4 hs n
    obtain ⟨M, hMM⟩ : ∃ M, M = wy g true n := ⟨_, rfl⟩
    rw [← hMM] at e hM
    have hd := Int.emod_add_mul_ediv k M
    have hr1 := Int.emod_nonneg k (by omega : M ≠ 0)
    have hr2 := Int.emod_lt_of_pos k (by omega : 0 < M)
    have hq : 0 ≤ k / M := Int.ediv_nonneg h1 (by omega)
    have hq2 : k / M < cA s p := by
      rw [← e] at h2
      exact Int.ediv_lt_of_lt_mul (by omega) h2
    obtain ⟨x, x1, x2, x3⟩ := cA_hit s (k / M).toNat p (by omega)
    have x8 : x < 8 := by omega
    obtain ⟨y1, y2⟩ := let_lno x x8
    obtain ⟨t, t1, t2, t3⟩ := rk_ex hgp hg hg4 n (some (atb letters x)) (k % M) (fun a e => by injection e with e; subst e; exact ⟨y1, by rw [y2]; exact x1⟩) hr1 (by show k % M < wy g true n; rw [← hMM]; exact hr2)
    refine ⟨atb letters x :: t, by rw [List.length_cons, t1], ⟨⟨y1, by rw [y2]; exact x1, by rw [y2]; exact x2⟩, t2⟩, ?_⟩
    show (cA s (lnoN (atb letters x)) : Int) * wy g true t.length + rk g (some (atb letters x)) t = k
    rw [y2, t1, t3, x3, ← hMM, Int.toNat_of_nonneg hq, Int.mul_comm]; omega

/-- The last letter. -/
def lst (u : List UInt8) : Option UInt8 := if u.length = 0 then none else some (atb u (u.length - 1))
theorem lst_snoc (u : List UInt8) (c : UInt8) : lst (u ++ [c]) = some c := by
  unfold lst
  rw [if_neg (by simp), List.length_append, List.length_singleton, Nat.add_sub_cancel, atb_right (Nat.le_refl _), Nat.sub_self]; rfl
theorem badB_fr (u : List UInt8) (x : Nat) : badB u x = !fr (lst u) x := by
  unfold badB lst fr
  by_cases h : u.length = 0
  · rw [if_pos h, h]; rfl
  · rw [if_neg h, decide_eq_true h, Bool.true_and]
    simp only [bne, Bool.not_not]
    cases hb : (atb u (u.length - 1) == Wd.oth (atb letters x))
    · rw [beq_eq_false_iff_ne] at hb
      exact (beq_eq_false_iff_ne.2 (fun e => hb (Option.some.inj e))).symm
    · rw [beq_iff_eq] at hb
      rw [hb]; simp
theorem pick_at {M : Int} (hM : 1 ≤ M) {u : List UInt8} {y : Nat} (hy : fr (lst u) y = true) {k' : Int} (h0 : 0 ≤ k') (h1 : k' < M) : ∀ (r x d : Nat), x ≤ y → y < x + r → cA (lst u) y = cA (lst u) x + d → pick M u r x ((d : Int) * M + k') = (u ++ [atb letters y], k')
  | 0, x, d, hx, hr, _ => by omega
  | r + 1, x, d, hx, hr, hd => by
    have e : cA (lst u) (x + 1) = cA (lst u) x + (if fr (lst u) x then 1 else 0) := rfl
    unfold pick
    rw [badB_fr]
    cases hf : fr (lst u) x
    · have hne : x ≠ y := fun e => by rw [e, hy] at hf; cases hf
      rw [if_pos (by simp)]
      exact pick_at hM hy h0 h1 r (x + 1) d (by omega) (by omega) (by rw [e, hf]; simpa using hd)
    · rw [if_neg (by simp)]
      by_cases he : x = y
      · subst he
        have : d = 0 := by omega
        subst this
        rw [show ((0 : Nat) : Int) * M + k' = k' by simp, if_pos h1]
      · have hm := cA_mono (lst u) (y - (x + 1)) (x + 1)
        rw [show x + 1 + (y - (x + 1)) = y by omega] at hm
        rw [hf] at e
        simp at e
        obtain ⟨d', rfl⟩ : ∃ d', d = d' + 1 := ⟨d - 1, by omega⟩
        have ek : ((d' + 1 : Nat) : Int) * M + k' = (d' : Int) * M + k' + M := by
          rw [Int.natCast_add, Int.add_mul]; simp; omega
        have hdn : 0 ≤ (d' : Int) * M := Int.mul_nonneg (by omega) (by omega)
        rw [ek, if_neg (by omega), Int.add_sub_cancel]
        exact pick_at hM hy h0 h1 r (x + 1) d' (by omega) (by omega) (by omega)
theorem at_word {g : Int} {p : Nat} (hgp : 2 * g = (p : Int)) (hg : 1 ≤ g) (hg4 : g ≤ 4) : ∀ (l u : List UInt8), Gs p (lst u) → Rw p (lst u) l → atR g p l.length (u, rk g (lst u) l) = (u ++ l, 0)
  | [], u, _, _ => by simp [atR, rk]
  | c :: t, u, hs, ⟨⟨h1, h2, h3⟩, h4⟩ => by
    have hgc : Gs p (some c) := fun a e => by injection e with e; subst e; exact ⟨h1, h2⟩
    have hl := rk_lim hgp hg hg4 t (some c) hgc h4
    have hp := pick_at (M := wy g true t.length) (wy_pos hg hg4 _) h3 hl.1 hl.2 p 0 (cA (lst u) (lnoN c)) (Nat.zero_le _) (by omega) (by show _ = 0 + _; omega)
    rw [(letter_at c h1).2.1] at hp
    show atR g p t.length (pick (wy g true t.length) u p 0 ((cA (lst u) (lnoN c) : Int) * wy g true t.length + rk g (some c) t)) = _
    rw [hp]
    have ih := at_word hgp hg hg4 t (u ++ [c]) (by rw [lst_snoc]; exact hgc) (by rw [lst_snoc]; exact h4)
    rw [lst_snoc] at ih
    rw [ih]; simp

/-- The letter ahead of place i. -/
def st (l : List UInt8) (i : Nat) : Option UInt8 := if i = 0 then none else some (atb l (i - 1))
theorem st_succ (l : List UInt8) (i : Nat) : st l (i + 1) = some (atb l i) := by unfold st; rw [if_neg (by omega), Nat.add_sub_cancel]
theorem fre_fr (l : List UInt8) (i x : Nat) : fre l i x = fr (st l i) x := by
  unfold fre fr st
  by_cases h : i = 0
  · rw [if_pos h, decide_eq_true h]; rfl
  · rw [if_neg h, decide_eq_false h, Bool.false_or]
    simp only [bne]
    congr 1
theorem inS_cA (g : Int) (l : List UInt8) (i : Nat) : ∀ x, inS g l i x = (cA (st l i) x : Int) * wy g true (l.length - i - 1)
  | 0 => by simp [inS, cA]
  | x + 1 => by
    unfold inS cA
    rw [inS_cA g l i x, fre_fr]
    cases fr (st l i) x
    · simp
    · simp [Int.add_mul]
theorem drop_at {l : List UInt8} {i : Nat} (h : i < l.length) : l.drop i = atb l i :: l.drop (i + 1) := by
  rw [List.drop_eq_getElem_cons h, atb_eq h]
theorem rkTo_rk (g : Int) (l : List UInt8) : ∀ i, i ≤ l.length → rkTo g l i + rk g (st l i) (l.drop i) = rk g none l
  | 0, _ => by show 0 + rk g none l = _; omega
  | i + 1, hi => by
    have ih := rkTo_rk g l i (by omega)
    rw [drop_at (by omega)] at ih
    have e : rk g (st l i) (atb l i :: l.drop (i + 1)) = (cA (st l i) (lnoN (atb l i)) : Int) * wy g true (l.drop (i + 1)).length + rk g (some (atb l i)) (l.drop (i + 1)) := rfl
    rw [e, List.length_drop, show l.length - (i + 1) = l.length - i - 1 by omega, ← inS_cA] at ih
    show rkTo g l i + inS g l i (lnoN (atb l i)) + rk g (st l (i + 1)) (l.drop (i + 1)) = _
    rw [st_succ]; omega
theorem rank_rk (g : Int) (l : List UInt8) : rkTo g l l.length = rk g none l := by
  have := rkTo_rk g l l.length (Nat.le_refl _)
  rw [List.drop_length] at this
  have e : rk g (st l l.length) [] = 0 := by cases st l l.length <;> rfl
  omega
/-- Such a word is one for the program. -/
theorem rw_all {p : Nat} : ∀ (l : List UInt8) (s : Option UInt8), Rw p s l → ∀ x ∈ l, Wd.isL x = true ∧ lnoN x < p
  | [], _, _, x, hx => by simp at hx
  | c :: t, s, ⟨⟨h1, h2, h3⟩, h4⟩, x, hx => by
    rcases List.mem_cons.1 hx with rfl | hx
    · exact ⟨h1, h2⟩
    · exact rw_all t _ h4 x hx
theorem rw_ok {p : Nat} : ∀ (l : List UInt8) (s : Option UInt8), Rw p s l → Wd.Ok l
  | [], _, _ => trivial
  | [_], _, _ => trivial
  | a :: b :: r, s, ⟨_, ⟨⟨h1, h2, h3⟩, h4⟩⟩ => by
    refine ⟨fun e => ?_, rw_ok (b :: r) (some a) ⟨⟨h1, h2, h3⟩, h4⟩⟩
    unfold fr at h3
    rw [(letter_at b h1).2.1, e, Wd.oth_oth] at h3
    simp at h3
theorem rw_gok {g : Int} {p : Nat} (hgp : 2 * g = (p : Int)) {l : List UInt8} {s : Option UInt8} (h : Rw p s l) : gOk g l = true := by
  rw [gOk_iff]
  intro n hn
  obtain ⟨h1, h2⟩ := rw_all l s h (atb l n) (by rw [atb_eq hn]; exact List.getElem_mem hn)
  rw [(lno_N h1).1]; omega
theorem rw_isr {p : Nat} {l : List UInt8} {s : Option UInt8} (h : Rw p s l) : isRed l = true := by
  unfold isRed
  rw [decide_eq_true_eq]
  exact Wd.red_of_ok (rw_ok l s h)
theorem rw_at {p : Nat} {l : List UInt8} (h : Rw p none l) : ∀ i, i ≤ l.length → Rw p (st l i) (l.drop i)
  | 0, _ => h
  | i + 1, hi => by
    have ih := rw_at h i (by omega)
    rw [drop_at (by omega)] at ih
    rw [st_succ]; exact ih.2
theorem rw_take {p : Nat} : ∀ (i : Nat) (l : List UInt8) (s : Option UInt8), Rw p s l → Rw p s (l.take i)
  | 0, l, s, _ => trivial
  | i + 1, [], s, _ => trivial
  | i + 1, c :: t, s, h => ⟨h.1, rw_take i t (some c) h.2⟩
/-- The rank, split. -/
theorem lst_take {l : List UInt8} {i : Nat} (h : i ≤ l.length) : lst (l.take i) = st l i := by
  have tl : (l.take i).length = i := by rw [List.length_take]; omega
  unfold lst st
  rw [tl]
  by_cases h0 : i = 0
  · rw [if_pos h0, if_pos h0]
  · rw [if_neg h0, if_neg h0, atb_tk (by omega)]
/-- What a word's letters weigh, if n letters more follow. -/
def hd (g : Int) : Option UInt8 → List UInt8 → Nat → Int
  | _, [], _ => 0
  | s, c :: t, n => (cA s (lnoN c) : Int) * wy g true (t.length + n) + hd g (some c) t n
def sl (s : Option UInt8) (a : List UInt8) : Option UInt8 := match a with
  | [] => s
  | c :: t => sl (some c) t
theorem sl_snoc : ∀ (a : List UInt8) (s : Option UInt8) (c : UInt8), sl s (a ++ [c]) = some c
  | [], s, c => rfl
  | b :: t, s, c => by show sl (some b) (t ++ [c]) = _; exact sl_snoc t _ c
theorem rk_app (g : Int) : ∀ (a b : List UInt8) (s : Option UInt8), rk g s (a ++ b) = hd g s a b.length + rk g (sl s a) b
  | [], b, s => by show rk g s b = 0 + rk g s b; omega
  | c :: t, b, s => by
    show (cA s (lnoN c) : Int) * wy g true (t ++ b).length + rk g (some c) (t ++ b) = ((cA s (lnoN c) : Int) * wy g true (t.length + b.length) + hd g (some c) t b.length) + rk g (sl (some c) t) b
    rw [rk_app g t b, List.length_append]; omega
theorem sl_lst (a : List UInt8) : sl none a = lst a := by
  refine Wd.snocInd (P := fun a => sl none a = lst a) rfl (fun a c _ => ?_) a
  rw [sl_snoc, lst_snoc]
theorem rw_app {p : Nat} : ∀ (a b : List UInt8) (s : Option UInt8), Rw p s (a ++ b) ↔ Rw p s a ∧ Rw p (sl s a) b
  | [], b, s => by simp [Rw, sl]
  | c :: t, b, s => by
    show _ ∧ Rw p (some c) (t ++ b) ↔ (_ ∧ Rw p (some c) t) ∧ Rw p (sl (some c) t) b
    rw [rw_app t b]
    constructor
    · rintro ⟨h1, h2, h3⟩; exact ⟨⟨h1, h2⟩, h3⟩
    · rintro ⟨⟨h1, h2⟩, h3⟩; exact ⟨h1, h2, h3⟩

/-- The first letters. -/
theorem go_cons (u : List UInt8) : ∀ m, goN (u ++ [nxt u]) m = goN u (m + 1)
  | 0 => rfl
  | m + 1 => by
    show goN (u ++ [nxt u]) m ++ [nxt (goN (u ++ [nxt u]) m)] = goN u (m + 1) ++ [nxt (goN u (m + 1))]
    rw [go_cons u m]
theorem nxt_ok {p : Nat} (hp : 2 ≤ p) (u : List UInt8) : Wd.isL (nxt u) = true ∧ lnoN (nxt u) < p ∧ fr (lst u) (lnoN (nxt u)) = true ∧ cA (lst u) (lnoN (nxt u)) = 0 := by
  obtain ⟨e0, e1, o0, o1⟩ := let_01
  have n0 : lnoN 97 = 0 := by decide
  have n1 : lnoN 65 = 1 := by decide
  unfold nxt
  by_cases h : u.length ≠ 0 ∧ atb u (u.length - 1) = 65
  · rw [if_pos h, n1]
    have hl : lst u = some 65 := by unfold lst; rw [if_neg h.1, h.2]
    rw [hl]
    exact ⟨by decide, by omega, by decide, by decide⟩
  · rw [if_neg h, n0]
    refine ⟨by decide, by omega, ?_, rfl⟩
    unfold fr lst
    rw [e0, o0]
    by_cases h0 : u.length = 0
    · rw [if_pos h0]; rfl
    · rw [if_neg h0]
      rw [bne_iff_ne]
      exact fun e => h ⟨h0, Option.some.inj e⟩
theorem go_word {g : Int} {p : Nat} (hp : 2 ≤ p) : ∀ (m : Nat) (u : List UInt8), ∃ l, goN u m = u ++ l ∧ l.length = m ∧ Rw p (lst u) l ∧ rk g (lst u) l = 0
  | 0, u => ⟨[], by simp [goN], rfl, trivial, rfl⟩
  | m + 1, u => by
    obtain ⟨h1, h2, h3, h4⟩ := nxt_ok hp u
    obtain ⟨l, l1, l2, l3, l4⟩ := go_word hp m (u ++ [nxt u])
    rw [lst_snoc] at l3 l4
    refine ⟨nxt u :: l, by rw [← go_cons, l1]; simp, by rw [List.length_cons, l2], ⟨⟨h1, h2, h3⟩, l3⟩, ?_⟩
    show (cA (lst u) (lnoN (nxt u)) : Int) * wy g true l.length + rk g (some (nxt u)) l = 0
    rw [h4, l4]; simp

/-- A word behind which no other of its length comes has the greatest rank. -/
theorem cA_top (s : Option UInt8) (x : Nat) : ∀ d, (∀ q, x ≤ q → q < x + d → fr s q = false) → cA s (x + d) = cA s x
  | 0, _ => rfl
  | d + 1, h => by
    show cA s (x + d) + (if fr s (x + d) then 1 else 0) = _
    rw [h (x + d) (by omega) (by omega), cA_top s x d (fun q a b => h q a (by omega))]; rfl
theorem rk_top {g : Int} {p : Nat} (hgp : 2 * g = (p : Int)) (hg : 1 ≤ g) (hg4 : g ≤ 4) {l : List UInt8} (h : Rw p none l) : ∀ m i, i + m = l.length → (∀ j q, i ≤ j → j < l.length → cand p l j q = false) → rk g (st l i) (l.drop i) = wy g (st l i).isSome m - 1
  | 0, i, hi, _ => by
    rw [List.drop_of_length_le (by omega), wy_zero]
    cases st l i <;> rfl
  | m + 1, i, hi, hn => by
    have ih := rk_top hgp hg hg4 h m (i + 1) (by omega) (fun j q a b => hn j q (by omega) b)
    have hr := rw_at h i (by omega)
    have hs : Gs p (st l i) := by
      intro a e
      unfold st at e
      split at e
      · cases e
      · injection e with e
        subst e
        exact rw_all l none h _ (by rw [atb_eq (by omega)]; exact List.getElem_mem _)
    rw [drop_at (by omega)] at hr ⊢
    obtain ⟨⟨h1, h2, h3⟩, _⟩ := hr
    have ec : cA (st l i) p = cA (st l i) (lnoN (atb l i)) + 1 := by
      have e1 : cA (st l i) (lnoN (atb l i) + 1) = cA (st l i) (lnoN (atb l i)) + 1 := by show _ + (if fr (st l i) (lnoN (atb l i)) then 1 else 0) = _; rw [h3]; rfl
      have := cA_top (st l i) (lnoN (atb l i) + 1) (p - (lnoN (atb l i) + 1)) (fun q a b => by
        have hq := hn i q (Nat.le_refl _) (by omega)
        rw [cand_of (by omega) (by omega), fre_fr] at hq
        exact hq)
      rw [show lnoN (atb l i) + 1 + (p - (lnoN (atb l i) + 1)) = p by omega] at this
      omega
    have ew := wy_all hgp hg hg4 hs m
    rw [ec] at ew
    have e : rk g (st l i) (atb l i :: l.drop (i + 1)) = (cA (st l i) (lnoN (atb l i)) : Int) * wy g true (l.drop (i + 1)).length + rk g (some (atb l i)) (l.drop (i + 1)) := rfl
    rw [st_succ] at ih
    rw [e, ih, List.length_drop, show l.length - (i + 1) = m by omega, ← ew]
    show _ + (wy g true m - 1) = _
    have : ((cA (st l i) (lnoN (atb l i)) + 1 : Nat) : Int) * wy g true m = (cA (st l i) (lnoN (atb l i)) : Int) * wy g true m + wy g true m := by
      rw [Int.natCast_add, Int.add_mul]; simp
    omega

/-- Is there a word of this length behind it? -/
theorem least_q {P : Nat → Bool} : ∀ n, (∀ q, q < n → P q = false) ∨ ∃ x, x < n ∧ P x = true ∧ ∀ q, q < x → P q = false
  | 0 => .inl fun q h => by omega
  | n + 1 => by
    rcases least_q (P := P) n with h | ⟨x, x1, x2, x3⟩
    · cases hp : P n
      · refine .inl fun q hq => ?_
        by_cases e : q = n
        · rw [e]; exact hp
        · exact h q (by omega)
      · exact .inr ⟨n, by omega, hp, h⟩
    · exact .inr ⟨x, by omega, x2, x3⟩
theorem cand_dec (p : Nat) (l : List UInt8) : (∃ k x, k < l.length ∧ Clean p l k x ∧ cand p l k x = true) ∨ ∀ j q, j < l.length → cand p l j q = false := by
  have key : ∀ m, m ≤ l.length → (∃ k x, k < l.length ∧ Clean p l k x ∧ cand p l k x = true) ∨ ∀ j q, l.length - m ≤ j → j < l.length → cand p l j q = false := by
    intro m
    induction m with
    | zero => intro _; exact .inr fun j q a b => by omega
    | succ m ih =>
      intro hm
      rcases ih (by omega) with h | h
      · exact .inl h
      · rcases least_q (P := cand p l (l.length - (m + 1))) p with h2 | ⟨x, x1, x2, x3⟩
        · refine .inr fun j q a b => ?_
          by_cases e : j = l.length - (m + 1)
          · by_cases hq : q < p
            · rw [e]; exact h2 q hq
            · exact cand_hi hq
          · exact h j q (by omega) b
        · exact .inl ⟨_, x, by omega, ⟨fun j q a b => h j q (by omega) b, x3⟩, x2⟩
  rcases key l.length (Nat.le_refl _) with h | h
  · exact .inl h
  · exact .inr fun j q hj => h j q (by omega) hj

/-- The next word has the next number. -/
theorem next_word {g : Int} {p : Nat} (hgp : 2 * g = (p : Int)) (hg : 1 ≤ g) (hg4 : g ≤ 4) {l : List UInt8} (h : Rw p none l) (hl : l.length ≤ 12) :
    ∃ r, H1 p l r 0 ∧ H2 p l r 0 ∧ cmpL l r = -1 ∧ Rw p none r ∧ ((r.length = l.length ∧ rk g none r = rk g none l + 1) ∨ (r.length = l.length + 1 ∧ rk g none r = 0 ∧ rk g none l + 1 = wy g false l.length)) := by
  rcases cand_dec p l with ⟨k, x, hk, hc, hx⟩ | hn
  · have hx1 : lnoN (atb l k) < x ∧ x < p := by
      unfold cand at hx
      rw [Bool.and_eq_true, Bool.and_eq_true, decide_eq_true_eq, decide_eq_true_eq] at hx
      exact hx.1
    have hfx := hx
    rw [cand_of hx1.1 hx1.2, fre_fr] at hfx
    obtain ⟨y1, y2⟩ := let_lno x (by omega)
    obtain ⟨f, f1, f2, f3, f4⟩ := go_word (g := g) (by omega : 2 ≤ p) (l.length - k - 1) (l.take k ++ [atb letters x])
    rw [lst_snoc] at f3 f4
    have tl : (l.take k).length = k := by rw [List.length_take]; omega
    have hsl : sl none (l.take k) = st l k := by rw [sl_lst, lst_take (by omega)]
    have hrw := rw_at h k (by omega)
    rw [drop_at hk] at hrw
    obtain ⟨⟨c1, c2, c3⟩, c4⟩ := hrw
    have er : goN (l.take k ++ [atb letters x]) (l.length - k - 1) = l.take k ++ (atb letters x :: f) := by rw [f1]; simp
    have rl : (l.take k ++ (atb letters x :: f)).length = l.length := by rw [List.length_append, List.length_cons, tl, f2]; omega
    have hrr : Rw p none (l.take k ++ (atb letters x :: f)) := by
      rw [rw_app, hsl]
      exact ⟨rw_take k l none h, ⟨y1, by rw [y2]; exact hx1.2, by rw [y2]; exact hfx⟩, f3⟩
    have hrank : rk g none (l.take k ++ (atb letters x :: f)) = rk g none l + 1 := by
      have e1 := rk_app g (l.take k) (l.drop k) none
      rw [List.take_append_drop, hsl, drop_at hk] at e1
      have e2 := rk_app g (l.take k) (atb letters x :: f) none
      rw [hsl] at e2
      have e3 : (atb l k :: l.drop (k + 1)).length = (atb letters x :: f).length := by rw [List.length_cons, List.length_cons, List.length_drop, f2]; omega
      rw [e3] at e1
      have e4 : rk g (st l k) (atb l k :: l.drop (k + 1)) = (cA (st l k) (lnoN (atb l k)) : Int) * wy g true (l.drop (k + 1)).length + rk g (some (atb l k)) (l.drop (k + 1)) := rfl
      have e5 : rk g (st l k) (atb letters x :: f) = (cA (st l k) (lnoN (atb letters x)) : Int) * wy g true f.length + rk g (some (atb letters x)) f := rfl
      have e6 := rk_top hgp hg hg4 h (l.length - k - 1) (k + 1) (by omega) (fun j q a b => hc.1 j q (by omega) b)
      rw [st_succ] at e6
      have e7 : cA (st l k) x = cA (st l k) (lnoN (atb l k)) + 1 := by
        have a1 : cA (st l k) (lnoN (atb l k) + 1) = cA (st l k) (lnoN (atb l k)) + 1 := by show _ + (if fr (st l k) (lnoN (atb l k)) then 1 else 0) = _; rw [c3]; rfl
        have a2 := cA_top (st l k) (lnoN (atb l k) + 1) (x - (lnoN (atb l k) + 1)) (fun q a b => by
          have hq := hc.2 q (by omega)
          rw [cand_of (by omega) (by omega), fre_fr] at hq
          exact hq)
        rw [show lnoN (atb l k) + 1 + (x - (lnoN (atb l k) + 1)) = x by omega] at a2
        omega
      rw [e6, List.length_drop, show l.length - (k + 1) = l.length - k - 1 by omega] at e4
      rw [y2, f4, f2, e7, show ((cA (st l k) (lnoN (atb l k)) + 1 : Nat) : Int) * wy g true (l.length - k - 1) = (cA (st l k) (lnoN (atb l k)) : Int) * wy g true (l.length - k - 1) + wy g true (l.length - k - 1) by rw [Int.natCast_add, Int.add_mul]; simp] at e5
      have e8 : wy g (some (atb l k)).isSome (l.length - k - 1) = wy g true (l.length - k - 1) := rfl
      omega
    refine ⟨l.take k ++ (atb letters x :: f), fun k' x' hk' hcl' hc' => ?_, fun hn => ?_, ?_, hrr, .inl ⟨rl, hrank⟩⟩
    · obtain ⟨rfl, rfl⟩ := clean_one hk hk' hc hcl' hx hc'
      exact ⟨er.symm, rfl⟩
    · rw [hn k x hk] at hx; cases hx
    · have e1 : ∀ j, j < k → atb l j = atb (l.take k ++ (atb letters x :: f)) j := fun j hj => by rw [atb_left (by omega), atb_tk hj]
      have e2 : atb (l.take k ++ (atb letters x :: f)) k = atb letters x := by rw [atb_right (by omega), tl, Nat.sub_self]; rfl
      have hL1 := (lno_N c1).1
      have hL2 := (lno_N y1).1
      rw [y2] at hL2
      have hd : diffAt l (l.take k ++ (atb letters x :: f)) = k := diffAt_of (by omega) (by omega) e1 (.inr (by rw [e2]; intro e; rw [e, hL2] at hL1; rw [e, y2] at hx1; omega))
      unfold cmpL
      rw [if_pos rl.symm, hd, if_neg (by omega), e2, hL1, hL2]
      unfold cmpI
      rw [if_pos (by omega)]
  · obtain ⟨f, f1, f2, f3, f4⟩ := go_word (g := g) (by omega : 2 ≤ p) (l.length + 1) []
    have f1' : goN [] (l.length + 1) = f := by rw [f1]; rfl
    have ht := rk_top hgp hg hg4 h l.length 0 (by omega) (fun j q _ b => hn j q b)
    refine ⟨f, fun k x hk hcl hx => ?_, fun _ => ⟨fun h4 => by omega, fun _ => ⟨f1'.symm, rfl⟩⟩, ?_, f3, .inr ⟨f2, f4, ?_⟩⟩
    · rw [hn k x hk] at hx; cases hx
    · unfold cmpL
      rw [if_neg (by omega)]
      unfold cmpI
      rw [if_pos (by omega)]
    · have : rk g none l = wy g false l.length - 1 := ht
      omega
end Go.Proofs.Ytejmbbnhdojcbaa
