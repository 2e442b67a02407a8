/- FnImages: the plain law: the image of joined words are the joined images; images of images are composed. Conditions: none. -/
import Derived.Test.YtejmbbnhdojcbaaWlw
namespace Go.Proofs.Ytejmbbnhdojcbaa
set_option linter.unusedVariables false

/-- A word's image, not reduced. -/
def fl (ls : List (List UInt8)) (l : List UInt8) : List UInt8 := l.flatMap (img ls)
theorem fl_append (ls : List (List UInt8)) (a b : List UInt8) : fl ls (a ++ b) = fl ls a ++ fl ls b := by simp [fl]
theorem fl_one (ls : List (List UInt8)) (c : UInt8) : fl ls [c] = img ls c := by simp [fl]
theorem apL_fl (ls : List (List UInt8)) (l : List UInt8) : apL ls l = Wd.red (fl ls l) := by
  have key : ∀ k, k ≤ l.length → apTo ls l k = Wd.red (fl ls (l.take k)) := by
    intro k
    induction k with
    | zero => intro _; rfl
    | succ k ih =>
      intro hk
      show Wd.red (apTo ls l k ++ img ls (atb l k)) = _
      rw [ih (by omega), Wd.red_append_left, take_atb (by omega), fl_append, fl_one]
  unfold apL
  rw [key l.length (Nat.le_refl _), List.take_length]
theorem img_oth (ls : List (List UInt8)) (c : UInt8) (h : Wd.isL c = true) : img ls (Wd.oth c) = Wd.inv (img ls c) := by
  obtain ⟨h1, h2⟩ := oth_no c h
  unfold img
  rw [h1, h2]
  have : lnoN c % 2 < 2 := Nat.mod_lt _ (by omega)
  by_cases e : lnoN c % 2 = 1
  · rw [e, if_neg (by omega), if_pos rfl, Wd.inv_inv]
  · rw [if_pos (by omega), if_neg e]
theorem red_mid (a x b : List UInt8) : Wd.red (a ++ Wd.red x ++ b) = Wd.red (a ++ x ++ b) := by
  rw [← Wd.red_append_left, Wd.red_append_right, Wd.red_append_left]
/-- Reduction goes through an image. -/
theorem fl_red (ls : List (List UInt8)) (w : List UInt8) : (∀ x ∈ w, Wd.isL x = true) → Wd.red (fl ls (Wd.red w)) = Wd.red (fl ls w) := by
  refine Wd.snocInd (P := fun w => (∀ x ∈ w, Wd.isL x = true) → Wd.red (fl ls (Wd.red w)) = Wd.red (fl ls w)) (fun _ => rfl) (fun w c ih h => ?_) w
  have hw : ∀ x ∈ w, Wd.isL x = true := fun x hx => h x (by simp [hx])
  have hc : Wd.isL c = true := h c (by simp)
  have e1 : Wd.red (fl ls (w ++ [c])) = Wd.red (fl ls (Wd.red w) ++ img ls c) := by
    rw [fl_append, fl_one, ← Wd.red_append_left, ← ih hw, Wd.red_append_left]
  rw [e1, Wd.red_snoc]
  unfold Wd.step
  split
  · rename_i hl
    obtain ⟨q, hq⟩ := List.getLast?_eq_some_iff.1 hl
    rw [hq, List.dropLast_concat, fl_append, fl_one, img_oth ls c hc, List.append_assoc, ← Wd.red_append_right, Wd.red_inv_left, List.append_nil]
  · rw [fl_append, fl_one]
theorem red_inv_red (x : List UInt8) : Wd.red (Wd.inv (Wd.red x)) = Wd.red (Wd.inv x) := by
  have e1 : Wd.red (Wd.inv (Wd.red x) ++ x ++ Wd.inv x) = Wd.red (Wd.inv x) := by
    rw [← red_mid, ← Wd.red_append_left, Wd.red_inv_left]; rfl
  have e2 : Wd.red (Wd.inv (Wd.red x) ++ x ++ Wd.inv x) = Wd.red (Wd.inv (Wd.red x)) := by
    rw [List.append_assoc, ← Wd.red_append_right, Wd.red_inv_right, List.append_nil]
  rw [← e2, e1]
theorem fl_inv (ls : List (List UInt8)) : ∀ x : List UInt8, (∀ c ∈ x, Wd.isL c = true) → fl ls (Wd.inv x) = Wd.inv (fl ls x)
  | [], _ => rfl
  | c :: x, h => by
    have e : Wd.inv (c :: x) = Wd.inv x ++ [Wd.oth c] := by simp [Wd.inv]
    have e2 : fl ls (c :: x) = img ls c ++ fl ls x := by simp [fl]
    rw [e, fl_append, fl_one, fl_inv ls x (fun y hy => h y (by simp [hy])), e2, Wd.inv_append, img_oth ls c (h c (by simp))]
theorem red_congr {h h' : UInt8 → List UInt8} : ∀ l : List UInt8, (∀ c ∈ l, Wd.red (h c) = Wd.red (h' c)) → Wd.red (l.flatMap h) = Wd.red (l.flatMap h')
  | [], _ => rfl
  | c :: l, hh => by
    rw [List.flatMap_cons, List.flatMap_cons, ← Wd.red_append_left, ← Wd.red_append_right, hh c (by simp), red_congr l (fun d hd => hh d (by simp [hd])), Wd.red_append_right, Wd.red_append_left]
theorem stAt_map (f g : List (List UInt8)) (k : Nat) (hk : k < f.length) : stAt (comL f g) k = apL g (stAt f k) := by
  unfold comL
  rw [stAt_eq (by simpa using hk), stAt_eq hk]; simp
/-- Images of images. -/
theorem com_img (f g : List (List UInt8)) (h4 : f.length = 4) (hf : ∀ u ∈ f, ∀ x ∈ u, Wd.isL x = true) (u : List UInt8) (hu : ∀ x ∈ u, Wd.isL x = true) : apL (comL f g) u = apL g (apL f u) := by
  rw [apL_fl, apL_fl g, apL_fl f]
  have hm : ∀ k, k < 4 → ∀ x ∈ stAt f k, Wd.isL x = true := fun k hk => hf _ (stAt_mem (by omega))
  have hfl : ∀ x ∈ fl f u, Wd.isL x = true := fun x hx => by
    obtain ⟨c, hc, hx⟩ := List.mem_flatMap.1 hx
    have h8 := (letter_at c (hu c hc)).1
    unfold img at hx
    split at hx
    · exact Wd.all_inv (hm _ (by omega)) x hx
    · exact hm _ (by omega) x hx
  rw [fl_red g _ hfl]
  have e : fl g (fl f u) = u.flatMap (fun c => fl g (img f c)) := by unfold fl; rw [List.flatMap_assoc]
  rw [e]
  refine red_congr u fun c hc => ?_
  have h8 := (letter_at c (hu c hc)).1
  have hs := stAt_map f g (lnoN c / 2) (by omega)
  unfold img
  rw [hs]
  split
  · rw [apL_fl, red_inv_red, fl_inv g _ (hm _ (by omega))]
  · rw [apL_fl, Wd.red_red]
theorem apL_join (f : List (List UInt8)) (u v : List UInt8) : Wd.red (apL f u ++ apL f v) = apL f (u ++ v) := by
  rw [apL_fl, apL_fl, apL_fl, fl_append, ← Wd.red_append]
/-- How long images are. -/
theorem fl_len (ls : List (List UInt8)) (m : Nat) (h4 : ls.length = 4) (hm : ∀ u ∈ ls, u.length ≤ m) : ∀ l : List UInt8, (∀ x ∈ l, Wd.isL x = true) → (fl ls l).length ≤ m * l.length
  | [], _ => by simp [fl]
  | c :: l, h => by
    have h8 := (letter_at c (h c (by simp))).1
    have ih := fl_len ls m h4 hm l (fun x hx => h x (by simp [hx]))
    have e2 : fl ls (c :: l) = img ls c ++ fl ls l := by simp [fl]
    have h1 : (img ls c).length ≤ m := by
      unfold img
      have := hm (stAt ls (lnoN c / 2)) (stAt_mem (by omega))
      split
      · rw [Wd.inv_length]; exact this
      · exact this
    rw [e2, List.length_append, List.length_cons, Nat.mul_succ]
    omega
theorem apL_len2 (ls : List (List UInt8)) (m : Nat) (h4 : ls.length = 4) (hm : ∀ u ∈ ls, u.length ≤ m) (l : List UInt8) (h : ∀ x ∈ l, Wd.isL x = true) : (apL ls l).length ≤ m * l.length := by
  rw [apL_fl]
  exact Nat.le_trans (Wd.red_length _).1 (fl_len ls m h4 hm l h)
theorem apL_all (ls : List (List UInt8)) (h4 : ls.length = 4) (hf : ∀ u ∈ ls, ∀ x ∈ u, Wd.isL x = true) (l : List UInt8) (h : ∀ x ∈ l, Wd.isL x = true) : ∀ x ∈ apL ls l, Wd.isL x = true := by
  rw [apL_fl]
  refine Wd.all_red fun x hx => ?_
  obtain ⟨c, hc, hx⟩ := List.mem_flatMap.1 hx
  have h8 := (letter_at c (h c hc)).1
  have hm : ∀ k, k < 4 → ∀ x ∈ stAt ls k, Wd.isL x = true := fun k hk => hf _ (stAt_mem (by omega))
  unfold img at hx
  split at hx
  · exact Wd.all_inv (hm _ (by omega)) x hx
  · exact hm _ (by omega) x hx
theorem apL_red (ls : List (List UInt8)) (l : List UInt8) : Wd.red (apL ls l) = apL ls l := by rw [apL_fl, Wd.red_red]
end Go.Proofs.Ytejmbbnhdojcbaa
