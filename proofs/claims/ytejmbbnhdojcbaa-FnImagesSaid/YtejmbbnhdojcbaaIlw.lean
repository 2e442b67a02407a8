/- FnImages: the walk of the law. Conditions: none. -/
import Derived.Test.YtejmbbnhdojcbaaIlaw
namespace Go.Proofs.Ytejmbbnhdojcbaa
open Go.RowKit
set_option linter.unusedVariables false

/-- What is kept: lists of texts in blocks. -/
def Kp (w : World) (L : List (Nat × List (List UInt8))) (wr : World) : Prop := Below w.heap.size w wr ∧ ∀ (i g : Nat) (ls : List (List UInt8)), L[i]? = some (g, ls) → SM wr g ls
theorem Kp.zero (w : World) : Kp w [] w := ⟨Below.refl _ _, fun i g ls h => by simp at h⟩
theorem Kp.below {w wr : World} {L : List (Nat × List (List UInt8))} (h : Kp w L wr) : Below w.heap.size w wr := h.1
theorem Kp.call {w w1 w2 : World} {L : List (Nat × List (List UInt8))} (hb : Below w1.heap.size w1 w2) (h : Kp w L w1) : Kp w L w2 :=
  ⟨bl_call hb h.1, fun i g ls hi => (h.2 i g ls hi).heap (hb.block _ (h.2 i g ls hi).lt)⟩
theorem Kp.add {w w1 w2 : World} {L : List (Nat × List (List UInt8))} (h : Kp w L w1) (hb : Below w1.heap.size w1 w2) {g : Nat} {ls : List (List UInt8)} (hm : SM w2 g ls) : Kp w (L ++ [(g, ls)]) w2 := by
  have hc := Kp.call hb h
  refine ⟨hc.1, fun i g' x hi => ?_⟩
  rw [List.getElem?_append] at hi
  split at hi
  · exact hc.2 i g' x hi
  · have e : i - L.length = 0 := by
      have := (List.getElem?_eq_some_iff.1 hi).1
      simp at this; omega
    rw [e] at hi
    simp at hi
    obtain ⟨rfl, rfl⟩ := hi
    exact hm
theorem Kp.strs {w wr : World} {L : List (Nat × List (List UInt8))} (h : Kp w L wr) (i : Nat) {g : Nat} {ls : List (List UInt8)} (hi : L[i]? = some (g, ls)) : Strs wr (some ⟨g, 0, none⟩) ls := (h.2 i g ls hi).strs

theorem imgs_ok {m : Nat} {ls : List (List UInt8)} (h4 : ls.length = 4) (h : Imgs m ls) (hm : m ≤ 40) : imOk ls = true ∧ Sml ls := by
  have key : ∀ j, j < ls.length → stAt ls j ∈ ls := fun j hj => stAt_mem hj
  refine ⟨imOk_iff.2 ⟨h4, fun j hj => ?_⟩, by omega, fun k hk => ?_⟩
  · obtain ⟨h1, h2, h3⟩ := h _ (key j hj)
    unfold lsOk
    rw [vld_iff.2 ⟨h1, by omega⟩]
    simp [isRed, h3]
  · have := (h _ (key k hk)).2.1
    omega
theorem images_n (A : Option Addr) (c : Nat) (l : List UInt8) (n : Nat) (e : l.length = n) (hn : n ≤ 3001) (most : Nat) (hm : most ≤ 20) : ∀ w : World, Byi w A c l →
    Calls Try.prog 8 #[.slice A n c, .int .i64 most] w fun e w' => (∃ g cc ls, e = .returned (.slice (some ⟨g, 0, none⟩) 4 cc) ∧ ls.length = 4 ∧ Imgs most ls ∧ w.heap.size ≤ g ∧ SM w' g ls) ∧ Below w.heap.size w w' := by
  subst e
  exact fun w h => images_any A c l (by omega) most hm w h.1
def GivesApp (ls : List (List UInt8)) (l r : List UInt8) : Prop := ∀ (A : Option Addr) (c : Nat) (w : World), Strs w A ls →
    Calls Try.prog 10 #[.slice A 4 c, .string (bs l)] w fun e w' => e = .returned (.tuple #[.string (bs r), .int .i64 0]) ∧ Below w.heap.size w w'
def GivesVal (ls : List (List UInt8)) : Prop := ∀ (A : Option Addr) (c : Nat) (w : World), Strs w A ls →
    Calls Try.prog 13 #[.slice A 4 c] w fun e w' => e = .returned (.bool true) ∧ Below w.heap.size w w'
theorem gives_app {ls : List (List UInt8)} {l r : List UInt8} {m : Nat} (h4 : ls.length = 4) (hi : Imgs m ls) (hm : m ≤ 40) (hv : vld l = true) (hr : apL ls l = r) (h40 : r.length ≤ 40) : GivesApp ls l r := fun A c w h => by
  subst hr
  obtain ⟨h1, h2⟩ := imgs_ok h4 hi hm
  have := iAI_yes A c ls l (by have := (vld_iff.1 hv).2; omega) h2 h1 hv w h
  unfold tl2 tc2 at this
  rw [if_pos h40, if_pos h40, h4] at this
  exact this
theorem gives_val {ls : List (List UInt8)} {m : Nat} (h4 : ls.length = 4) (hi : Imgs m ls) (hm : m ≤ 40) : GivesVal ls := fun A c w h => by
  obtain ⟨h1, h2⟩ := imgs_ok h4 hi hm
  have := iVal_any A c ls h2 w h
  rw [h4, h1] at this
  exact this
theorem com_imgs {f g : List (List UInt8)} {m n k : Nat} (g4 : g.length = 4) (hf : Imgs m f) (hg : Imgs n g) (hk : n * m ≤ k) : Imgs k (comL f g) := fun u hu => by
  unfold comL at hu
  obtain ⟨x, hx, rfl⟩ := List.mem_map.1 hu
  obtain ⟨h1, h2, h3⟩ := hf x hx
  have h5 := apL_len2 g n g4 (fun u hu => (hg u hu).2.1) x h1
  have h6 : n * x.length ≤ n * m := Nat.mul_le_mul (Nat.le_refl _) h2
  exact ⟨apL_all g g4 (fun u hu => (hg u hu).1) x h1, by omega, apL_red g x⟩

theorem images_facts (f g : List (List UInt8)) (u v : List UInt8) (f4 : f.length = 4) (g4 : g.length = 4) (hf : Imgs 2 f) (hg : Imgs 2 g) (hu : Wrd 4 u) (hv : Wrd 4 v) (lu : u.length ≤ 4) (lv : v.length ≤ 4) :
    ∃ a b c x : List UInt8, GivesApp f u a ∧ GivesApp f v b ∧ GivesApp f (u ++ v) c ∧ Gives 11 #[.string (bs a), .string (bs b)] (.tuple #[.string (bs c), .int .i64 0]) ∧
      GivesVal f ∧ GivesVal (comL f g) ∧ GivesApp (comL f g) u x ∧ GivesApp g a x := by
  have vu := wrd_vld hu (by omega)
  have vv := wrd_vld hv (by omega)
  have vuv := vld_app vu vv (by omega)
  have c4 : (comL f g).length = 4 := by rw [comL_len, f4]
  have hc : Imgs 4 (comL f g) := com_imgs g4 hf hg (by omega)
  have A := fun l h => apL_len2 f 2 f4 (fun u hu => (hf u hu).2.1) l h
  have la := A u (wrd_isL hu)
  have lb := A v (wrd_isL hv)
  have lc := A (u ++ v) (vld_iff.1 vuv).1
  rw [List.length_append] at lc
  have va : vld (apL f u) = true := vld_iff.2 ⟨apL_all f f4 (fun u hu => (hf u hu).1) u (wrd_isL hu), by omega⟩
  have vb : vld (apL f v) = true := vld_iff.2 ⟨apL_all f f4 (fun u hu => (hf u hu).1) v (wrd_isL hv), by omega⟩
  have lx := apL_len2 (comL f g) 4 c4 (fun u hu => (hc u hu).2.1) u (wrd_isL hu)
  have ex := com_img f g f4 (fun u hu => (hf u hu).1) u (wrd_isL hu)
  exact ⟨apL f u, apL f v, apL f (u ++ v), apL (comL f g) u, gives_app f4 hf (by omega) vu rfl (by omega), gives_app f4 hf (by omega) vv rfl (by omega), gives_app f4 hf (by omega) vuv rfl (by omega),
    gives_join va vb (apL_join f u v) (by omega), gives_val f4 hf (by omega), gives_val c4 hc (by omega), gives_app c4 hc (by omega) vu rfl (by omega), gives_app g4 hg (by omega) va ex.symm (by omega)⟩
theorem com_call (f g : List (List UInt8)) (f4 : f.length = 4) (g4 : g.length = 4) (hf : Imgs 2 f) (hg : Imgs 2 g) (A1 A2 : Option Addr) (c1 c2 : Nat) (w : World) (h1 : Strs w A1 f) (h2 : Strs w A2 g) :
    Calls Try.prog 12 #[.slice A1 4 c1, .slice A2 4 c2] w fun e w' => ∃ gg cc, e = .returned (.tuple #[.slice (some ⟨gg, 0, none⟩) 4 cc, .int .i64 0]) ∧ SM w' gg (comL f g) ∧ Below w.heap.size w w' := by
  obtain ⟨h3, h4⟩ := imgs_ok f4 hf (by omega)
  obtain ⟨h5, h6⟩ := imgs_ok g4 hg (by omega)
  refine (iCom_yes A1 A2 c1 c2 f g h4 h6 h3 h5 (fun j hj => ?_) w h1 h2).mono fun e w' ⟨gg, cc, a, b, c, d⟩ => ⟨gg, cc, a, c, d⟩
  obtain ⟨k1, k2, k3⟩ := hf _ (stAt_mem (show j < f.length by omega))
  have := apL_len2 g 2 g4 (fun u hu => (hg u hu).2.1) _ k1
  omega

set_option maxRecDepth 100000 in
set_option maxHeartbeats 400000 in
theorem imagesBig (A1 A2 : Option Addr) (n1 n2 c1 c2 : Nat) (h : 3000 < n1 ∨ 3000 < n2) (w : World) :
    Calls Try.prog 3 #[.slice A1 n1 c1, .slice A2 n2 c2] w fun e w' => e = .returned (.bool true) ∧ Below w.heap.size w w' := by
  have H := Lib.hid (fun w => long_yes A1 A2 n1 n2 c1 c2 h w)
  clear h
  go_enter Try.func3, Try.ntmps3
  go_wp2_with (go_at_call 7; refine (H.out _).mono ?_; rintro e w1 ⟨rfl, rfl⟩)
  go_ret
  exact ⟨rfl, Below.refl _ _⟩
set_option maxRecDepth 100000 in
set_option maxHeartbeats 6400000 in
theorem imagesLaw (A1 A2 : Option Addr) (c1 c2 : Nat) (l1 l2 : List UInt8) (n1 n2 : Nat) (e1 : l1.length = n1) (e2 : l2.length = n2) (hn1 : n1 ≤ 3000) (hn2 : n2 ≤ 3000) (w : World) (h1 : Byi w A1 c1 l1) (h2 : Byi w A2 c2 l2) :
    Calls Try.prog 3 #[.slice A1 n1 c1, .slice A2 n2 c2] w fun e w' => e = .returned (.bool true) ∧ Below w.heap.size w w' := by
  have S0 := Kp.zero w
  have H1 := Lib.hid h1
  have H2 := Lib.hid h2
  have HLong := Lib.hid (fun w => long_no A1 A2 n1 n2 c1 c2 hn1 hn2 w)
  have KF := Lib.hid (images_n A1 c1 l1 n1 e1 (by omega) 2 (by omega))
  have KG := Lib.hid (images_n A2 c2 l2 n2 e2 (by omega) 2 (by omega))
  have KW := Lib.hid (word_n A2 c2 l2 n2 e2 (by omega) 4 4 (by omega) (by omega) (by omega))
  have KW3 := Lib.hid (fun A c => word_n A c (7 :: l1) (n1 + 1) (by rw [← e1]; rfl) (by omega) 4 4 (by omega) (by omega) (by omega))
  have E1 := Lib.hid e1
  have HN1 := Lib.hid hn1
  clear h1 h2 e1 e2 hn1 hn2
  go_enter Try.func3, Try.ntmps3
  go_wp2_with (first
    | (go_at_call 7; refine (HLong.out _).mono ?_; rintro e w1 ⟨rfl, rfl⟩)
    | (go_at_call_of 8 (Value.slice A1 n1 c1); refine (KF.out _ (H1.out.call (Kp.below (by assumption)))).mono ?_; rintro e w1 ⟨⟨gf, cf, f, rfl, f4, fi, hge, hsm⟩, hb⟩; have F4 := Lib.hid f4; have FI := Lib.hid fi; have hS := Kp.add (by assumption) hb hsm; clear hb f4 fi hge hsm)
    | (go_at_call_of 8 (Value.slice A2 n2 c2); refine (KG.out _ (H2.out.call (Kp.below (by assumption)))).mono ?_; rintro e w1 ⟨⟨gg, cg, g, rfl, g4, gi, hge, hsm⟩, hb⟩; have G4 := Lib.hid g4; have GI := Lib.hid gi; have hS := Kp.add (by assumption) hb hsm; clear hb g4 gi hge hsm)
    | (go_at_call_of 9 (Value.slice A2 n2 c2); refine (KW.out _ (H2.out.call (Kp.below (by assumption)))).mono ?_; rintro e w1 ⟨⟨u, hu, lu, rfl⟩, hb⟩; have HU := Lib.hid hu; have LU := Lib.hid lu; have hS := Kp.call hb (by assumption); clear hb hu lu)
    | (at_builtin; refine wpList_cat_n rfl (.tmp 32) (.tmp 33) rfl 7 7 rfl A1 c1 l1 n1 E1.out HN1.out rfl rfl (H1.out.call (Kp.below (by assumption))) (Below.refl _ _) ?_; intro g3 k3 w3 hb3 hbw; have HB3 := Lib.hid hb3; have hS := Kp.call hbw (by assumption); clear hb3 hbw)
    | (go_at_call 9; refine (KW3.out _ _ _ HB3.out).mono ?_; rintro e w1 ⟨⟨v, hv, lv, rfl⟩, hb⟩; have HV := Lib.hid hv; have LV := Lib.hid lv; have hS := Kp.call hb (by assumption); clear hb hv lv))
  obtain ⟨a, b, c, x, k1, k2, k3, k4, k5, k6, k7, k8⟩ := images_facts f g u v F4.out G4.out FI.out GI.out HU.out HV.out LU.out LV.out
  have P1 := Lib.hid k1
  have P2 := Lib.hid k2
  have P3 := Lib.hid k3
  have P4 := Lib.hid k4
  have P5 := Lib.hid k5
  have P6 := Lib.hid k6
  have P7 := Lib.hid k7
  have P8 := Lib.hid k8
  have PC := Lib.hid (com_call f g F4.out G4.out FI.out GI.out)
  have lsum : u.length + v.length ≤ 8 := by have := LU.out; have := LV.out; omega
  clear k1 k2 k3 k4 k5 k6 k7 k8 KF KG KW KW3 HB3
  go_wp2_with (first
    | (go_at_call_of 10 (#[Value.slice (some ⟨gf, 0, none⟩) 4 cf, Value.string (bs u)]); refine (P1.out _ _ _ (Kp.strs (by assumption) 0 rfl)).mono ?_; rintro e w1 ⟨rfl, hb⟩; have hS := Kp.call hb (by assumption); clear hb)
    | (go_at_call_of 10 (#[Value.slice (some ⟨gf, 0, none⟩) 4 cf, Value.string (bs v)]); refine (P2.out _ _ _ (Kp.strs (by assumption) 0 rfl)).mono ?_; rintro e w1 ⟨rfl, hb⟩; have hS := Kp.call hb (by assumption); clear hb)
    | (go_at_call_of 10 (#[Value.slice (some ⟨gf, 0, none⟩) 4 cf, Value.string (bs (u ++ v))]); refine (P3.out _ _ _ (Kp.strs (by assumption) 0 rfl)).mono ?_; rintro e w1 ⟨rfl, hb⟩; have hS := Kp.call hb (by assumption); clear hb)
    | (go_at_call 11; refine (P4.out _).mono ?_; rintro e w1 ⟨rfl, hb⟩; have hS := Kp.call hb (by assumption); clear hb)
    | (go_at_call 12; refine (PC.out _ _ _ _ _ (Kp.strs (by assumption) 0 rfl) (Kp.strs (by assumption) 1 rfl)).mono ?_; rintro e w1 ⟨gb, cb, rfl, hsm, hb⟩; have hS := Kp.add (by assumption) hb hsm; clear hb hsm)
    | (go_at_call_of 13 (Value.slice (some ⟨gf, 0, none⟩) 4 cf); refine (P5.out _ _ _ (Kp.strs (by assumption) 0 rfl)).mono ?_; rintro e w1 ⟨rfl, hb⟩; have hS := Kp.call hb (by assumption); clear hb)
    | (go_at_call_of 13 (Value.slice (some ⟨gb, 0, none⟩) 4 cb); refine (P6.out _ _ _ (Kp.strs (by assumption) 2 rfl)).mono ?_; rintro e w1 ⟨rfl, hb⟩; have hS := Kp.call hb (by assumption); clear hb)
    | (go_at_call_of 10 (#[Value.slice (some ⟨gb, 0, none⟩) 4 cb, Value.string (bs u)]); refine (P7.out _ _ _ (Kp.strs (by assumption) 2 rfl)).mono ?_; rintro e w1 ⟨rfl, hb⟩; have hS := Kp.call hb (by assumption); clear hb)
    | (go_at_call_of 10 (#[Value.slice (some ⟨gg, 0, none⟩) 4 cg, Value.string (bs a)]); refine (P8.out _ _ _ (Kp.strs (by assumption) 1 rfl)).mono ?_; rintro e w1 ⟨rfl, hb⟩; have hS := Kp.call hb (by assumption); clear hb))
  go_ret
  exact ⟨by rfl, Kp.below (by assumption)⟩
theorem imagesWalk (A1 : Option Addr) (n1 c1 : Nat) (l1 : List UInt8) (A2 : Option Addr) (n2 c2 : Nat) (l2 : List UInt8) (w : World) (h1 : l1.length = n1 ∧ l1.length ≤ 9223372036854775807 ∧ Byi w A1 c1 l1) (h2 : l2.length = n2 ∧ l2.length ≤ 9223372036854775807 ∧ Byi w A2 c2 l2) :
    Calls Try.prog 3 #[.slice A1 n1 c1, .slice A2 n2 c2] w fun e w' => e = .returned (.bool true) ∧ Below w.heap.size w w' := by
  rcases both_len_cases n1 n2 with h | ⟨a, b⟩
  · exact imagesBig A1 A2 n1 n2 c1 c2 h w
  · exact imagesLaw A1 A2 c1 c2 l1 l2 n1 n2 h1.1 h2.1 a b w h1.2.2 h2.2.2
end Go.Proofs.Ytejmbbnhdojcbaa
