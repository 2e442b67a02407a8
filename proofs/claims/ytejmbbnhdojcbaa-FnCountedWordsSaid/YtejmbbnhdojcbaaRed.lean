/- Reduction of words: the walks of both sides. Conditions: none. -/
import Derived.Test.YtejmbbnhdojcbaaInv
namespace Go.Proofs.Ytejmbbnhdojcbaa
open Go.RowKit

theorem take_atb {l : List UInt8} {k : Nat} (h : k < l.length) : l.take (k + 1) = l.take k ++ [atb l k] := by
  rw [List.take_succ_eq_append_getElem h, atb_eq h]
theorem red_take (l : List UInt8) (k : Nat) (h : k < l.length) : Wd.red (l.take (k + 1)) = Wd.step (Wd.red (l.take k)) (atb l k) := by
  rw [take_atb h, Wd.red_snoc]

theorem own_drewN {w : World} {B : Nat} {e : TypeId} {v : Value} {l : List UInt8} (h : Own w B e v l) (n : Nat) : Own (w.drewN n) B e v l := h
theorem own_shape {w : World} {B : Nat} {e : TypeId} {v : Value} {l : List UInt8} (h : Own w B e v l) : ∃ g cap, v = .slice (some ⟨g, 0, none⟩) l.length cap := by
  obtain ⟨⟨_, h2⟩, hn⟩ := h
  rcases h2 with ⟨rfl, _⟩ | ⟨g, cap, cur, rfl, _⟩
  · exact absurd rfl hn
  · exact ⟨g, cap, rfl⟩
theorem own_cap {w : World} {B : Nat} {e : TypeId} {g cap : Nat} {l : List UInt8} (h : Own w B e (.slice (some ⟨g, 0, none⟩) l.length cap) l) : l.length ≤ cap := by
  obtain ⟨⟨_, h2⟩, _⟩ := h
  rcases h2 with ⟨h0, _⟩ | ⟨g', cap', cur, hv, _, _, hn, _⟩
  · cases h0
  · cases hv; exact hn
theorem own_at {w : World} {B : Nat} {e : TypeId} {g cap : Nat} {l : List UInt8} (h : Own w B e (.slice (some ⟨g, 0, none⟩) l.length cap) l) {k : Nat} (hk : k < l.length) : w.cell? ⟨g, k, none⟩ = some (.int .u8 ((atb l k).toNat : Int)) := by
  have := h.1.cells (g := g) rfl k (.int .u8 ((atb l k).toNat : Int)) (by simp [byteVals, atb, hk])
  have hadd : (⟨g, 0, none⟩ : Addr).add k = ⟨g, k, none⟩ := by unfold Addr.add; split <;> simp_all
  rwa [hadd] at this
theorem own_last {w : World} {B : Nat} {e : TypeId} {g cap : Nat} {q : List UInt8} {x : UInt8} (h : Own w B e (.slice (some ⟨g, 0, none⟩) (q ++ [x]).length cap) (q ++ [x])) : w.cell? ⟨g, q.length, none⟩ = some (.int .u8 (x.toNat : Int)) := by
  have := own_at h (k := q.length) (by simp)
  rwa [show atb (q ++ [x]) q.length = x by simp [atb]] at this
theorem own_pop {w : World} {B : Nat} {e : TypeId} {g cap : Nat} {q : List UInt8} {x : UInt8} (h : Own w B e (.slice (some ⟨g, 0, none⟩) (q ++ [x]).length cap) (q ++ [x])) : Own w B e (.slice (some ⟨g, 0, none⟩) q.length cap) q := by
  obtain ⟨h1, h2⟩ := h
  refine ⟨ownsRow_pop (last := [.int .u8 (x.toNat : Int)]) (by simp [byteVals]) ?_, by simp⟩
  rw [List.length_append, byteVals_snoc] at h1
  exact h1

set_option maxHeartbeats 1600000 in
theorem sRed_any (l : List UInt8) (hl : l.length ≤ 1048576) (hL : ∀ x ∈ l, Wd.isL x = true) (w : World) :
    Calls Try.prog 33 #[.string (bs l)] w fun e w' => e = .returned (.string (bs (Wd.red l))) ∧ Below w.heap.size w w' := by
  go_enter Try.func33, Try.ntmps33
  go_wp2
  go_loopw [3, 4] (fun v i wr => ∃ k : Nat, k ≤ l.length ∧ i = .int .i64 k ∧ Own wr w.heap.size 5 v (Wd.red (l.take k)) ∧ Below w.heap.size w wr) (fun _ i _ => l.length - (intOf i).toNat)
  case atStart => exact ⟨0, by omega, rfl, own_made w w.heap.size 5 (by omega), below_al (Below.refl _ _) (Nat.le_refl _) _⟩
  case round =>
    obtain ⟨k, hk, rfl, hown, hbel⟩ := hrel
    by_cases hlt : k < l.length
    · have i2 : (k : Int) < l.length := by omega
      have i3 : (0 : Int) ≤ k := by omega
      have hs := red_take l k hlt
      have rl := (Wd.red_length (l.take k)).1
      have ll : (Wd.red (l.take k)).length < 1000000000 := by simp at rl; omega
      have hsame : ∀ n, Calls Try.prog 56 #[.int .u8 (atb l k).toNat] (wr.drewN n) fun e w'' => e = .returned (.int .u8 (Wd.oth (atb l k)).toNat) ∧ w'' = wr.drewN n := fun n => (other_any (atb l k) (vld_at hL hlt) _).mono fun _ _ ⟨h1, h2⟩ => ⟨h1, h2.symm⟩
      have HSame := Lib.hid hsame
      clear hsame rl
      rcases List.eq_nil_or_concat (Wd.red (l.take k)) with hr | ⟨q, x, hr⟩
      · rw [hr] at hs hown
        have hs2 : Wd.red (l.take (k + 1)) = [] ++ [atb l k] := by rw [hs, Wd.step_nil]; rfl
        have HS := Lib.hid hs2
        obtain ⟨g, cap, hv⟩ := own_shape hown
        subst hv
        have HO := Lib.hid hown
        clear hs hs2 hr ll hown
        go_wp2
        go_quiet (fail)
        go_wp2_with (at_builtin; refine wpList_pushByte rfl (.tmp 33) (.tmp 37) 22 rfl w.heap.size 5 Try.underlying22 info_u8 _ _ (atb l k) _ rfl rfl (own_drewN HO.out nq) (below_drewN hbel nq) (Nat.le_refl _) rfl (by simp) ?_)
        intro v' w' hO hB
        go_wp2
        go_roundw
        case rel => exact ⟨k + 1, by omega, by go_num, by rw [HS.out]; exact hO, hB⟩
        case measure => simp [intOf]; omega
      · rw [List.concat_eq_append] at hr
        rw [hr] at hs hown ll
        obtain ⟨g, cap, hv⟩ := own_shape hown
        subst hv
        have hcell := own_last hown
        have hq : (q.length : Int) ≤ 1048576 := by simp at ll; have := (Wd.red_length (l.take k)).1; rw [hr] at this; simp at this; omega
        have e1 : ((q ++ [x]).length : Int) = (q.length : Int) + 1 := by simp
        have hcap := own_cap hown
        have i4 : q.length < cap := by simp at hcap; omega
        rw [Wd.step_snoc] at hs
        have HO := Lib.hid hown
        have HR := Lib.hid hr
        have i5 : (0 : Int) < (q.length : Int) + 1 := by omega
        by_cases hx : x = Wd.oth (atb l k)
        · rw [if_pos hx] at hs
          have d : (((x.toNat : Nat) : Int) == ((Wd.oth (atb l k)).toNat : Int)) = true := by rw [hx]; simp
          have HS := Lib.hid hs
          clear hs hr hown hcap hx ll
          go_wp2
          go_quiet ((go_at_call 56; exact Calls.quiet_of_same (HSame.out _)))
          go_wp2
          go_roundw
          case rel => exact ⟨k + 1, by omega, by go_num, by rw [HS.out]; exact own_drewN (own_pop HO.out) _, below_drewN hbel _⟩
          case measure => simp [intOf]; omega
        · rw [if_neg hx] at hs
          have d : (((x.toNat : Nat) : Int) == ((Wd.oth (atb l k)).toNat : Int)) = false := by
            rw [beq_eq_false_iff_ne]; intro h; exact hx (UInt8.toNat_inj.1 (by omega))
          have hs2 : Wd.red (l.take (k + 1)) = (q ++ [x]) ++ [atb l k] := by rw [hs]; simp
          have HS := Lib.hid hs2
          clear hs hs2 hr hown hcap hx
          go_wp2
          go_quiet ((go_at_call 56; exact Calls.quiet_of_same (HSame.out _)))
          go_wp2_with (at_builtin; refine wpList_pushByte rfl (.tmp 33) (.tmp 37) 22 rfl w.heap.size 5 Try.underlying22 info_u8 _ _ (atb l k) _ rfl rfl (own_drewN HO.out nq) (below_drewN hbel nq) (Nat.le_refl _) rfl ll ?_)
          intro v' w' hO hB
          go_wp2
          go_roundw
          case rel => exact ⟨k + 1, by omega, by go_num, by rw [HS.out]; simpa using hO, hB⟩
          case measure => simp [intOf]; omega
    · obtain rfl : k = l.length := by omega
      rw [List.take_length] at hown
      go_wp2_with (refine wpList_str rfl (.tmp 39) 22 9 rfl w.heap.size 5 Try.underlying22 Try.underlying5 Try.underlying9 (Wd.red l) hown ?_)
      go_ret
      exact ⟨rfl, hbel⟩

set_option maxHeartbeats 1600000 in
theorem iRed_any (l : List UInt8) (hl : l.length ≤ 1048576) (w : World) :
    Calls Try.prog 53 #[.string (bs l)] w fun e w' => e = .returned (.string (bs (Wd.red l))) ∧ Below w.heap.size w w' := by
  go_enter Try.func53, Try.ntmps53
  go_wp2
  go_loopw [3, 9] (fun v i wr => ∃ k : Nat, k ≤ l.length ∧ i = .int .i64 k ∧ Own wr w.heap.size 5 v (Wd.red (l.take k)) ∧ Below w.heap.size w wr) (fun _ i _ => l.length - (intOf i).toNat)
  case atStart => exact ⟨0, by omega, rfl, own_made w w.heap.size 5 (by omega), below_al (Below.refl _ _) (Nat.le_refl _) _⟩
  case round =>
    obtain ⟨k, hk, rfl, hown, hbel⟩ := hrel
    by_cases hlt : k < l.length
    · have i2 : (k : Int) < l.length := by omega
      have i3 : (0 : Int) ≤ k := by omega
      have hs := red_take l k hlt
      have rl := (Wd.red_length (l.take k)).1
      have ll : (Wd.red (l.take k)).length < 1000000000 := by simp at rl; omega
      have hsame : ∀ n, Calls Try.prog 43 #[.int .u8 (atb l k).toNat] (wr.drewN n) fun e w'' => e = .returned (.int .u8 (Wd.oth (atb l k)).toNat) ∧ w'' = wr.drewN n := fun n => (iOther_any (atb l k) _).mono fun _ _ ⟨h1, h2⟩ => ⟨h1, h2.symm⟩
      have HSame := Lib.hid hsame
      clear hsame rl
      rcases List.eq_nil_or_concat (Wd.red (l.take k)) with hr | ⟨q, x, hr⟩
      · rw [hr] at hs hown
        have hs2 : Wd.red (l.take (k + 1)) = [] ++ [atb l k] := by rw [hs, Wd.step_nil]; rfl
        have HS := Lib.hid hs2
        obtain ⟨g, cap, hv⟩ := own_shape hown
        subst hv
        have HO := Lib.hid hown
        clear hs hs2 hr ll hown
        go_wp2
        go_quiet (fail)
        go_wp2_with (at_builtin; refine wpList_pushByte rfl (.tmp 32) (.tmp 36) 22 rfl w.heap.size 5 Try.underlying22 info_u8 _ _ (atb l k) _ rfl rfl (own_drewN HO.out nq) (below_drewN hbel nq) (Nat.le_refl _) rfl (by simp) ?_)
        intro v' w' hO hB
        go_wp2
        go_roundw
        case rel => exact ⟨k + 1, by omega, by go_num, by rw [HS.out]; exact hO, hB⟩
        case measure => simp [intOf]; omega
      · rw [List.concat_eq_append] at hr
        rw [hr] at hs hown ll
        obtain ⟨g, cap, hv⟩ := own_shape hown
        subst hv
        have hcell := own_last hown
        have hq : (q.length : Int) ≤ 1048576 := by simp at ll; have := (Wd.red_length (l.take k)).1; rw [hr] at this; simp at this; omega
        have e1 : ((q ++ [x]).length : Int) = (q.length : Int) + 1 := by simp
        have hcap := own_cap hown
        have i4 : q.length < cap := by simp at hcap; omega
        rw [Wd.step_snoc] at hs
        have HO := Lib.hid hown
        have HR := Lib.hid hr
        have i5 : (0 : Int) < (q.length : Int) + 1 := by omega
        by_cases hx : x = Wd.oth (atb l k)
        · rw [if_pos hx] at hs
          have d : (((x.toNat : Nat) : Int) == ((Wd.oth (atb l k)).toNat : Int)) = true := by rw [hx]; simp
          have HS := Lib.hid hs
          clear hs hr hown hcap hx ll
          go_wp2
          go_quiet ((go_at_call 43; exact Calls.quiet_of_same (HSame.out _)))
          go_wp2
          go_roundw
          case rel => exact ⟨k + 1, by omega, by go_num, by rw [HS.out]; exact own_drewN (own_pop HO.out) _, below_drewN hbel _⟩
          case measure => simp [intOf]; omega
        · rw [if_neg hx] at hs
          have d : (((x.toNat : Nat) : Int) == ((Wd.oth (atb l k)).toNat : Int)) = false := by
            rw [beq_eq_false_iff_ne]; intro h; exact hx (UInt8.toNat_inj.1 (by omega))
          have hs2 : Wd.red (l.take (k + 1)) = (q ++ [x]) ++ [atb l k] := by rw [hs]; simp
          have HS := Lib.hid hs2
          clear hs hs2 hr hown hcap hx
          go_wp2
          go_quiet ((go_at_call 43; exact Calls.quiet_of_same (HSame.out _)))
          go_wp2_with (at_builtin; refine wpList_pushByte rfl (.tmp 32) (.tmp 36) 22 rfl w.heap.size 5 Try.underlying22 info_u8 _ _ (atb l k) _ rfl rfl (own_drewN HO.out nq) (below_drewN hbel nq) (Nat.le_refl _) rfl ll ?_)
          intro v' w' hO hB
          go_wp2
          go_roundw
          case rel => exact ⟨k + 1, by omega, by go_num, by rw [HS.out]; simpa using hO, hB⟩
          case measure => simp [intOf]; omega
    · obtain rfl : k = l.length := by omega
      rw [List.take_length] at hown
      go_wp2_with (refine wpList_str rfl (.tmp 39) 22 9 rfl w.heap.size 5 Try.underlying22 Try.underlying5 Try.underlying9 (Wd.red l) hown ?_)
      go_ret
      exact ⟨rfl, hbel⟩

end Go.Proofs.Ytejmbbnhdojcbaa
