/- NextWord: the walks of both sides and of the law. Conditions: none. -/
import Derived.Test.YtejmbbnhdojcbaaRank
import Derived.Deep.RegionWith
import Derived.BigRegion
import Derived.RegionTactic
namespace Go.Proofs.Ytejmbbnhdojcbaa
open Go.RowKit
set_option linter.unusedVariables false

/-- The first letter that may stand behind a word. -/
def nxt (l : List UInt8) : UInt8 := if l.length ≠ 0 ∧ atb l (l.length - 1) = 65 then 65 else 97
/-- A word with k first letters more. -/
def goN (l : List UInt8) : Nat → List UInt8
  | 0 => l
  | k + 1 => goN l k ++ [nxt (goN l k)]
theorem goN_len (l : List UInt8) : ∀ k, (goN l k).length = l.length + k
  | 0 => rfl
  | k + 1 => by unfold goN; rw [List.length_append, goN_len l k]; rfl
theorem let_01 : atb letters 0 = 97 ∧ atb letters 1 = 65 ∧ Wd.oth 97 = 65 ∧ Wd.oth 65 = 97 := by decide
theorem nx1 {u : List UInt8} {x : Nat} (hx : x = 0 ∨ (x = 1 ∧ u.length ≠ 0 ∧ atb u (u.length - 1) = 65)) (hf : u.length = 0 ∨ atb u (u.length - 1) ≠ Wd.oth (atb letters x)) : nxt u = atb letters x := by
  obtain ⟨a, b, c, d⟩ := let_01
  unfold nxt
  rcases hx with rfl | ⟨rfl, h1, h2⟩
  · rw [if_neg, a]
    rintro ⟨h1, h2⟩
    rcases hf with h | h
    · exact h1 h
    · rw [a, c] at h; exact h h2
  · rw [if_pos ⟨h1, h2⟩, b]
theorem nx2 {u : List UInt8} {x : Nat} (hx : x = 0 ∨ (x = 1 ∧ u.length ≠ 0 ∧ atb u (u.length - 1) = 65)) (hu : u.length ≠ 0) (hf : atb u (u.length - 1) = Wd.oth (atb letters x)) : x = 0 ∧ atb u (u.length - 1) = 65 := by
  obtain ⟨a, b, c, d⟩ := let_01
  rcases hx with rfl | ⟨rfl, h1, h2⟩
  · rw [a, c] at hf; exact ⟨rfl, hf⟩
  · rw [b, d, h2] at hf; exact absurd hf (by decide)
/-- The length of a string's value. -/
def szOf : Value → Nat
  | .string s => s.size
  | _ => 0
theorem szOf_bs (l : List UInt8) : szOf (.string (bs l)) = l.length := rfl
theorem let_one : ∀ x : Nat, x < 8 → (letters.take (x + 1)).drop x = [atb letters x] := by decide +kernel

/-- 'string([]byte{c})'. -/
theorem run_str1 {P : Program} (w : World) (src dst e : TypeId) (c : UInt8) (cap : Nat) (hs : P.underlying src = some (.slice e)) (he : P.underlying e = some (.int .u8)) (hd : P.underlying dst = some .string) :
    (convert src dst (.slice (some ⟨w.heap.size, 0, none⟩) 1 cap)).run P (w.alloc (.cells #[.int .u8 c.toNat] e)) = .ok (.string (bs [c])) (w.alloc (.cells #[.int .u8 c.toNat] e)) := by
  refine run_convert_bytes_back _ src dst e ⟨w.heap.size, 0, none⟩ cap [c] hs he hd (Lib.bytes_of_row (heap_alloc_new w _) ?_)
  simp [Lib.byteCells]

theorem wpList_str1 {P : Program} {w : World} {ops : Array Oper} {rest : List Oper} {o : Oper} {a : Act} {Q : Exit → Act → World → Prop} (hgd : o.guard = none) (x : Operand) (src dst e : TypeId) (ho : o.op = .convert src dst x)
    (hs : P.underlying src = some (.slice e)) (he : P.underlying e = some (.int .u8)) (hd : P.underlying dst = some .string) (c : UInt8) (cap : Nat) (hx : a.eval x = .slice (some ⟨w.heap.size, 0, none⟩) 1 cap)
    (h : wpList P ops Q rest (a.put o.dst (.string (bs [c]))) (w.alloc (.cells #[.int .u8 c.toNat] e))) : wpList P ops Q (o :: rest) a (w.alloc (.cells #[.int .u8 c.toNat] e)) := by
  refine wpList_plain hgd fun K hK => ?_
  unfold Oper.wp execOp
  simp only [ho, hx, run_str1 w src dst e c cap hs he hd, Sem.run_bind, Result.andThen_ok, Sem.run_pure]
  exact hK _ _ h

set_option maxHeartbeats 1600000 in
theorem iFill_any (g : Int) (p : Nat) (hg : 2 * g = (p : Int)) (hp : 2 ≤ p) (hp8 : p ≤ 8) (l : List UInt8) (m n : Nat) (hn : n = l.length + m) (h41 : n ≤ 1000) (w : World) :
    Calls Try.prog 46 #[.int .i64 g, .string (bs l), .int .i64 n] w fun e w' => e = .returned (.string (bs (goN l m))) ∧ Below w.heap.size w w' := by
  have hB0 := Below.refl w.heap.size w
  have fl := letters_len
  have HN := Lib.hid hn
  have p0 : (0 : Int) ≤ p := by omega
  have p8 : (p : Int) ≤ letters.length := by rw [letters_len]; omega
  have g0 : 0 ≤ g := by omega
  have g4 : g ≤ 4 := by omega
  have HTL := Lib.hid (show (letters.take p).length = p by rw [List.length_take, letters_len]; omega)
  clear hn
  go_enter Try.func46, Try.ntmps46
  go_wp2
  go_loopw [1] (fun v wr => ∃ k : Nat, k ≤ m ∧ v = .string (bs (goN l k)) ∧ Below w.heap.size w wr) (fun v _ => n - szOf v)
  case atStart => exact ⟨0, by omega, rfl, hB0⟩
  case round =>
    obtain ⟨k, hk, rfl, hb⟩ := hrel
    have hlen := goN_len l k
    have hsu : goN l (k + 1) = goN l k ++ [nxt (goN l k)] := rfl
    have hu' : ∃ u, u = goN l k := ⟨_, rfl⟩
    obtain ⟨u, hu⟩ := hu'
    rw [← hu] at hlen hsu ⊢
    have HU := Lib.hid hu
    have HSU := Lib.hid hsu
    have HLN := Lib.hid hlen
    by_cases g1 : k < m
    · have i1 : (u.length : Int) < n := by have := HN.out; omega
      have u0 : (0 : Int) ≤ u.length := by omega
      have ub : u.length < 1000 := by omega
      clear hu hlen hsu
      go_wp2_with (refine wpList_bytes rfl (.tmp 16) 9 22 rfl 5 Try.underlying9 Try.underlying22 Try.underlying5 (letters.take p) rfl ?_; intro cap w2 hb2 hby2; rw [HTL.out])
      have hbl2 := bl_call hb2 hb
      have hsz := hb.size
      obtain ⟨B, hBB⟩ : ∃ B, B = wr.heap.size := ⟨_, rfl⟩
      rw [← hBB] at hby2 ⊢
      have HBY := Lib.hid hby2
      clear hb2 hby2 hBB
      go_loopw [1, 19] (fun v i wr => ∃ x : Nat, (x = 0 ∨ (x = 1 ∧ u.length ≠ 0 ∧ atb u (u.length - 1) = 65)) ∧ v = .string (bs u) ∧ i = .int .i64 x ∧ Byts wr B (letters.take p) ∧ Below w.heap.size w wr) (fun _ i _ => 2 - (intOf i).toNat)
      case atStart => exact ⟨0, .inl rfl, rfl, rfl, HBY.out, hbl2⟩
      case round =>
        obtain ⟨x, hx, rfl, rfl, hby, hbx⟩ := hrel
        have x2 : x < 2 := by omega
        have HX := Lib.hid hx
        have HBX := Lib.hid hby
        have x0 : (0 : Int) ≤ x := by omega
        have x1 : (x : Int) < p := by omega
        have hcell := hby.at (j := x) (by rw [HTL.out]; omega)
        rw [atb_take (show x < p by omega)] at hcell
        have HSame := Lib.hid (show ∀ w n, Calls Try.prog 43 #[.int .u8 (atb letters x).toNat] (World.drewN w n) fun e w'' => e = .returned (.int .u8 (Wd.oth (atb letters x)).toNat) ∧ w'' = World.drewN w n from fun w n => (iOther_any (atb letters x) _).mono fun _ _ ⟨h1, h2⟩ => ⟨h1, h2.symm⟩)
        clear hx hby
        by_cases hk0 : u.length = 0
        · have E := Lib.hid (show goN l (k + 1) = u ++ [atb letters x] by rw [HSU.out, nx1 HX.out (.inl hk0)])
          have d : ((u.length : Int) == 0) = true := by rw [hk0]; rfl
          have HK0 := Lib.hid hk0
          clear hk0
          go_wp2
          go_quiet (fail)
          obtain ⟨wq, hwq⟩ : ∃ wq, wq = wr.drewN nq := ⟨_, rfl⟩
          have hbq : Below w.heap.size w wq := by rw [hwq]; exact below_drewN hbx _
          rw [← hwq]
          clear hwq hcell
          go_wp2_with (with_reducible refine wpList_str1 rfl (.tmp 38) 22 9 5 rfl Try.underlying22 Try.underlying5 Try.underlying9 (atb letters x) _ rfl ?_)
          go_roundw
          case rel => exact ⟨k + 1, by omega, by rw [E.out], below_al hbq (Nat.le_refl _) _⟩
          case measure => simp [szOf_bs]; have := HLN.out; omega
        · have d : ((u.length : Int) == 0) = false := by rw [beq_eq_false_iff_ne]; omega
          obtain ⟨j, hj⟩ : ∃ j, j = u.length - 1 := ⟨_, rfl⟩
          have ej : (u.length : Int) - 1 = (j : Int) := by omega
          have j1 : (j : Int) < u.length := by omega
          have j0 : (0 : Int) ≤ j := by omega
          by_cases hne : atb u j = Wd.oth (atb letters x)
          · have hxx := nx2 HX.out hk0 (by rw [← hj]; exact hne)
            have HXX := Lib.hid hxx
            have d2 : (((atb u j).toNat : Int) == ((Wd.oth (atb letters x)).toNat : Int)) = true := by rw [hne]; simp
            have d3 : (((atb u j).toNat : Int) != ((Wd.oth (atb letters x)).toNat : Int)) = false := by rw [bne, d2]; rfl
            have HK0 := Lib.hid hk0
            clear hne hj hk0 hxx
            go_wp2
            have q5 : IntKind.i64.wrap ((u.length : Int) - 1) = (j : Int) := by rw [ej]; exact Go.IntWalk.i64_in _ (by omega)
            go_quiet ((go_at_call 43; exact Calls.quiet_of_same (HSame.out _ _)))
            clear q5
            go_wp2
            go_roundw
            case rel => exact ⟨x + 1, .inr ⟨by have := HXX.out.1; omega, HK0.out, HXX.out.2⟩, rfl, by go_num, HBX.out, below_drewN hbx _⟩
            case measure => simp [intOf]; omega
          · have E := Lib.hid (show goN l (k + 1) = u ++ [atb letters x] by rw [HSU.out, nx1 HX.out (.inr (by rw [← hj]; exact hne))])
            have d2 : (((atb u j).toNat : Int) == ((Wd.oth (atb letters x)).toNat : Int)) = false := by
              rw [beq_eq_false_iff_ne]; intro h; exact hne (UInt8.toNat_inj.1 (by omega))
            have d3 : (((atb u j).toNat : Int) != ((Wd.oth (atb letters x)).toNat : Int)) = true := by rw [bne, d2]; rfl
            clear hne hj hk0
            go_wp2
            have q5 : IntKind.i64.wrap ((u.length : Int) - 1) = (j : Int) := by rw [ej]; exact Go.IntWalk.i64_in _ (by omega)
            go_quiet ((go_at_call 43; exact Calls.quiet_of_same (HSame.out _ _)))
            clear q5
            obtain ⟨wq, hwq⟩ : ∃ wq, wq = wr.drewN nq := ⟨_, rfl⟩
            have hbq : Below w.heap.size w wq := by rw [hwq]; exact below_drewN hbx _
            rw [← hwq]
            clear hwq hcell
            go_wp2_with (with_reducible refine wpList_str1 rfl (.tmp 38) 22 9 5 rfl Try.underlying22 Try.underlying5 Try.underlying9 (atb letters x) _ rfl ?_)
            go_roundw
            case rel => exact ⟨k + 1, by omega, by rw [E.out], below_al hbq (Nat.le_refl _) _⟩
            case measure => simp [szOf_bs]; have := HLN.out; omega
    · have E := Lib.hid (show goN l m = u by rw [hu, show k = m by omega])
      have i1 : ¬ (u.length : Int) < n := by have := HN.out; omega
      clear hu hlen hsu
      go_wp2
      go_ret
      exact ⟨by rw [E.out]; rfl, hb⟩


end Go.Proofs.Ytejmbbnhdojcbaa
