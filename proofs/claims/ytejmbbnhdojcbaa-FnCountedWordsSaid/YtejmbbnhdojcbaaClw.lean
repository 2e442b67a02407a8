/- FnConjugates: the walk of the law. Conditions: none. -/
import Derived.Test.YtejmbbnhdojcbaaClb
import Derived.Test.YtejmbbnhdojcbaaWoc
namespace Go.Proofs.Ytejmbbnhdojcbaa
open Go.RowKit
set_option linter.unusedVariables false

theorem szI64 (w : World) : (sizeOf 2).run Try.prog w = .ok 1 w := by kernel_rfl
theorem run_eql_A4 (w : World) (xs : List Int) (hx : xs.length = 4) : (binOp .eql 54 (.agg (mk .i64 xs)) (.agg (mk .i64 xs))).run Try.prog w = .ok (.bool true) w := by
  rw [run_eql_struct, show (10000 : Nat) = 9998 + 2 from rfl, run_eq_ints w 9998 54 2 4 .i64 Try.underlying54 Try.underlying2 szI64 xs xs hx hx]
  simp [Result.andThen]
theorem wpList_load_rowW {P : Program} {ops : Array Oper} {rest : List Oper} {o : Oper} {a : Act} {w : World} {Q : Exit → Act → World → Prop} (hw : Region.wanted o (yielded ops a.tmps) = true) (ty : TypeId) (x : Operand) (ho : o.op = .load ty x)
    (g : Nat) (hx : a.eval x = .pointer (some ⟨g, 0, none⟩)) (t : TypeId) (cs : Array Value) (fr : Nat × Nat) (d : TypeDesc) (hg : w.heap[g]? = some (.cells cs t fr))
    (hu : P.underlying ty = some d) (hd : (match d with | .struct _ | .array _ _ => true | _ => false) = true) (hi : (P.info? ty).map (·.size) = some cs.size)
    (h : wpList P ops Q rest (a.put o.dst (.agg cs)) w) : wpList P ops Q (o :: rest) a w :=
  wpList_step fun K hK => by rw [if_pos hw]; exact wp_load_row ty x ho g hx t cs fr d hg hu hd hi (hK _ _ h)

theorem gives_core {l : List UInt8} (hv : vld l = true) : Gives 24 #[.string (bs l)] (.tuple #[.string (bs (coreOf l)), .string (bs (frontOf l)), .int .i64 0]) := fun w => iCyc_yes l (by have := (vld_iff.1 hv).2; omega) hv w
theorem gives_least {l r : List UInt8} (hv : vld l = true) (hr : leastOf l = r) : Gives 28 #[.string (bs l)] (.tuple #[.string (bs r), .int .i64 0]) := fun w => by
  subst hr; exact iLR_yes l (by have := (vld_iff.1 hv).2; omega) hv w
theorem gives_conj {u l : List UInt8} (hu : vld u = true) (hl : vld l = true) (hr : leastOf u = leastOf l) : Gives 27 #[.string (bs u), .string (bs l)] (.tuple #[.bool true, .int .i64 0]) := fun w => by
  have := iAC_yes u l (by have := (vld_iff.1 hu).2; omega) (by have := (vld_iff.1 hl).2; omega) hu hl w
  rwa [show conj u l = true by simp [conj, hr]] at this
theorem gives_root {l r : List UInt8} {n : Nat} (hv : vld l = true) (h0 : 1 ≤ (coreOf l).length) (hr : (coreOf l).take (rootN (coreOf l)) = r) (hn : (coreOf l).length / rootN (coreOf l) = n) : Gives 29 #[.string (bs l)] (.tuple #[.string (bs r), .int .i64 n, .int .i64 0]) := fun w => by
  subst hr hn; exact iRoot_yes l (by have := (vld_iff.1 hv).2; omega) hv h0 w
theorem gives_rootNil {l : List UInt8} (hv : vld l = true) (h0 : (coreOf l).length = 0) : Gives 29 #[.string (bs l)] (.tuple #[.string (bs []), .int .i64 0, .int .i64 4]) := fun w => iRoot_nil l (by have := (vld_iff.1 hv).2; omega) hv h0 w
theorem front_len (l : List UInt8) : (frontOf l).length ≤ l.length := by
  have := (Wd.red_length l).1
  unfold frontOf
  rw [List.length_take]; omega

/-- What the law's calls give, and what is true of it. -/
theorem conj_facts (u v : List UInt8) (hu : Wrd 3 u) (hv : Wrd 3 v) (lu : u.length ≤ 8) (lv : v.length ≤ 5) :
    ∃ co fr bk r i tu le : List UInt8, ∃ sx : List Int,
      Gives 24 #[.string (bs u)] (.tuple #[.string (bs co), .string (bs fr), .int .i64 0]) ∧ Gives 25 #[.string (bs fr)] (.tuple #[.string (bs bk), .int .i64 0]) ∧
      Gives 11 #[.string (bs (fr ++ co)), .string (bs bk)] (.tuple #[.string (bs r), .int .i64 0]) ∧ Gives 26 #[.string (bs u)] (.tuple #[.string (bs r), .int .i64 0]) ∧
      Gives 25 #[.string (bs v)] (.tuple #[.string (bs i), .int .i64 0]) ∧ Gives 26 #[.string (bs (v ++ u ++ i))] (.tuple #[.string (bs tu), .int .i64 0]) ∧
      Gives 27 #[.string (bs u), .string (bs tu)] (.tuple #[.bool true, .int .i64 0]) ∧ Gives 28 #[.string (bs u)] (.tuple #[.string (bs le), .int .i64 0]) ∧ Gives 28 #[.string (bs tu)] (.tuple #[.string (bs le), .int .i64 0]) ∧
      fr ++ co ++ bk = r ∧ le.length = co.length ∧ fr.length ≤ 8 ∧ co.length ≤ 8 ∧ bk.length ≤ 8 ∧ i.length ≤ 5 ∧
      Gives 31 #[.string (bs u)] (.tuple #[.agg (mk .i64 sx), .int .i64 0]) ∧ Gives 31 #[.string (bs tu)] (.tuple #[.agg (mk .i64 sx), .int .i64 0]) ∧ sx.length = 4 ∧
      (co.length = 0 → Gives 29 #[.string (bs u)] (.tuple #[.string (bs []), .int .i64 0, .int .i64 4])) ∧
      (co.length ≠ 0 → ∃ (ro : List UInt8) (n : Nat), Gives 29 #[.string (bs u)] (.tuple #[.string (bs ro), .int .i64 n, .int .i64 0]) ∧ Gives 30 #[.string (bs ro), .int .i64 n] (.tuple #[.string (bs co), .int .i64 0]) ∧ Gives 29 #[.string (bs ro)] (.tuple #[.string (bs ro), .int .i64 1, .int .i64 0])) := by
  have vu := wrd_vld hu (by omega)
  have vv := wrd_vld hv (by omega)
  have vi := vld_inv vv
  have il := Wd.inv_length v
  have vvu := vld_app vv vu (by omega)
  have v3 : vld (v ++ u ++ Wd.inv v) = true := vld_app vvu vi (by rw [List.length_append, il]; omega)
  have vt := vld_red v3
  obtain ⟨dec, cy⟩ := core_self u (by omega)
  have okr := Wd.red_ok u
  have lc := core_len u
  have lf := front_len u
  have allr : ∀ x ∈ Wd.red u, Wd.isL x = true := Wd.all_red (wrd_isL hu)
  rw [dec] at okr allr
  have vf : vld (frontOf u) = true := vld_iff.2 ⟨fun x hx => allr x (by simp [hx]), by omega⟩
  have vc : vld (coreOf u) = true := vld_iff.2 ⟨fun x hx => allr x (by simp [hx]), by omega⟩
  have okc : Wd.Ok (coreOf u) := Wd.ok_append_right (Wd.ok_append_left okr)
  have vfc := vld_app vf vc (by omega)
  have e1 : leastOf u = leastOf (Wd.red (v ++ u ++ Wd.inv v)) := by rw [leastOf_red]; exact least_conj u v (by omega) (wrd_isL hu)
  have hs := gives_sum vt
  rw [sum_conj u v (wrd_isL hu) (wrd_isL hv)] at hs
  refine ⟨coreOf u, frontOf u, Wd.inv (frontOf u), Wd.red u, Wd.inv v, Wd.red (v ++ u ++ Wd.inv v), leastOf u, sumTo u u.length, gives_core vu, gives_inv vf, gives_join vfc (vld_inv vf) (by rw [← dec, Wd.red_red]) (by have := (Wd.red_length u).1; omega), gives_red vu, gives_inv vv, gives_red v3,
    gives_conj vu vt e1, gives_least vu rfl, gives_least vt e1.symm, dec.symm, least_len _ _, by omega, by omega, by rw [Wd.inv_length]; omega, by omega, gives_sum vu, hs, sumTo_len _ _, fun h => gives_rootNil vu h, fun h => ?_⟩
  have h1 : 1 ≤ (coreOf u).length := by omega
  obtain ⟨a, b, c, d⟩ := root_spec h1 (by omega)
  have rl : ((coreOf u).take (rootN (coreOf u))).length = rootN (coreOf u) := by rw [List.length_take]; omega
  have vr : vld ((coreOf u).take (rootN (coreOf u))) = true := vld_iff.2 ⟨fun x hx => (vld_iff.1 vc).1 x (List.mem_of_mem_take hx), by omega⟩
  have rc := root_core h1 (by omega) okc cy
  have rr := root_root h1 (by omega)
  have hp := root_pow h1 (by omega)
  obtain ⟨q, hq⟩ : ∃ q, (coreOf u).length / rootN (coreOf u) = q := ⟨_, rfl⟩
  have hk : q ≤ 8 := by rw [← hq]; exact Nat.le_trans (Nat.div_le_self _ _) (by omega)
  have hm : rootN (coreOf u) * q ≤ (coreOf u).length := by rw [← hq]; exact Nat.mul_div_le _ _
  rw [hq] at hp
  refine ⟨(coreOf u).take (rootN (coreOf u)), q, gives_root vu h1 rfl hq, ?_, ?_⟩
  · have hg := gives_pow vr (q : Int) (by omega) (by omega) (by rw [Int.toNat_natCast, rl]; omega)
    have e : Wd.red (powLetters ((coreOf u).take (rootN (coreOf u))) (q : Int)) = coreOf u := by
      unfold powLetters
      rw [if_neg (by omega), Int.toNat_natCast, hp]
      exact Wd.red_of_ok okc
    rwa [e] at hg
  · have h2 : 1 ≤ (coreOf ((coreOf u).take (rootN (coreOf u)))).length := by rw [rc, rl]; exact a
    refine gives_root (n := 1) vr h2 ?_ ?_
    · rw [rc, rr, List.take_take, Nat.min_self]
    · rw [rc, rr, rl]; exact Nat.div_self (by omega)

set_option maxRecDepth 100000 in
set_option maxHeartbeats 400000 in
theorem conjBig (A1 A2 : Option Addr) (n1 n2 c1 c2 : Nat) (h : 3000 < n1 ∨ 3000 < n2) (w : World) :
    Calls Try.prog 5 #[.slice A1 n1 c1, .slice A2 n2 c2] w fun e w' => e = .returned (.bool true) ∧ Below w.heap.size w w' := by
  have H := Lib.hid (fun w => long_yes A1 A2 n1 n2 c1 c2 h w)
  clear h
  go_enter Try.func5, Try.ntmps5
  go_wp2_with (go_at_call 7; refine (H.out _).mono ?_; rintro e w1 ⟨rfl, rfl⟩)
  go_ret
  exact ⟨rfl, Below.refl _ _⟩
set_option maxRecDepth 100000 in
set_option maxHeartbeats 6400000 in
theorem conjLaw (A1 A2 : Option Addr) (c1 c2 : Nat) (l1 l2 : List UInt8) (n1 n2 : Nat) (e1 : l1.length = n1) (e2 : l2.length = n2) (hn1 : n1 ≤ 3000) (hn2 : n2 ≤ 3000) (w : World) (h1 : Byi w A1 c1 l1) (h2 : Byi w A2 c2 l2) :
    Calls Try.prog 5 #[.slice A1 n1 c1, .slice A2 n2 c2] w fun e w' => e = .returned (.bool true) ∧ Below w.heap.size w w' := by
  have S0 := St.zero w
  have H1 := Lib.hid h1
  have H2 := Lib.hid h2
  have HLong := Lib.hid (fun w => long_no A1 A2 n1 n2 c1 c2 hn1 hn2 w)
  have KW1 := Lib.hid (word_n A1 c1 l1 n1 e1 (by omega) 3 8 (by omega) (by omega) (by omega))
  have KW2 := Lib.hid (word_n A2 c2 l2 n2 e2 (by omega) 3 5 (by omega) (by omega) (by omega))
  clear h1 h2 e1 e2 hn1 hn2
  go_enter Try.func5, Try.ntmps5
  go_wp2_with (first
    | (go_at_call 7; refine (HLong.out _).mono ?_; rintro e w1 ⟨rfl, rfl⟩)
    | (go_at_call_of 9 (Value.slice A1 n1 c1); refine (KW1.out _ (H1.out.call (St.below (by assumption)))).mono ?_; rintro e w1 ⟨⟨u, hu, lu, rfl⟩, hb⟩; have HU := Lib.hid hu; have LU := Lib.hid lu; have hS := St.call hb (by assumption); clear hb hu lu)
    | (go_at_call_of 9 (Value.slice A2 n2 c2); refine (KW2.out _ (H2.out.call (St.below (by assumption)))).mono ?_; rintro e w1 ⟨⟨v, hv, lv, rfl⟩, hb⟩; have HV := Lib.hid hv; have LV := Lib.hid lv; have hS := St.call hb (by assumption); clear hb hv lv))
  obtain ⟨co, fr, bk, r, i, tu, le, sx, k1, k2, k3, k4, k5, k6, k7, k8, k9, efr, ele, b1, b2, b3, b4, k10, k11, z1, kn, ky⟩ := conj_facts u v HU.out HV.out LU.out LV.out
  have b5 := LU.out
  have b6 := LV.out
  have F1 := Lib.hid k1
  have F2 := Lib.hid k2
  have F3 := Lib.hid k3
  have F4 := Lib.hid k4
  have F5 := Lib.hid k5
  rw [List.append_assoc] at k6 efr
  have F6 := Lib.hid k6
  have F7 := Lib.hid k7
  have F8 := Lib.hid k8
  have F9 := Lib.hid k9
  have F10 := Lib.hid k10
  have F11 := Lib.hid k11
  have Z1 := Lib.hid z1
  have KN := Lib.hid kn
  have KY := Lib.hid ky
  have EFr := Lib.hid efr
  have lne : ((le.length : Int) != (co.length : Int)) = false := by rw [ele]; simp
  have hjn := info_A4 sx z1
  have hsz : (mk .i64 [0, 0, 0, 0]).size = (mk .i64 sx).size := by rw [mk_size, mk_size, z1]; rfl
  have HJ := Lib.hid hjn
  have HSz := Lib.hid hsz
  have heq : ∀ w, (binOp .eql 54 (.agg (mk .i64 sx)) (.agg (mk .i64 sx))).run Try.prog w = .ok (.bool true) w := fun w => run_eql_A4 w sx z1
  have em : (⟨#[]⟩ : ByteArray) = bs [] := rfl
  have lit4 : (#[Value.int IntKind.i64 0, Value.int IntKind.i64 0, Value.int IntKind.i64 0, Value.int IntKind.i64 0] : Array Value) = mk .i64 [0, 0, 0, 0] := rfl
  clear k1 k2 k3 k4 k5 k6 k7 k8 k9 k10 k11 z1 kn ky ele KW1 KW2 hjn hsz
  go_wp2_with (first
    | (go_at_call 24; refine (F1.out _).mono ?_; rintro e w1 ⟨rfl, hb⟩; have hS := St.call hb (by assumption); clear hb)
    | (go_at_call_of 25 (#[Value.string (bs fr)]); refine (F2.out _).mono ?_; rintro e w1 ⟨rfl, hb⟩; have hS := St.call hb (by assumption); clear hb)
    | (go_at_call 11; refine (F3.out _).mono ?_; rintro e w1 ⟨rfl, hb⟩; have hS := St.call hb (by assumption); clear hb)
    | (go_at_call_of 26 (#[Value.string (bs u)]); refine (F4.out _).mono ?_; rintro e w1 ⟨rfl, hb⟩; have hS := St.call hb (by assumption); clear hb)
    | (go_at_call_of 25 (#[Value.string (bs v)]); refine (F5.out _).mono ?_; rintro e w1 ⟨rfl, hb⟩; have hS := St.call hb (by assumption); clear hb)
    | (go_at_call_of 26 (#[Value.string (bs (v ++ (u ++ i)))]); refine (F6.out _).mono ?_; rintro e w1 ⟨rfl, hb⟩; have hS := St.call hb (by assumption); clear hb)
    | (go_at_call 27; refine (F7.out _).mono ?_; rintro e w1 ⟨rfl, hb⟩; have hS := St.call hb (by assumption); clear hb)
    | (go_at_call_of 28 (#[Value.string (bs u)]); refine (F8.out _).mono ?_; rintro e w1 ⟨rfl, hb⟩; have hS := St.call hb (by assumption); clear hb)
    | (go_at_call_of 28 (#[Value.string (bs tu)]); refine (F9.out _).mono ?_; rintro e w1 ⟨rfl, hb⟩; have hS := St.call hb (by assumption); clear hb))
  by_cases h0 : co.length = 0
  · have F12 := Lib.hid (KN.out h0)
    have t0 : ((co.length : Int) == 0) = true := by rw [beq_iff_eq]; omega
    clear h0
    go_wp2_with (go_at_call 29; refine (F12.out _).mono ?_; rintro e w1 ⟨rfl, hb⟩; have hS := St.call hb (by assumption); clear hb)
    go_ret
    exact ⟨by rfl, St.below (by assumption)⟩
  · obtain ⟨ro, n, y1, y2, y3⟩ := KY.out h0
    have F12 := Lib.hid y1
    have F13 := Lib.hid y2
    have F14 := Lib.hid y3
    have t0 : ((co.length : Int) == 0) = false := by rw [beq_eq_false_iff_ne]; omega
    have hj := HJ.out
    have sk := HSz.out
    clear h0 y1 y2 y3
    go_wp2_with (first
      | (go_at_call_of 29 (#[Value.string (bs u)]); refine (F12.out _).mono ?_; rintro e w1 ⟨rfl, hb⟩; have hS := St.call hb (by assumption); clear hb)
      | (go_at_call 30; refine (F13.out _).mono ?_; rintro e w1 ⟨rfl, hb⟩; have hS := St.call hb (by assumption); clear hb)
      | (go_at_call_of 29 (#[Value.string (bs ro)]); refine (F14.out _).mono ?_; rintro e w1 ⟨rfl, hb⟩; have hS := St.call hb (by assumption); clear hb)
      | (go_at_call_of 31 (#[Value.string (bs u)]); refine (F10.out _).mono ?_; rintro e w1 ⟨rfl, hb⟩; have hS := St.call hb (by assumption); clear hb)
      | (go_at_call_of 31 (#[Value.string (bs tu)]); refine (F11.out _).mono ?_; rintro e w1 ⟨rfl, hb⟩; have hS := St.call hb (by assumption); clear hb)
      | (refine wpList_store_row rfl 54 (.tmp 34) (.tmp 189) rfl _ (mk .i64 sx) rfl rfl 54 (mk .i64 [0, 0, 0, 0]) (one_first _ _) hj sk (mk_one _ _) ?_; have hS := St.fresh (by assumption) (mk .i64 [0, 0, 0, 0]) (mk .i64 sx) 54)
      | (refine wpList_store_row rfl 54 (.tmp 36) (.tmp 194) rfl _ (mk .i64 sx) rfl rfl 54 (mk .i64 [0, 0, 0, 0]) (one_first _ _) hj sk (mk_one _ _) ?_; have hS := St.fresh (by assumption) (mk .i64 [0, 0, 0, 0]) (mk .i64 sx) 54)
      | (refine wpList_load_rowW rfl 54 (.tmp 34) rfl _ rfl 54 (mk .i64 sx) (0, 0) _ (St.get (by assumption) 0 rfl) Try.underlying54 rfl hj ?_)
      | (refine wpList_load_rowW rfl 54 (.tmp 36) rfl _ rfl 54 (mk .i64 sx) (0, 0) _ (St.get (by assumption) 1 rfl) Try.underlying54 rfl hj ?_))
    go_ret
    exact ⟨by rfl, St.below (by assumption)⟩
theorem conjWalk (A1 : Option Addr) (n1 c1 : Nat) (l1 : List UInt8) (A2 : Option Addr) (n2 c2 : Nat) (l2 : List UInt8) (w : World) (h1 : l1.length = n1 ∧ l1.length ≤ 9223372036854775807 ∧ Byi w A1 c1 l1) (h2 : l2.length = n2 ∧ l2.length ≤ 9223372036854775807 ∧ Byi w A2 c2 l2) :
    Calls Try.prog 5 #[.slice A1 n1 c1, .slice A2 n2 c2] w fun e w' => e = .returned (.bool true) ∧ Below w.heap.size w w' := by
  rcases both_len_cases n1 n2 with h | ⟨a, b⟩
  · exact conjBig A1 A2 n1 n2 c1 c2 h w
  · exact conjLaw A1 A2 c1 c2 l1 l2 n1 n2 h1.1 h2.1 a b w h1.2.2 h2.2.2
end Go.Proofs.Ytejmbbnhdojcbaa
