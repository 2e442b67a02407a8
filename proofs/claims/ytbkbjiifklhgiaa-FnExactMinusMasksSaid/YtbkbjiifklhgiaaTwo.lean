/- A region of the laws over two masks, whatever its order. Conditions: none. -/
import Derived.Test.YtbkbjiifklhgiaaZip
namespace Go.Proofs.Ytbkbjiifklhgiaa
open Go.RowKit
set_option linter.unusedVariables false
section
variable {P : Program} {ops : Array Oper} {Q : Exit → Act → World → Prop} {md : Region.Mode}
/-- What is not listed yet. -/
def todo (ops : Array Oper) (L : Array Bool) : List Nat := (List.range ops.size).filter fun i => !L.getD i true
theorem todo_set {L : Array Bool} {i : Nat} (hi : L.getD i true = false) (hs : i < ops.size) : (todo ops (L.setIfInBounds i true)).length < (todo ops L).length := by
  have hlt : i < L.size := by
    rcases Nat.lt_or_ge i L.size with h | h
    · exact h
    · simp [Array.getElem?_eq_none h] at hi
  have e : todo ops (L.setIfInBounds i true) = (todo ops L).filter (fun j => decide (j ≠ i)) := by
    unfold todo
    rw [List.filter_filter]
    apply List.filter_congr
    intro j hj
    rw [Array.getD_eq_getD_getElem?, Array.getD_eq_getD_getElem?, Array.getElem?_setIfInBounds]
    by_cases h : i = j
    · subst h; simp [hlt]
    · have : ¬ j = i := fun e => h e.symm
      simp [h, this]
  rw [e]
  apply List.length_filter_lt_length_iff_exists.2
  refine ⟨i, ?_, by simp⟩
  unfold todo
  rw [List.mem_filter, List.mem_range]
  exact ⟨hs, by rw [hi]; rfl⟩
theorem wpAny_inv (I : Array Bool → Act → World → Prop)
    (hstep : ∀ L a w i, I L a w → i ∈ Region.ready md ops L → wpOp P ops Q i (I (L.setIfInBounds i true)) a w)
    (hend : ∀ L a w, I L a w → Region.ready md ops L = [] → Q .normal a w) :
    ∀ fuel L a w, (todo ops L).length ≤ fuel → I L a w → wpAny P md ops Q fuel L a w := by
  intro fuel
  induction fuel with
  | zero =>
    intro L a w hn hI
    have hr : Region.ready md ops L = [] := by
      rw [List.eq_nil_iff_forall_not_mem]
      intro i hi
      obtain ⟨h1, o, ho, _⟩ := mem_ready.1 hi
      have : i ∈ todo ops L := by
        unfold todo
        rw [List.mem_filter, List.mem_range]
        exact ⟨(Array.getElem?_eq_some_iff.1 ho).1, by rw [h1]; rfl⟩
      have := List.length_pos_of_mem this
      omega
    exact ⟨hr, hend L a w hI hr⟩
  | succ fuel ih =>
    intro L a w hn hI
    refine ⟨fun hr => hend L a w hI hr, fun i hi => ?_⟩
    obtain ⟨h1, o, ho, _⟩ := mem_ready.1 hi
    have hlt := todo_set (ops := ops) h1 (Array.getElem?_eq_some_iff.1 ho).1
    exact wpOp_mono (fun a' w' h' => ih _ a' w' (by omega) h') (hstep L a w i hI hi)

theorem wpOp_plain {i : Nat} {o : Oper} {K : Act → World → Prop} {a : Act} {w : World} (hi : ops[i]? = some o) (hg : o.guard = none) (h : o.wp P a w K Q) : wpOp P ops Q i K a w := by
  unfold wpOp
  simp only [hi]
  rw [if_pos (by simp [Region.wanted, hg])]
  exact .inl h
theorem wpOp_load {i : Nat} {o : Oper} {K : Act → World → Prop} {a : Act} {w : World} (hi : ops[i]? = some o) (hg : o.guard = none) (ty : TypeId) (p : Tmp) (ho : o.op = .load ty (.tmp p))
    (g : Nat) (t : TypeId) (cs : Array Value) (fr : Nat × Nat) (d : TypeDesc) (hp : a.tmps.getD p undef = .pointer (some ⟨g, 0, none⟩)) (hb : w.heap[g]? = some (.cells cs t fr))
    (hu : P.underlying ty = some d) (hd : (match d with | .struct _ | .array _ _ => true | _ => false) = true) (hs : (P.info? ty).map (·.size) = some cs.size) (h : K (a.put o.dst (.agg cs)) w) : wpOp P ops Q i K a w := by
  refine wpOp_plain hi hg ?_
  have hx : a.eval (.tmp p) = .pointer (some ⟨g, 0, none⟩) := hp
  unfold Oper.wp execOp
  simp only [ho, hx, Instr.loadAt, Instr.sureAddr, Sem.run_bind, Sem.run_pure, Result.andThen_ok, run_loadVar_row w g t ty cs fr d hb hu hd hs]
  exact h
theorem wpOp_val {i : Nat} {o : Oper} {K : Act → World → Prop} {a : Act} {w w' : World} (hi : ops[i]? = some o) (hg : o.guard = none) (v : Value) (hr : (execOp a.eval o).run P w = .ok (.value v) w') (h : K (a.put o.dst v) w') : wpOp P ops Q i K a w := by
  refine wpOp_plain hi hg ?_
  unfold Oper.wp
  rw [hr]
  exact h
theorem wpOp_call {i : Nat} {o : Oper} {K : Act → World → Prop} {a : Act} {w : World} (hi : ops[i]? = some o) (hg : o.guard = none) (f : FuncId) (fn : Func) (hf : P.funcs[f]? = some fn) (hn : (fn.name == "runtime.NumGoroutine") = false) (hb : fn.body.isNone = false)
    (xs : Array Operand) (ats : Array TypeId) (ho : o.op = .call { callee := .value (.func f), args := xs, argTypes := ats })
    (h : Calls P f (xs.map a.eval) w fun e w' => ∃ v, e = .returned v ∧ K (a.put o.dst v) w') : wpOp P ops Q i K a w := by
  refine wpOp_plain hi hg ?_
  have e : execOp a.eval o = callFunc f (xs.map a.eval) := by
    obtain ⟨dst, op, type, pos, after, guard⟩ := o
    simp only at ho
    subst ho
    show callFunc f (#[] ++ xs.map a.eval ++ #[]) = _
    simp
  have h1 : fn.name ≠ "runtime.NumGoroutine" := by simpa using hn
  have hrun : (callFunc f (xs.map a.eval)).run P w = .ok (.enter f (xs.map a.eval)) w := by
    cases hbd : fn.body with
    | none => rw [hbd] at hb; cases hb
    | some c => simp [callFunc, hf, h1, hbd]
  unfold Oper.wp
  rw [e, hrun]
  show Calls P f (xs.map a.eval) w _
  refine h.mono ?_
  rintro e w' ⟨v, rfl, hk⟩
  exact hk
end
theorem run_alloc26 (ev : Operand → Value) (o : Oper) (ho : o.op = .alloc 26) (w : World) : (execOp ev o).run Try.prog w = .ok (.value (.pointer (some ⟨w.heap.size, 0, none⟩))) (w.alloc (.cells (mk zs0) 26)) := by
  have Z := lit0
  rw [← Z]
  unfold execOp
  simp only [ho]
  simp [go_sem]

def upd (t : Array Value) (c : Bool) (d : Nat) (v : Value) : Array Value := if c then t.setIfInBounds d v else t
theorem upd_comm {t : Array Value} {c : Bool} {d d' : Nat} {v v' : Value} (h : d ≠ d') : (upd t c d v).setIfInBounds d' v' = upd (t.setIfInBounds d' v') c d v := by
  unfold upd; cases c
  · rfl
  · exact Array.setIfInBounds_comm _ _ h
theorem upd_on {t : Array Value} {d : Nat} {v : Value} : (upd t false d v).setIfInBounds d v = upd t true d v := rfl
theorem upd_size {t : Array Value} {c : Bool} {d : Nat} {v : Value} : (upd t c d v).size = t.size := by unfold upd; split <;> simp
theorem upd_far {t : Array Value} {c : Bool} {d d' : Nat} {v : Value} (h : d ≠ d') : (upd t c d v).getD d' undef = t.getD d' undef := by
  unfold upd; split
  · rw [Array.getD_eq_getD_getElem?, Array.getD_eq_getD_getElem?, Array.getElem?_setIfInBounds_ne h]
  · rfl
theorem upd_at {t : Array Value} {d : Nat} {v : Value} (h : d < t.size) : (upd t true d v).getD d undef = v := by
  unfold upd
  rw [if_pos rfl, Array.getD_eq_getD_getElem?, Array.getElem?_setIfInBounds_self_of_lt h]; rfl
theorem getD_set {L : Array Bool} {i j : Nat} (h : i < L.size) : (L.setIfInBounds i true).getD j false = if j = i then true else L.getD j false := by
  rw [Array.getD_eq_getD_getElem?, Array.getD_eq_getD_getElem?, Array.getElem?_setIfInBounds]
  by_cases e : i = j
  · subst e; simp [h]
  · have : ¬ j = i := fun h => e h.symm
    simp [e, this]
/-- The slots behind the operations that have come up. -/
def T7 (t0 : Array Value) (L : Array Bool) (d0 d1 d2 d3 d4 d5 : Nat) (v0 v1 v2 v3 v4 v5 : Value) : Array Value :=
  upd (upd (upd (upd (upd (upd t0 (L.getD 0 false) d0 v0) (L.getD 1 false) d1 v1) (L.getD 2 false) d2 v2) (L.getD 3 false) d3 v3) (L.getD 4 false) d4 v4) (L.getD 5 false) d5 v5

theorem size7 {L : Array Bool} {i : Nat} (h : L.size = 7) : (L.setIfInBounds i true).size = 7 := by simpa using h
theorem ready_no {ops : Array Oper} {L : Array Bool} {i : Nat} {md : Region.Mode} (hs : L.size = 7) (h : i ∈ Region.ready md ops L) (h7 : i < 7) : L.getD i false = false := by
  have := (mem_ready.1 h).1
  rw [Array.getD_eq_getD_getElem?] at this ⊢
  have hi : i < L.size := by omega
  simp [hi] at this ⊢
  exact this
theorem ready_dep {ops : Array Oper} {L : Array Bool} {i j : Nat} {o : Oper} {e : Edge} {md : Region.Mode} (h : i ∈ Region.ready md ops L) (ho : ops[i]? = some o) (he : e ∈ o.after) (hb : Region.binds md e = true) (hj : e.on = j) : L.getD j false = true := by
  obtain ⟨_, o', ho', hall⟩ := mem_ready.1 h
  rw [ho] at ho'
  obtain rfl := Option.some.inj ho'
  rw [← hj]; exact hall e he hb

set_option maxHeartbeats 1000000 in
/-- Two masks out of memory, copied; a function of them; its result in a new variable: whatever the order. -/
theorem region_two {ops : Array Oper} {Q : Exit → Act → World → Prop} (id : Nat) (xs ys rs : List Int) (hx : xs.length = 16) (hy : ys.length = 16) (hr : rs.length = 16)
    (F : FuncId) (fn : Func) (hF : Try.prog.funcs[F]? = some fn) (hn : (fn.name == "runtime.NumGoroutine") = false) (hbd : fn.body.isNone = false)
    (hK : ∀ w, Calls Try.prog F #[.agg (mk xs), .agg (mk ys)] w fun e w' => e = .returned (.agg (mk rs)) ∧ Below w.heap.size w w')
    (p0 p1 d0 d1 d2 d3 d4 d5 : Nat) (o0 o1 o2 o3 o4 o5 o6 : Oper) (t1 t4 : Array TypeId)
    (hops : ops = #[o0, o1, o2, o3, o4, o5, o6])
    (hg : o0.guard = none ∧ o1.guard = none ∧ o2.guard = none ∧ o3.guard = none ∧ o4.guard = none ∧ o5.guard = none ∧ o6.guard = none)
    (hd : o0.dst = some d0 ∧ o1.dst = some d1 ∧ o2.dst = some d2 ∧ o3.dst = some d3 ∧ o4.dst = some d4 ∧ o5.dst = some d5 ∧ o6.dst = none)
    (h0 : o0.op = .load 23 (.tmp p0)) (h1 : o1.op = .call { callee := .value (.func 20), args := #[.tmp d0], argTypes := t1 })
    (h2 : o2.op = .load 23 (.tmp p1)) (h3 : o3.op = .call { callee := .value (.func 20), args := #[.tmp d2], argTypes := t1 })
    (h4 : o4.op = .call { callee := .value (.func F), args := #[.tmp d1, .tmp d3], argTypes := t4 })
    (h5 : o5.op = .alloc 26) (h6 : o6.op = .store 26 (.tmp d5) (.tmp d4))
    (e1 : ∃ e ∈ o1.after, Region.binds .any e = true ∧ e.on = 0) (e3 : ∃ e ∈ o3.after, Region.binds .any e = true ∧ e.on = 2)
    (e4 : ∃ e ∈ o4.after, Region.binds .any e = true ∧ e.on = 1) (e4' : ∃ e ∈ o4.after, Region.binds .any e = true ∧ e.on = 3)
    (e6 : ∃ e ∈ o6.after, Region.binds .any e = true ∧ e.on = 4) (e6' : ∃ e ∈ o6.after, Region.binds .any e = true ∧ e.on = 5)
    (hlt : ((List.range 7).all fun i => ((ops[i]?).map fun o => o.after.all fun e => !Region.binds .any e || decide (e.on < i)).getD true) = true)
    (hm : Try.prog.follows .mixedOrders = true)
    (a : Act) (w : World) (hne : (d0 ≠ d1 ∧ d0 ≠ d2 ∧ d0 ≠ d3 ∧ d0 ≠ d4 ∧ d0 ≠ d5 ∧ d1 ≠ d2 ∧ d1 ≠ d3 ∧ d1 ≠ d4 ∧ d1 ≠ d5 ∧ d2 ≠ d3 ∧ d2 ≠ d4 ∧ d2 ≠ d5 ∧ d3 ≠ d4 ∧ d3 ≠ d5 ∧ d4 ≠ d5) ∧ (d0 ≠ p0 ∧ d1 ≠ p0 ∧ d2 ≠ p0 ∧ d3 ≠ p0 ∧ d4 ≠ p0 ∧ d5 ≠ p0 ∧ d0 ≠ p1 ∧ d1 ≠ p1 ∧ d2 ≠ p1 ∧ d3 ≠ p1 ∧ d4 ≠ p1 ∧ d5 ≠ p1))
    (hsz : d0 < a.tmps.size ∧ d1 < a.tmps.size ∧ d2 < a.tmps.size ∧ d3 < a.tmps.size ∧ d4 < a.tmps.size ∧ d5 < a.tmps.size)
    (g0 g1 : Nat) (W : World) (M : List (Nat × Obj)) (i0 i1 : Nat) (hM0 : M[i0]? = some (g0, .cells (mk xs) 23)) (hM1 : M[i1]? = some (g1, .cells (mk ys) 23)) (hSt : St W M w)
    (hp0 : a.tmps.getD p0 undef = .pointer (some ⟨g0, 0, none⟩)) (hp1 : a.tmps.getD p1 undef = .pointer (some ⟨g1, 0, none⟩))
    (hQ : ∀ g w', St W (M ++ [(g, .cells (mk rs) 26)]) w' → Q .normal ⟨(((((a.tmps.setIfInBounds d0 (.agg (mk xs))).setIfInBounds d1 (.agg (mk xs))).setIfInBounds d2 (.agg (mk ys))).setIfInBounds d3 (.agg (mk ys))).setIfInBounds d4 (.agg (mk rs))).setIfInBounds d5 (.pointer (some ⟨g, 0, none⟩)), a.defers⟩ w') :
    (Code.region id ops true).wp Try.prog Q a w := by
  have hend : ∀ L : Array Bool, L.size = 7 → Region.ready .any ops L = [] → ∀ i, i < 7 → L.getD i false = true := by
    intro L hs hr i
    induction i using Nat.strongRecOn with
    | ind i ih =>
      intro hi
      cases hv : L.getD i false
      · exfalso
        have hin : i < ops.size := by rw [hops]; exact hi
        have : i ∈ Region.ready .any ops L := by
          refine mem_ready.2 ⟨?_, ops[i], Array.getElem?_eq_getElem hin, fun e he hb => ?_⟩
          · rw [Array.getD_eq_getD_getElem?] at hv ⊢
            have h7 : i < L.size := by omega
            simp [h7] at hv ⊢; exact hv
          · have h1 := List.all_eq_true.1 hlt i (List.mem_range.2 hi)
            rw [Array.getElem?_eq_getElem hin] at h1
            have h2 : (ops[i].after.all fun e => !Region.binds .any e || decide (e.on < i)) = true := h1
            have h3 := Array.all_eq_true_iff_forall_mem.1 h2 e he
            rw [hb] at h3
            have h4 : e.on < i := by simpa using h3
            exact ih e.on h4 (by omega)
        rw [hr] at this; cases this
      · rfl
  obtain ⟨⟨n01, n02, n03, n04, n05, n12, n13, n14, n15, n23, n24, n25, n34, n35, n45⟩, q00, q10, q20, q30, q40, q50, q01, q11, q21, q31, q41, q51⟩ := hne
  obtain ⟨s0, s1, s2, s3, s4, s5⟩ := hsz
  obtain ⟨hg0, hg1, hg2, hg3, hg4, hg5, hg6⟩ := hg
  obtain ⟨hd0, hd1, hd2, hd3, hd4, hd5, hd6⟩ := hd
  obtain ⟨e1, e1m, e1b, e1o⟩ := e1
  obtain ⟨e3, e3m, e3b, e3o⟩ := e3
  obtain ⟨e4, e4m, e4b, e4o⟩ := e4
  obtain ⟨e5, e5m, e5b, e5o⟩ := e4'
  obtain ⟨e6, e6m, e6b, e6o⟩ := e6
  obtain ⟨e7, e7m, e7b, e7o⟩ := e6'
  let T : Array Bool → Nat → Array Value := fun L g => T7 a.tmps L d0 d1 d2 d3 d4 d5 (.agg (mk xs)) (.agg (mk xs)) (.agg (mk ys)) (.agg (mk ys)) (.agg (mk rs)) (.pointer (some ⟨g, 0, none⟩))
  have get0 : ∀ L g, L.getD 0 false = true → (T L g).getD d0 undef = (.agg (mk xs)) := fun L g h => by
    show (T7 _ _ _ _ _ _ _ _ _ _ _ _ _ _).getD d0 undef = _
    unfold T7
    rw [upd_far (Ne.symm n05), upd_far (Ne.symm n04), upd_far (Ne.symm n03), upd_far (Ne.symm n02), upd_far (Ne.symm n01), h, upd_at]
    first | exact s0 | (simp only [upd_size]; exact s0)
  have get1 : ∀ L g, L.getD 1 false = true → (T L g).getD d1 undef = (.agg (mk xs)) := fun L g h => by
    show (T7 _ _ _ _ _ _ _ _ _ _ _ _ _ _).getD d1 undef = _
    unfold T7
    rw [upd_far (Ne.symm n15), upd_far (Ne.symm n14), upd_far (Ne.symm n13), upd_far (Ne.symm n12), h, upd_at]
    first | exact s1 | (simp only [upd_size]; exact s1)
  have get2 : ∀ L g, L.getD 2 false = true → (T L g).getD d2 undef = (.agg (mk ys)) := fun L g h => by
    show (T7 _ _ _ _ _ _ _ _ _ _ _ _ _ _).getD d2 undef = _
    unfold T7
    rw [upd_far (Ne.symm n25), upd_far (Ne.symm n24), upd_far (Ne.symm n23), h, upd_at]
    first | exact s2 | (simp only [upd_size]; exact s2)
  have get3 : ∀ L g, L.getD 3 false = true → (T L g).getD d3 undef = (.agg (mk ys)) := fun L g h => by
    show (T7 _ _ _ _ _ _ _ _ _ _ _ _ _ _).getD d3 undef = _
    unfold T7
    rw [upd_far (Ne.symm n35), upd_far (Ne.symm n34), h, upd_at]
    first | exact s3 | (simp only [upd_size]; exact s3)
  have get4 : ∀ L g, L.getD 4 false = true → (T L g).getD d4 undef = (.agg (mk rs)) := fun L g h => by
    show (T7 _ _ _ _ _ _ _ _ _ _ _ _ _ _).getD d4 undef = _
    unfold T7
    rw [upd_far (Ne.symm n45), h, upd_at]
    first | exact s4 | (simp only [upd_size]; exact s4)
  have get5 : ∀ L g, L.getD 5 false = true → (T L g).getD d5 undef = (.pointer (some ⟨g, 0, none⟩)) := fun L g h => by
    show (T7 _ _ _ _ _ _ _ _ _ _ _ _ _ _).getD d5 undef = _
    unfold T7
    rw [h, upd_at]
    first | exact s5 | (simp only [upd_size]; exact s5)
  have getp0 : ∀ L g, (T L g).getD p0 undef = a.tmps.getD p0 undef := fun L g => by
    show (T7 _ _ _ _ _ _ _ _ _ _ _ _ _ _).getD p0 undef = _
    unfold T7
    rw [upd_far q50, upd_far q40, upd_far q30, upd_far q20, upd_far q10, upd_far q00]
  have getp1 : ∀ L g, (T L g).getD p1 undef = a.tmps.getD p1 undef := fun L g => by
    show (T7 _ _ _ _ _ _ _ _ _ _ _ _ _ _).getD p1 undef = _
    unfold T7
    rw [upd_far q51, upd_far q41, upd_far q31, upd_far q21, upd_far q11, upd_far q01]
  have set0 : ∀ L g, L.size = 7 → L.getD 0 false = false → (T L g).setIfInBounds d0 (.agg (mk xs)) = T (L.setIfInBounds 0 true) g := fun L g hs h => by
    show (T7 _ _ _ _ _ _ _ _ _ _ _ _ _ _).setIfInBounds d0 _ = T7 _ _ _ _ _ _ _ _ _ _ _ _ _ _
    unfold T7
    simp only [getD_set (show 0 < L.size by omega), if_true, if_neg (show ¬ (1 : Nat) = 0 by decide), if_neg (show ¬ (2 : Nat) = 0 by decide), if_neg (show ¬ (3 : Nat) = 0 by decide), if_neg (show ¬ (4 : Nat) = 0 by decide), if_neg (show ¬ (5 : Nat) = 0 by decide)]
    rw [h, upd_comm (Ne.symm n05), upd_comm (Ne.symm n04), upd_comm (Ne.symm n03), upd_comm (Ne.symm n02), upd_comm (Ne.symm n01)]
    rfl
  have set1 : ∀ L g, L.size = 7 → L.getD 1 false = false → (T L g).setIfInBounds d1 (.agg (mk xs)) = T (L.setIfInBounds 1 true) g := fun L g hs h => by
    show (T7 _ _ _ _ _ _ _ _ _ _ _ _ _ _).setIfInBounds d1 _ = T7 _ _ _ _ _ _ _ _ _ _ _ _ _ _
    unfold T7
    simp only [getD_set (show 1 < L.size by omega), if_true, if_neg (show ¬ (0 : Nat) = 1 by decide), if_neg (show ¬ (2 : Nat) = 1 by decide), if_neg (show ¬ (3 : Nat) = 1 by decide), if_neg (show ¬ (4 : Nat) = 1 by decide), if_neg (show ¬ (5 : Nat) = 1 by decide)]
    rw [h, upd_comm (Ne.symm n15), upd_comm (Ne.symm n14), upd_comm (Ne.symm n13), upd_comm (Ne.symm n12)]
    rfl
  have set2 : ∀ L g, L.size = 7 → L.getD 2 false = false → (T L g).setIfInBounds d2 (.agg (mk ys)) = T (L.setIfInBounds 2 true) g := fun L g hs h => by
    show (T7 _ _ _ _ _ _ _ _ _ _ _ _ _ _).setIfInBounds d2 _ = T7 _ _ _ _ _ _ _ _ _ _ _ _ _ _
    unfold T7
    simp only [getD_set (show 2 < L.size by omega), if_true, if_neg (show ¬ (0 : Nat) = 2 by decide), if_neg (show ¬ (1 : Nat) = 2 by decide), if_neg (show ¬ (3 : Nat) = 2 by decide), if_neg (show ¬ (4 : Nat) = 2 by decide), if_neg (show ¬ (5 : Nat) = 2 by decide)]
    rw [h, upd_comm (Ne.symm n25), upd_comm (Ne.symm n24), upd_comm (Ne.symm n23)]
    rfl
  have set3 : ∀ L g, L.size = 7 → L.getD 3 false = false → (T L g).setIfInBounds d3 (.agg (mk ys)) = T (L.setIfInBounds 3 true) g := fun L g hs h => by
    show (T7 _ _ _ _ _ _ _ _ _ _ _ _ _ _).setIfInBounds d3 _ = T7 _ _ _ _ _ _ _ _ _ _ _ _ _ _
    unfold T7
    simp only [getD_set (show 3 < L.size by omega), if_true, if_neg (show ¬ (0 : Nat) = 3 by decide), if_neg (show ¬ (1 : Nat) = 3 by decide), if_neg (show ¬ (2 : Nat) = 3 by decide), if_neg (show ¬ (4 : Nat) = 3 by decide), if_neg (show ¬ (5 : Nat) = 3 by decide)]
    rw [h, upd_comm (Ne.symm n35), upd_comm (Ne.symm n34)]
    rfl
  have set4 : ∀ L g, L.size = 7 → L.getD 4 false = false → (T L g).setIfInBounds d4 (.agg (mk rs)) = T (L.setIfInBounds 4 true) g := fun L g hs h => by
    show (T7 _ _ _ _ _ _ _ _ _ _ _ _ _ _).setIfInBounds d4 _ = T7 _ _ _ _ _ _ _ _ _ _ _ _ _ _
    unfold T7
    simp only [getD_set (show 4 < L.size by omega), if_true, if_neg (show ¬ (0 : Nat) = 4 by decide), if_neg (show ¬ (1 : Nat) = 4 by decide), if_neg (show ¬ (2 : Nat) = 4 by decide), if_neg (show ¬ (3 : Nat) = 4 by decide), if_neg (show ¬ (5 : Nat) = 4 by decide)]
    rw [h, upd_comm (Ne.symm n45)]
    rfl
  have set5 : ∀ L g g', L.size = 7 → L.getD 5 false = false → (T L g).setIfInBounds d5 (.pointer (some ⟨g', 0, none⟩)) = T (L.setIfInBounds 5 true) g' := fun L g g' hs h => by
    show (T7 _ _ _ _ _ _ _ _ _ _ _ _ _ _).setIfInBounds d5 _ = T7 _ _ _ _ _ _ _ _ _ _ _ _ _ _
    unfold T7
    simp only [getD_set (show 5 < L.size by omega), if_true, if_neg (show ¬ (0 : Nat) = 5 by decide), if_neg (show ¬ (1 : Nat) = 5 by decide), if_neg (show ¬ (2 : Nat) = 5 by decide), if_neg (show ¬ (3 : Nat) = 5 by decide), if_neg (show ¬ (4 : Nat) = 5 by decide)]
    rw [h]
    rfl
  have set6 : ∀ L g, L.size = 7 → T (L.setIfInBounds 6 true) g = T L g := fun L g hs => by
    show T7 _ _ _ _ _ _ _ _ _ _ _ _ _ _ = T7 _ _ _ _ _ _ _ _ _ _ _ _ _ _
    unfold T7
    simp only [getD_set (show 6 < L.size by omega), if_neg (show ¬ (0 : Nat) = 6 by decide), if_neg (show ¬ (1 : Nat) = 6 by decide), if_neg (show ¬ (2 : Nat) = 6 by decide), if_neg (show ¬ (3 : Nat) = 6 by decide), if_neg (show ¬ (4 : Nat) = 6 by decide), if_neg (show ¬ (5 : Nat) = 6 by decide)]
  have hput : ∀ (L : Array Bool) (g : Nat) (d : Nat) (v : Value), Act.put ⟨T L g, a.defers⟩ (some d) v = ⟨(T L g).setIfInBounds d v, a.defers⟩ := fun _ _ _ _ => rfl
  have map1 : ∀ (t : Array Value) (df : List Deferred) (d : Nat), (#[Operand.tmp d]).map (Act.eval ⟨t, df⟩) = #[t.getD d undef] := fun _ _ _ => by simp [Act.eval]
  have map2 : ∀ (t : Array Value) (df : List Deferred) (d e : Nat), (#[Operand.tmp d, Operand.tmp e]).map (Act.eval ⟨t, df⟩) = #[t.getD d undef, t.getD e undef] := fun _ _ _ _ => by simp [Act.eval]
  refine wp_region_any hm ?_
  refine wpAny_inv (fun L a' w' => L.size = 7 ∧ ∃ g, a' = ⟨T L g, a.defers⟩ ∧ St W M w' ∧ (L.getD 6 false = true → L.getD 5 false = true) ∧ (L.getD 5 false = true → W.heap.size ≤ g ∧ w'.heap[g]? = some (.cells (if L.getD 6 false then mk rs else mk zs0) 26 (0, 0)) ∧ ∀ (i : Nat) (g' : Nat) (o : Obj), M[i]? = some (g', o) → g' ≠ g)) ?_ ?_ _ _ _ _ ?_ ?_
  · rintro L a' w' i ⟨hs, g, rfl, hst, h65, hal⟩ hi
    have hlt : i < 7 := by
      obtain ⟨_, o, ho, _⟩ := mem_ready.1 hi
      have := (Array.getElem?_eq_some_iff.1 ho).1
      rw [hops] at this; simpa using this
    have keep : ∀ k, k ≠ 5 → k ≠ 6 → k < 7 → (L.setIfInBounds k true).getD 5 false = L.getD 5 false ∧ (L.setIfInBounds k true).getD 6 false = L.getD 6 false := fun k h5 h6 h7 => by
      rw [getD_set (by omega), getD_set (by omega), if_neg (by omega), if_neg (by omega)]; exact ⟨rfl, rfl⟩
    have callk : ∀ w'', Below w'.heap.size w' w'' → (L.getD 5 false = true → W.heap.size ≤ g ∧ w''.heap[g]? = some (.cells (if L.getD 6 false then mk rs else mk zs0) 26 (0, 0)) ∧ ∀ (i : Nat) (g' : Nat) (o : Obj), M[i]? = some (g', o) → g' ≠ g) := fun w'' hb h => by
      obtain ⟨a1, a2, a3⟩ := hal h
      exact ⟨a1, by rw [hb.block g (Array.getElem?_eq_some_iff.1 a2).1]; exact a2, a3⟩
    rcases (show i = 0 ∨ i = 1 ∨ i = 2 ∨ i = 3 ∨ i = 4 ∨ i = 5 ∨ i = 6 by omega) with rfl | rfl | rfl | rfl | rfl | rfl | rfl
    · have hno := ready_no hs hi (by omega)
      obtain ⟨k5, k6⟩ := keep 0 (by omega) (by omega) (by omega)
      refine wpOp_load (by rw [hops]; rfl) hg0 23 p0 h0 g0 23 (mk xs) (0, 0) _ ((getp0 L g).trans hp0) (hst.get i0 hM0) Try.underlying23 rfl (infoSize23 xs hx) ?_
      rw [hd0, hput]
      exact ⟨size7 hs, g, by rw [set0 L g hs hno], hst, by rw [k5, k6]; exact h65, by rw [k5, k6]; exact hal⟩
    · have hno := ready_no hs hi (by omega)
      obtain ⟨k5, k6⟩ := keep 1 (by omega) (by omega) (by omega)
      have hdp := ready_dep hi (by rw [hops]; rfl) e1m e1b e1o
      refine wpOp_call (by rw [hops]; rfl) hg1 20 Try.f20 Try.func20 (by kernel_rfl) (by kernel_rfl) _ _ h1 ?_
      rw [map1, get0 L g hdp]
      refine (toMask_any xs hx w').mono ?_
      rintro e w'' ⟨rfl, hb⟩
      refine ⟨_, rfl, ?_⟩
      rw [hd1, hput]
      exact ⟨size7 hs, g, by rw [set1 L g hs hno], St.call hb hst, by rw [k5, k6]; exact h65, by rw [k5, k6]; exact callk w'' hb⟩
    · have hno := ready_no hs hi (by omega)
      obtain ⟨k5, k6⟩ := keep 2 (by omega) (by omega) (by omega)
      refine wpOp_load (by rw [hops]; rfl) hg2 23 p1 h2 g1 23 (mk ys) (0, 0) _ ((getp1 L g).trans hp1) (hst.get i1 hM1) Try.underlying23 rfl (infoSize23 ys hy) ?_
      rw [hd2, hput]
      exact ⟨size7 hs, g, by rw [set2 L g hs hno], hst, by rw [k5, k6]; exact h65, by rw [k5, k6]; exact hal⟩
    · have hno := ready_no hs hi (by omega)
      obtain ⟨k5, k6⟩ := keep 3 (by omega) (by omega) (by omega)
      have hdp := ready_dep hi (by rw [hops]; rfl) e3m e3b e3o
      refine wpOp_call (by rw [hops]; rfl) hg3 20 Try.f20 Try.func20 (by kernel_rfl) (by kernel_rfl) _ _ h3 ?_
      rw [map1, get2 L g hdp]
      refine (toMask_any ys hy w').mono ?_
      rintro e w'' ⟨rfl, hb⟩
      refine ⟨_, rfl, ?_⟩
      rw [hd3, hput]
      exact ⟨size7 hs, g, by rw [set3 L g hs hno], St.call hb hst, by rw [k5, k6]; exact h65, by rw [k5, k6]; exact callk w'' hb⟩
    · have hno := ready_no hs hi (by omega)
      obtain ⟨k5, k6⟩ := keep 4 (by omega) (by omega) (by omega)
      have hdp := ready_dep hi (by rw [hops]; rfl) e4m e4b e4o
      have hdq := ready_dep hi (by rw [hops]; rfl) e5m e5b e5o
      refine wpOp_call (by rw [hops]; rfl) hg4 F fn hF hn hbd _ _ h4 ?_
      rw [map2, get1 L g hdp, get3 L g hdq]
      refine (hK w').mono ?_
      rintro e w'' ⟨rfl, hb⟩
      refine ⟨_, rfl, ?_⟩
      rw [hd4, hput]
      exact ⟨size7 hs, g, by rw [set4 L g hs hno], St.call hb hst, by rw [k5, k6]; exact h65, by rw [k5, k6]; exact callk w'' hb⟩
    · have hno := ready_no hs hi (by omega)
      refine wpOp_val (by rw [hops]; rfl) hg5 _ (run_alloc26 _ o5 h5 w') ?_
      rw [hd5, hput]
      have h6f : L.getD 6 false = false := by
        cases h : L.getD 6 false
        · rfl
        · rw [h65 h] at hno; cases hno
      have e5' : (L.setIfInBounds 5 true).getD 5 false = true := by rw [getD_set (by omega), if_pos rfl]
      have e6' : (L.setIfInBounds 5 true).getD 6 false = false := by rw [getD_set (by omega), if_neg (by omega)]; exact h6f
      refine ⟨size7 hs, w'.heap.size, by rw [set5 L g _ hs hno], St.call ((Below.refl _ _).alloc (Nat.le_refl _) _) hst, fun h => e5', fun _ => ⟨hst.1.size, ?_, fun i g' o h => ?_⟩⟩
      · rw [e6']; exact one_first _ _
      · have := (Array.getElem?_eq_some_iff.1 (hst.get i h)).1; omega
    · have hno := ready_no hs hi (by omega)
      have hdp := ready_dep hi (by rw [hops]; rfl) e6m e6b e6o
      have hdq := ready_dep hi (by rw [hops]; rfl) e7m e7b e7o
      obtain ⟨a1, a2, a3⟩ := hal hdq
      rw [hno] at a2
      have e5' : (L.setIfInBounds 6 true).getD 5 false = true := by rw [getD_set (by omega), if_neg (by omega)]; exact hdq
      have e6' : (L.setIfInBounds 6 true).getD 6 false = true := by rw [getD_set (by omega), if_pos rfl]
      refine wpOp_plain (by rw [hops]; rfl) hg6 ?_
      refine wp_store_row 26 (.tmp d5) (.tmp d4) h6 g (mk rs) (get5 L g hdq) (get4 L g hdp) 26 (mk zs0) a2 (infoSize26 rs hr) (mk_same rs hr) (mk_one _) ?_
      rw [hd6]
      refine ⟨size7 hs, g, by rw [set6 L g hs]; rfl, ⟨below_setRow hst.1 a1 _, fun i g' o h => ⟨hst.ge i h, ?_⟩⟩, fun _ => e5', fun _ => ⟨a1, ?_, a3⟩⟩
      · have hne := a3 i g' o h
        have := hst.get i h
        simp [World.setRow, Array.getElem?_modify, this, Ne.symm hne]
      · rw [e6']; exact setRow_heap _ _ (mk zs0) _ _ _ a2
  · rintro L a' w' ⟨hs, g, rfl, hst, h65, hal⟩ hr'
    have hE := hend L hs hr'
    obtain ⟨l0, l1, l2, l3, l4, l5, l6⟩ : _ ∧ _ ∧ _ ∧ _ ∧ _ ∧ _ ∧ _ := ⟨hE 0 (by omega), hE 1 (by omega), hE 2 (by omega), hE 3 (by omega), hE 4 (by omega), hE 5 (by omega), hE 6 (by omega)⟩
    obtain ⟨a1, a2, a3⟩ := hal l5
    rw [l6] at a2
    have := hQ g w' ⟨hst.1, fun i g' o h => ?_⟩
    · have e : T L g = (((((a.tmps.setIfInBounds d0 (.agg (mk xs))).setIfInBounds d1 (.agg (mk xs))).setIfInBounds d2 (.agg (mk ys))).setIfInBounds d3 (.agg (mk ys))).setIfInBounds d4 (.agg (mk rs))).setIfInBounds d5 (.pointer (some ⟨g, 0, none⟩)) := by
        show T7 _ _ _ _ _ _ _ _ _ _ _ _ _ _ = _
        unfold T7
        rw [l0, l1, l2, l3, l4, l5]; rfl
      rw [e]; exact this
    · rw [List.getElem?_append] at h
      split at h
      · exact hst.2 i g' o h
      · have e0 : i - M.length = 0 := by
          have := (List.getElem?_eq_some_iff.1 h).1
          simp at this; omega
        rw [e0] at h
        simp at h
        obtain ⟨rfl, rfl⟩ := h
        exact ⟨a1, a2⟩
  · exact Nat.le_trans (List.length_filter_le _ _) (by simp)
  · refine ⟨by rw [hops]; rfl, 0, ?_, ⟨hSt.1.drew, hSt.2⟩, fun h => ?_, fun h => ?_⟩
    · have e : T (Array.replicate ops.size false) 0 = a.tmps := by
        show T7 _ _ _ _ _ _ _ _ _ _ _ _ _ _ = _
        unfold T7
        rw [hops]; rfl
      rw [e]
    · rw [hops] at h; cases h
    · rw [hops] at h; cases h
end Go.Proofs.Ytbkbjiifklhgiaa
