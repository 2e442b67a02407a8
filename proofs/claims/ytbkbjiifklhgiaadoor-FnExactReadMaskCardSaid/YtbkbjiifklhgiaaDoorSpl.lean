/- ReadMask: the contract of strings.Split, laid by the kit at this dump (plain words), and over lists; the lines of a mask's text. Conditions: none. -/
import Derived.Shelf.Strings.Split
import Derived.Test.YtbkbjiifklhgiaaDoorBas
import Derived.Lib.IndexBytes
namespace Go.Proofs
open Go.Shelf
def Tryd.lays146_ren : Go.Shelf.Ren := ⟨fun | 146 => 8 | 221 => 11 | 268 => 12 | 138 => 13 | 143 => 14 | 195 => 15 | 197 => 16 | 218 => 17 | 219 => 18 | 260 => 19 | 217 => 20 | 225 => 21 | 224 => 22 | 267 => 23 | 266 => 24 | 314 => 25 | n => n, fun | 9 => 9 | 31 => 31 | 3 => 3 | 4 => 4 | 0 => 0 | 105 => 40 | 21 => 21 | 5 => 5 | 46 => 29 | 119 => 44 | 139 => 47 | 138 => 46 | 146 => 49 | 51 => 48 | n => n, fun | 1 => 0 | 3 => 1 | 4 => 2 | n => n⟩
theorem Tryd.lays146 : Go.Proofs.Lays.n146 Tryd.prog Tryd.lays146_ren := {
  mixed := by kernel_rfl
  f138 := Tryd.func13.trans (congrArg some (by kernel_rfl))
  f143 := Tryd.func14.trans (congrArg some (by kernel_rfl))
  f146 := Tryd.func8.trans (congrArg some (by kernel_rfl))
  f195 := Tryd.func15.trans (congrArg some (by kernel_rfl))
  f197 := Tryd.func16.trans (congrArg some (by kernel_rfl))
  f217 := Tryd.func20.trans (congrArg some (by kernel_rfl))
  f218 := Tryd.func17.trans (congrArg some (by kernel_rfl))
  f219 := Tryd.func18.trans (congrArg some (by kernel_rfl))
  f221 := Tryd.func11.trans (congrArg some (by kernel_rfl))
  f224 := Tryd.func22.trans (congrArg some (by kernel_rfl))
  f225 := Tryd.func21.trans (congrArg some (by kernel_rfl))
  f260 := Tryd.func19.trans (congrArg some (by kernel_rfl))
  f266 := Tryd.func24.trans (congrArg some (by kernel_rfl))
  f267 := Tryd.func23.trans (congrArg some (by kernel_rfl))
  f268 := Tryd.func12.trans (congrArg some (by kernel_rfl))
  f314 := Tryd.func25.trans (congrArg some (by kernel_rfl))
  t0 := Tryd.underlying0
  a0 := Tryd.isAgg0
  z0 := Tryd.sizeOf0
  v0 := Tryd.zeroValue0
  t3 := Tryd.underlying3
  a3 := Tryd.isAgg3
  z3 := Tryd.sizeOf3
  v3 := Tryd.zeroValue3
  t4 := Tryd.underlying4
  a4 := Tryd.isAgg4
  z4 := Tryd.sizeOf4
  v4 := Tryd.zeroValue4
  t5 := Tryd.underlying5
  a5 := Tryd.isAgg5
  z5 := Tryd.sizeOf5
  v5 := Tryd.zeroValue5
  t9 := Tryd.underlying9
  a9 := Tryd.isAgg9
  z9 := Tryd.sizeOf9
  v9 := Tryd.zeroValue9
  t21 := Tryd.underlying21
  a21 := Tryd.isAgg21
  z21 := Tryd.sizeOf21
  v21 := Tryd.zeroValue21
  t31 := Tryd.underlying31
  a31 := Tryd.isAgg31
  z31 := Tryd.sizeOf31
  v31 := Tryd.zeroValue31
  t46 := Tryd.underlying29
  a46 := Tryd.isAgg29
  z46 := Tryd.sizeOf29
  v46 := Tryd.zeroValue29
  t51 := Tryd.underlying48
  a51 := Tryd.isAgg48
  z51 := Tryd.sizeOf48
  v51 := Tryd.zeroValue48
  t105 := Tryd.underlying40
  a105 := Tryd.isAgg40
  z105 := Tryd.sizeOf40
  v105 := Tryd.zeroValue40
  t119 := Tryd.underlying44
  a119 := Tryd.isAgg44
  z119 := Tryd.sizeOf44
  t138 := Tryd.underlying46
  a138 := Tryd.isAgg46
  z138 := Tryd.sizeOf46
  v138 := Tryd.zeroValue46
  t139 := Tryd.underlying47
  a139 := Tryd.isAgg47
  z139 := Tryd.sizeOf47
  v139 := Tryd.zeroValue47
  t146 := Tryd.underlying49
  a146 := Tryd.isAgg49
  z146 := Tryd.sizeOf49
  v146 := Tryd.zeroValue49
  g1 := by kernel_rfl
  g3 := by kernel_rfl
  g4 := by kernel_rfl }
open Go.RowKit Go.Lib in
/-- strings.Split. (LAID: no walk: one application.) -/
theorem Tryd.strings_Split (s sep : ByteArray) (m : Int) (w : World) (hs : s.size < 4294967281) (hm : w.cell? ⟨0, 0, none⟩ = some (.int .i64 m)) (h1 : 1 ≤ sep.size) :
    Calls Tryd.prog 8 #[.string s, .string sep] w fun e w' =>
      e = .returned (.slice (some ⟨w.heap.size, 0, none⟩) (Lib.countB s sep + 1) (Lib.countB s sep + 1)) ∧ w' = w.alloc (.cells ((Lib.splitB sep 0 (Lib.countB s sep) s).map Value.string).toArray 9) := Any.strings_Split Tryd.lays146 (by kernel_rfl) s sep m w hs hm h1
end Go.Proofs
namespace Go.Proofs.YtbkbjiifklhgiaaDoor
open Go.RowKit
set_option linter.unusedVariables false

/-- A text of bytes; a name that the walk does not open. -/
def bs (l : List UInt8) : ByteArray := ⟨l.toArray⟩
theorem bs_of (s : ByteArray) : ∃ l, s = bs l := ⟨s.data.toList, by unfold bs; simp⟩
@[go_sem] theorem bs_size (l : List UInt8) : (bs l).size = l.length := by simp [bs, ByteArray.size]
theorem bs_toList (l : List UInt8) : (bs l).toList = l := ByteArray.toList_mk l
def atb (l : List UInt8) (k : Nat) : UInt8 := l.getD k 0
theorem atb_eq {l : List UInt8} {k : Nat} (h : k < l.length) : atb l k = l[k] := by simp [atb, h]
@[go_sem high] theorem run_index_bs {P : Program} (w : World) (t : TypeId) (l : List UInt8) (k : IntKind) (i : Int) (h : P.underlying t = some .string) (h0 : 0 ≤ i) (h1 : i < l.length) :
    (Instr.index t (.string (bs l)) (.int k i)).run P w = .ok (.int .u8 ((atb l i.toNat).toNat : Int)) w := by
  have hi : 0 ≤ i ∧ i < ((bs l).size : Int) := by rw [bs_size]; omega
  rw [run_index_string w t (bs l) k i h, dif_pos hi]
  have : (bs l)[i.toNat]'(by rw [bs_size]; omega) = atb l i.toNat := by
    rw [atb_eq (by omega)]; simp [bs, ByteArray.getElem_eq_getElem_data]
  rw [← this]
def sv (ls : List (List UInt8)) : Array Value := (ls.map fun l => Value.string (bs l)).toArray
theorem sv_get (ls : List (List UInt8)) (k : Nat) (h : k < ls.length) : (sv ls)[k]? = some (.string (bs (ls.getD k []))) := by
  simp [sv, h]
/-- The lines of a text. -/
def lns (L : List UInt8) : List (List UInt8) := Lib.splitK [10] 0 (Lib.count L [10]) L
theorem split_any (L : List UInt8) (hl : L.length < 4294967281) (m : Int) (w : World) (hm : w.cell? ⟨0, 0, none⟩ = some (.int .i64 m)) :
    Calls Tryd.prog 8 #[.string (bs L), .string ⟨#[10]⟩] w fun e w' => e = .returned (.slice (some ⟨w.heap.size, 0, none⟩) (lns L).length (lns L).length) ∧ w' = w.alloc (.cells (sv (lns L)) 9) := by
  have h1 : 1 ≤ (⟨#[10]⟩ : ByteArray).size := by decide
  refine (Tryd.strings_Split (bs L) ⟨#[10]⟩ m w (by rw [bs_size]; exact hl) hm h1).mono ?_
  have hc : Lib.countB (bs L) ⟨#[10]⟩ = Lib.count L [10] := rfl
  have hd := Lib.splitB_data ⟨#[10]⟩ 0 (Lib.count L [10]) (bs L)
  have hlen := Lib.splitB_all ⟨#[10]⟩ h1 0 (Lib.count L [10]) (bs L) hc
  have hs : lns L = (Lib.splitB ⟨#[10]⟩ 0 (Lib.count L [10]) (bs L)).map (·.data.toList) := hd.symm
  have hll : (lns L).length = Lib.count L [10] + 1 := by rw [hs, List.length_map, hlen]
  rintro e w' ⟨h2, h3⟩
  rw [hc] at h2 h3
  refine ⟨by rw [hll]; exact h2, ?_⟩
  rw [h3, hs]
  unfold sv
  rw [List.map_map]
  congr 3
/-- The text of n rows, from row y on. -/
def tt (zs : List Int) : Nat → Nat → List UInt8
  | _, 0 => []
  | y, n + 1 => rowTo zs y 16 ++ 10 :: tt zs (y + 1) n
theorem tt_text (zs : List Int) : ∀ n y, textTo zs y ++ tt zs y n = textTo zs (y + n)
  | 0, y => by simp [tt]
  | n + 1, y => by
    have := tt_text zs n (y + 1)
    rw [textTo_snoc] at this
    rw [show y + (n + 1) = y + 1 + n by omega, ← this]
    simp [tt]
theorem index_row : ∀ (r t : List UInt8), (∀ x ∈ r, x ≠ 10) → Lib.indexByte (r ++ 10 :: t) 10 = r.length
  | [], t, _ => by simp [Lib.indexByte]
  | a :: r, t, h => by
    have ih := index_row r t (fun x hx => h x (by simp [hx]))
    have ha := h a (by simp)
    rw [List.cons_append, Lib.indexByte, if_neg (by simpa using ha), ih, if_neg (by simp)]
    simp
theorem row_no (zs : List Int) (y n : Nat) : ∀ x ∈ rowTo zs y n, x ≠ 10 := fun x hx => by
  obtain ⟨i, _, rfl⟩ := List.mem_map.1 hx
  unfold sign
  split <;> decide
theorem lns_tt (zs : List Int) : ∀ n y, Lib.count (tt zs y n) [10] = n ∧ Lib.splitK [10] 0 n (tt zs y n) = (List.range' y n).map (fun j => rowTo zs j 16) ++ [[]]
  | 0, y => ⟨rfl, rfl⟩
  | n + 1, y => by
    obtain ⟨h1, h2⟩ := lns_tt zs n (y + 1)
    have hl := rowTo_len zs y 16
    have hi : Lib.index (tt zs y (n + 1)) [10] = (16 : Nat) := by
      rw [Lib.index_one]
      show Lib.indexByte (rowTo zs y 16 ++ 10 :: tt zs (y + 1) n) 10 = _
      rw [index_row _ _ (row_no zs y 16), hl]
    have hd : (tt zs y (n + 1)).drop 17 = tt zs (y + 1) n := by
      show (rowTo zs y 16 ++ 10 :: tt zs (y + 1) n).drop 17 = _
      rw [show (17 : Nat) = (rowTo zs y 16).length + 1 by rw [hl], List.drop_append, ]
      simp
    have ht : (tt zs y (n + 1)).take 16 = rowTo zs y 16 := by
      show (rowTo zs y 16 ++ 10 :: tt zs (y + 1) n).take 16 = _
      rw [List.take_append_of_le_length (by omega), List.take_of_length_le (by omega)]
    constructor
    · rw [Lib.count_hit (by simp) hi]
      show 1 + Lib.count ((tt zs y (n + 1)).drop 17) [10] = _
      rw [hd, h1]; omega
    · unfold Lib.splitK
      rw [if_neg (by rw [hi]; decide), hi]
      show (tt zs y (n + 1)).take 16 :: Lib.splitK [10] 0 n ((tt zs y (n + 1)).drop 17) = _
      rw [ht, hd, h2, List.range'_succ]; rfl
theorem lns_text (zs : List Int) : lns (textTo zs 16) = (List.range' 0 16).map (fun j => rowTo zs j 16) ++ [[]] := by
  have e := tt_text zs 16 0
  have e0 : textTo zs 0 = [] := rfl
  rw [e0, List.nil_append, Nat.zero_add] at e
  obtain ⟨h1, h2⟩ := lns_tt zs 16 0
  rw [e] at h1 h2
  unfold lns
  rw [h1, h2]
theorem lns_good {zs : List Int} : (lns (textTo zs 16)).length = 17 ∧ ∀ k, k < 16 → (lns (textTo zs 16)).getD k [] = rowTo zs k 16 := by
  rw [lns_text]
  refine ⟨by simp, fun k hk => ?_⟩
  rw [List.getD_eq_getElem?_getD, List.getElem?_append_left (by simpa using hk)]
  simp [hk]
theorem row_at (zs : List Int) (y x : Nat) (hx : x < 16) : atb (rowTo zs y 16) x = sign (has zs x y) := by
  rw [atb_eq (by rw [rowTo_len]; exact hx)]
  simp [rowTo]
theorem sign_35 (b : Bool) : (sign b = 35) ↔ b = true := by cases b <;> decide
theorem text_at (zs : List Int) (y x : Nat) (hx : x < 16) (hy : y < 16) : atb (textTo zs 16) (17 * y + x) = sign (has zs x y) := by
  have e := tt_text zs (16 - y) y
  rw [show y + (16 - y) = 16 by omega] at e
  have l1 := textTo_len zs y
  obtain ⟨n, hn⟩ : ∃ n, 16 - y = n + 1 := ⟨15 - y, by omega⟩
  rw [hn] at e
  rw [← e, ← row_at zs y x hx]
  unfold atb
  rw [List.getD_eq_getElem?_getD, List.getD_eq_getElem?_getD, List.getElem?_append_right (by omega), l1, show 17 * y + x - 17 * y = x by omega]
  show (rowTo zs y 16 ++ 10 :: tt zs (y + 1) n)[x]?.getD 0 = _
  rw [List.getElem?_append_left (by rw [rowTo_len]; exact hx)]
end Go.Proofs.YtbkbjiifklhgiaaDoor
