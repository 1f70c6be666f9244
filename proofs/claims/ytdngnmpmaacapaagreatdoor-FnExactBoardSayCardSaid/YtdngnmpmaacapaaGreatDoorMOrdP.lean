/-
  Merged: OrdP BoardP WaysP ColP Ord Taken TestA DeedT DrawNum.
-/
import Derived.Test.YtdngnmpmaacapaaGreatDoorMCore
import Derived.Lib.Bytealg
import Derived.Test.YtdngnmpmaacapaaGreatDoorMBase
import Derived.Laws.DeepStrings4
set_option linter.unusedVariables false
set_option linter.unusedSimpArgs false
/-
  Plain notions: the order of numerals; exercises and boards. No program is named here.
-/
namespace Go.Proofs.YtdngnmpmaacapaaGreatDoor
open Go.RowKit

/-- Bytes from the k-th on, compared. -/
def cmpFrom (s t : ByteArray) (k : Nat) : Int := Lib.compareBytes (s.data.toList.drop k) (t.data.toList.drop k)
theorem drop_byte (s : ByteArray) (k : Nat) (h : k < s.size) : s.data.toList.drop k = s[k] :: s.data.toList.drop (k + 1) := by
  rw [List.drop_eq_getElem_cons (by simpa using h)]; simp; rfl
theorem cmpFrom_same {s t : ByteArray} {k : Nat} (h1 : k < s.size) (h2 : k < t.size) (h : s[k] = t[k]) : cmpFrom s t k = cmpFrom s t (k + 1) := by
  unfold cmpFrom
  rw [drop_byte s k h1, drop_byte t k h2, h, Lib.compareBytes, if_neg (by simp), if_neg (by simp)]
theorem cmpFrom_lt {s t : ByteArray} {k : Nat} (h1 : k < s.size) (h2 : k < t.size) (h : s[k] < t[k]) : cmpFrom s t k = -1 := by
  unfold cmpFrom
  rw [drop_byte s k h1, drop_byte t k h2, Lib.compareBytes, if_pos h]
theorem cmpFrom_gt {s t : ByteArray} {k : Nat} (h1 : k < s.size) (h2 : k < t.size) (h : t[k] < s[k]) : cmpFrom s t k = 1 := by
  unfold cmpFrom
  have hn : ¬ s[k] < t[k] := by
    intro h'
    have a := UInt8.lt_iff_toNat_lt.1 h
    have b := UInt8.lt_iff_toNat_lt.1 h'
    omega
  rw [drop_byte s k h1, drop_byte t k h2, Lib.compareBytes, if_neg hn, if_pos h]
theorem cmpFrom_end {s t : ByteArray} (h : s.size = t.size) : cmpFrom s t s.size = 0 := by
  unfold cmpFrom
  rw [List.drop_of_length_le (by simp), List.drop_of_length_le (by simp [h])]
  rfl
/-- The order of two numerals. -/
def ordI (s t : ByteArray) : Int := if numOk s && numOk t then (if s.size = t.size then cmpFrom s t 0 else if s.size < t.size then -1 else 1) else -2
theorem ord_no1 {s t : ByteArray} (h : numOk s = false) : -2 = ordI s t := by simp [ordI, h]
theorem ord_no2 {s t : ByteArray} (h : numOk t = false) : -2 = ordI s t := by simp [ordI, h]
theorem ord_lt {s t : ByteArray} (h1 : numOk s = true) (h2 : numOk t = true) (h : s.size < t.size) : -1 = ordI s t := by
  simp [ordI, h1, h2, h]; omega
theorem ord_gt {s t : ByteArray} (h1 : numOk s = true) (h2 : numOk t = true) (h : t.size < s.size) : 1 = ordI s t := by
  unfold ordI; rw [h1, h2]; simp only [Bool.and_self, if_true]
  rw [if_neg (by omega), if_neg (by omega)]
theorem ord_eq {s t : ByteArray} (h1 : numOk s = true) (h2 : numOk t = true) (h : s.size = t.size) : cmpFrom s t 0 = ordI s t := by simp [ordI, h1, h2, h]

/-- An exercise: three texts. -/
abbrev Tst := ByteArray × ByteArray × ByteArray
def testF (x : Tst) : List Value := [.string x.1, .string x.2.1, .string x.2.2]
theorem testF_len (x : Tst) : (testF x).length = 3 := rfl
def testV (x : Tst) : Value := .agg #[.string x.1, .string x.2.1, .string x.2.2]
def tests (xs : List Tst) : List Value := rows testF xs
theorem tests_length (xs : List Tst) : (tests xs).length = xs.length * 3 := rows_length testF 3 testF_len xs
def noTest : Tst := (ByteArray.empty, ByteArray.empty, ByteArray.empty)
instance : Inhabited Tst := ⟨noTest⟩
theorem Sl.test {w : World} {a : Option Addr} {xs : List Tst} (h : Sl w a (tests xs)) (k : Nat) (hk : k < xs.length) :
    ∃ b off, a = some ⟨b, off, none⟩ ∧ w.cell? ⟨b, off + k * 3, none⟩ = some (.string (xs.getD k noTest).1) ∧ w.cell? ⟨b, off + (k * 3 + 1), none⟩ = some (.string (xs.getD k noTest).2.1) ∧ w.cell? ⟨b, off + (k * 3 + 2), none⟩ = some (.string (xs.getD k noTest).2.2) ∧
      w.cell? ⟨b, off + k * 3 + 1, none⟩ = some (.string (xs.getD k noTest).2.1) ∧ w.cell? ⟨b, off + k * 3 + 2, none⟩ = some (.string (xs.getD k noTest).2.2) := by
  obtain ⟨b, off, ha, hc⟩ := h.row 3 testF_len (by omega) k hk
  have hg : xs.getD k noTest = xs[k] := by simp [List.getD_eq_getElem?_getD, hk]
  have h0 := hc 0 (by omega)
  have h1 := hc 1 (by omega)
  have h2 := hc 2 (by omega)
  rw [Nat.add_zero] at h0
  rw [hg]
  exact ⟨b, off, ha, h0, h1, h2, by rw [Nat.add_assoc]; exact h1, by rw [Nat.add_assoc]; exact h2⟩
/-- No text is long. -/
def small (x : Tst) : Prop := x.1.size ≤ 1048576 ∧ x.2.1.size ≤ 1048576 ∧ x.2.2.size ≤ 1048576
def Small (xs : List Tst) : Prop := ∀ x ∈ xs, small x
theorem Small.at {xs : List Tst} (h : Small xs) (k : Nat) : small (xs.getD k noTest) := by
  by_cases hk : k < xs.length
  · have : xs.getD k noTest = xs[k] := by simp [List.getD_eq_getElem?_getD, hk]
    rw [this]; exact h _ (List.getElem_mem hk)
  · have : xs.getD k noTest = noTest := by simp [List.getD_eq_getElem?_getD, hk]
    rw [this]; simp [small, noTest]
def testOk (x : Tst) : Bool := decide (0 ≤ ordI x.1 x.2.1)
def testsOkB (xs : List Tst) : Bool := xs.all testOk && decide (xs.length ≤ 6)
def ansOk (x : Tst) : Bool := numOk x.2.2
def boardOkB (xs : List Tst) : Bool := testsOkB xs && xs.all ansOk
end Go.Proofs.YtdngnmpmaacapaaGreatDoor
/-
  Plain notions: deeds, and what they do on boards. No program is named here.
-/
namespace Go.Proofs.YtdngnmpmaacapaaGreatDoor
open Go.RowKit

/-- A deed: whether it takes back, and an exercise. -/
abbrev Dd := Bool × Tst
def deedF (x : Dd) : List Value := [.bool x.1, .string x.2.1, .string x.2.2.1, .string x.2.2.2]
theorem deedF_len (x : Dd) : (deedF x).length = 4 := rfl
def deeds (xs : List Dd) : List Value := rows deedF xs
theorem deeds_length (xs : List Dd) : (deeds xs).length = xs.length * 4 := rows_length deedF 4 deedF_len xs
def noDeed : Dd := (false, noTest)
theorem Sl.deed {w : World} {a : Option Addr} {xs : List Dd} (h : Sl w a (deeds xs)) (k : Nat) (hk : k < xs.length) :
    ∃ b off, a = some ⟨b, off, none⟩ ∧ w.cell? ⟨b, off + k * 4, none⟩ = some (.bool (xs.getD k noDeed).1) ∧
      (w.cell? ⟨b, off + (k * 4 + 1), none⟩ = some (.string (xs.getD k noDeed).2.1) ∧ w.cell? ⟨b, off + (k * 4 + 2), none⟩ = some (.string (xs.getD k noDeed).2.2.1) ∧ w.cell? ⟨b, off + (k * 4 + 3), none⟩ = some (.string (xs.getD k noDeed).2.2.2)) ∧
      w.cell? ⟨b, off + k * 4 + 1, none⟩ = some (.string (xs.getD k noDeed).2.1) ∧ w.cell? ⟨b, off + k * 4 + 2, none⟩ = some (.string (xs.getD k noDeed).2.2.1) ∧ w.cell? ⟨b, off + k * 4 + 3, none⟩ = some (.string (xs.getD k noDeed).2.2.2) := by
  obtain ⟨b, off, ha, hc⟩ := h.row 4 deedF_len (by omega) k hk
  have hg : xs.getD k noDeed = xs[k] := by simp [List.getD_eq_getElem?_getD, hk]
  have h0 := hc 0 (by omega)
  have h1 := hc 1 (by omega)
  have h2 := hc 2 (by omega)
  have h3 := hc 3 (by omega)
  rw [Nat.add_zero] at h0
  rw [hg]
  exact ⟨b, off, ha, h0, ⟨h1, h2, h3⟩, by rw [Nat.add_assoc]; exact h1, by rw [Nat.add_assoc]; exact h2, by rw [Nat.add_assoc]; exact h3⟩
def SmallD (xs : List Dd) : Prop := ∀ x ∈ xs, small x.2
theorem SmallD.at {xs : List Dd} (h : SmallD xs) (k : Nat) : small (xs.getD k noDeed).2 := by
  by_cases hk : k < xs.length
  · have : xs.getD k noDeed = xs[k] := by simp [List.getD_eq_getElem?_getD, hk]
    rw [this]; exact h _ (List.getElem_mem hk)
  · have : xs.getD k noDeed = noDeed := by simp [List.getD_eq_getElem?_getD, hk]
    rw [this]; simp [small, noDeed, noTest]

/-- Texts as they come in. -/
def big (x : Tst) : Prop := x.1.size ≤ 9223372036854775807 ∧ x.2.1.size ≤ 9223372036854775807 ∧ x.2.2.size ≤ 9223372036854775807
def Big (xs : List Tst) : Prop := ∀ x ∈ xs, big x
theorem Big.at {xs : List Tst} (h : Big xs) (k : Nat) : big (xs.getD k noTest) := by
  by_cases hk : k < xs.length
  · have : xs.getD k noTest = xs[k] := by simp [List.getD_eq_getElem?_getD, hk]
    rw [this]; exact h _ (List.getElem_mem hk)
  · have : xs.getD k noTest = noTest := by simp [List.getD_eq_getElem?_getD, hk]
    rw [this]; simp [big, noTest]
def BigD (xs : List Dd) : Prop := ∀ x ∈ xs, big x.2
theorem BigD.at {xs : List Dd} (h : BigD xs) (k : Nat) : big (xs.getD k noDeed).2 := by
  by_cases hk : k < xs.length
  · have : xs.getD k noDeed = xs[k] := by simp [List.getD_eq_getElem?_getD, hk]
    rw [this]; exact h _ (List.getElem_mem hk)
  · have : xs.getD k noDeed = noDeed := by simp [List.getD_eq_getElem?_getD, hk]
    rw [this]; simp [big, noDeed, noTest]
theorem small_nil : Small [] := by intro x hx; simp at hx
theorem small_take {xs : List Tst} (h : Small xs) (n : Nat) : Small (xs.take n) := fun x hx => h x (List.mem_of_mem_take hx)
theorem small_snoc {xs : List Tst} {x : Tst} (h : Small xs) (hx : small x) : Small (xs ++ [x]) := by
  intro y hy
  rcases List.mem_append.1 hy with h1 | h1
  · exact h y h1
  · simp at h1; subst h1; exact hx
theorem small_snoc' {xs : List Tst} {x : Tst} (h : Small xs) (hx : small x) : Small (xs ++ [x]) := small_snoc h hx

/-- What a deed does on a board. -/
def doI (xs : List Tst) (d : Dd) : List Tst × Bool :=
  if d.1 then (if d.2 = noTest ∧ 0 < xs.length then (xs.take (xs.length - 1), true) else (xs, false))
  else if boardOkB (xs ++ [d.2]) then (xs ++ [d.2], true) else (xs, false)
def boardDoI (xs : List Tst) (d : Dd) : List Tst × Bool := if boardOkB xs then doI xs d else ([], false)
theorem board_le {xs : List Tst} (h : boardOkB xs = true) : xs.length ≤ 6 := by
  simp only [boardOkB, testsOkB, Bool.and_eq_true, decide_eq_true_eq] at h; exact h.1.2
theorem board_take {xs : List Tst} (h : boardOkB xs = true) (n : Nat) : boardOkB (xs.take n) = true := by
  simp only [boardOkB, testsOkB, Bool.and_eq_true, decide_eq_true_eq, List.all_eq_true] at *
  refine ⟨⟨fun x hx => h.1.1 x (List.mem_of_mem_take hx), by rw [List.length_take]; omega⟩, fun x hx => h.2 x (List.mem_of_mem_take hx)⟩
theorem board_nil : boardOkB [] = true := rfl
theorem do_ok {xs : List Tst} (h : boardOkB xs = true) (d : Dd) : boardOkB (doI xs d).1 = true := by
  unfold doI
  split
  · split
    · exact board_take h _
    · exact h
  · split
    · next h2 => exact h2
    · exact h
theorem do_small {xs : List Tst} (h : Small xs) {d : Dd} (hd : small d.2) : Small (doI xs d).1 := by
  unfold doI
  split
  · split
    · exact small_take h _
    · exact h
  · split
    · exact small_snoc h hd
    · exact h
theorem do_len {xs : List Tst} (d : Dd) : (doI xs d).1.length ≤ xs.length + 1 := by
  unfold doI
  split
  · split
    · simp; omega
    · simp
  · split <;> simp
theorem do_no {xs : List Tst} {d : Dd} (h : (doI xs d).2 = false) : (doI xs d).1 = xs := by
  unfold doI at *
  split
  · next h1 => rw [if_pos h1] at h; split
               · next h2 => rw [if_pos h2] at h; simp at h
               · rfl
  · next h1 => rw [if_neg h1] at h; split
               · next h2 => rw [if_pos h2] at h; simp at h
               · rfl
/-- A board after the first k deeds, and how many were done. -/
def runTo (xs : List Tst) (ds : List Dd) : Nat → List Tst × Nat
  | 0 => (xs, 0)
  | k + 1 => ((doI (runTo xs ds k).1 (ds.getD k noDeed)).1, (runTo xs ds k).2 + if (doI (runTo xs ds k).1 (ds.getD k noDeed)).2 then 1 else 0)
theorem runTo_ok {xs : List Tst} {ds : List Dd} (h : boardOkB xs = true) (k : Nat) : boardOkB (runTo xs ds k).1 = true := by
  induction k with
  | zero => exact h
  | succ k ih => exact do_ok ih _
theorem runTo_small {xs : List Tst} {ds : List Dd} (h : Small xs) (hd : SmallD ds) (k : Nat) : Small (runTo xs ds k).1 := by
  induction k with
  | zero => exact h
  | succ k ih => exact do_small ih (hd.at k)
theorem runTo_le (xs : List Tst) (ds : List Dd) (k : Nat) : (runTo xs ds k).2 ≤ k := by
  induction k with
  | zero => exact Nat.le_refl _
  | succ k ih => simp only [runTo]; split <;> omega
def runOk (xs : List Tst) (ds : List Dd) : Bool := boardOkB xs && decide (ds.length ≤ 40)
def runC (xs : List Tst) (ds : List Dd) : List Tst := if runOk xs ds then (runTo xs ds ds.length).1 else []
def runN (xs : List Tst) (ds : List Dd) : Int := if runOk xs ds then (runTo xs ds ds.length).2 else 0
end Go.Proofs.YtdngnmpmaacapaaGreatDoor
/-
  Plain laws: taking away by a way, and the ways that explain exercises. No program is named here.
-/
namespace Go.Proofs.YtdngnmpmaacapaaGreatDoor
open Go.RowKit

def mkL (l : List UInt8) : ByteArray := ⟨l.toArray⟩
theorem mkL_size (l : List UInt8) : (mkL l).size = l.length := by show l.toArray.size = _; simp
theorem mkL_data (x : ByteArray) : mkL x.data.toList = x := by cases x; simp [mkL]
/-- The byte of a digit. -/
def digC (d : Int) : UInt8 := UInt8.ofNat (48 + d.toNat)
def trimZ (l : List UInt8) : List UInt8 := l.dropWhile (· == 48)
/-- Digits without noughts ahead, as a text. -/
def plainS (ds : List Int) : ByteArray := if trimZ (ds.map digC) = [] then ⟨#[48]⟩ else mkL (trimZ (ds.map digC))
def plainOk (ds : List Int) : Bool := decide (ds ≠ []) && numOk (plainS ds)
def plainT (ds : List Int) : ByteArray := if plainOk ds then plainS ds else ⟨#[]⟩
/-- The digit of a numeral at a place. -/
def digI (s : ByteArray) (k : Nat) : Int := if k < s.size then ((s.data.toList.getD (s.size - 1 - k) 48).toNat : Int) - 48 else 0
/-- What is written at a place, and what is borrowed. -/
def wrD (a c b m1 m2 m4 m8 : Int) (inT : Bool) : Int × Int :=
  if m4 ≠ 0 ∧ a = 0 ∧ c ≠ 0 then (c, 0)
  else if m8 ≠ 0 ∧ c = 0 ∧ inT = true then (0, 0)
  else if m1 ≠ 0 then (max (a - c) (c - a), 0)
  else if (if m2 = 0 then a - c - b else a - c) < 0 then ((if m2 = 0 then a - c - b else a - c) + 10, 1)
  else ((if m2 = 0 then a - c - b else a - c), 0)
theorem wrD_bd {a c b m1 m2 m4 m8 : Int} {inT : Bool} (ha : 0 ≤ a ∧ a ≤ 9) (hc : 0 ≤ c ∧ c ≤ 9) (hb : 0 ≤ b ∧ b ≤ 1) : (0 ≤ (wrD a c b m1 m2 m4 m8 inT).1 ∧ (wrD a c b m1 m2 m4 m8 inT).1 ≤ 9) ∧ 0 ≤ (wrD a c b m1 m2 m4 m8 inT).2 ∧ (wrD a c b m1 m2 m4 m8 inT).2 ≤ 1 := by
  unfold wrD
  split
  · exact ⟨hc, by simp⟩
  · split
    · simp
    · split
      · simp only; omega
      · split <;> split <;> simp only <;> omega
/-- The digits written at the first k places, and what is borrowed there. -/
def tkI (s t : ByteArray) (m1 m2 m4 m8 : Int) : Nat → List Int × Int
  | 0 => ([], 0)
  | k + 1 => ((tkI s t m1 m2 m4 m8 k).1 ++ [(wrD (digI s k) (digI t k) (tkI s t m1 m2 m4 m8 k).2 m1 m2 m4 m8 (decide (k < t.size))).1], (wrD (digI s k) (digI t k) (tkI s t m1 m2 m4 m8 k).2 m1 m2 m4 m8 (decide (k < t.size))).2)
theorem numOk_digits {s : ByteArray} (h : numOk s = true) (b : UInt8) (hb : b ∈ s.data.toList) : 48 ≤ (b.toNat : Int) ∧ (b.toNat : Int) ≤ 57 := by
  simp only [numOk, Bool.and_eq_true, List.all_eq_true] at h
  have := h.1 b hb
  simpa [isDig] using this
theorem digI_bd {s : ByteArray} (h : numOk s = true) (k : Nat) : 0 ≤ digI s k ∧ digI s k ≤ 9 := by
  unfold digI
  split
  · next hk =>
    have hi : s.size - 1 - k < s.data.toList.length := by have : s.data.toList.length = s.size := by simp
                                                          omega
    have hm : s.data.toList.getD (s.size - 1 - k) 48 = s.data.toList[s.size - 1 - k] := by rw [List.getD_eq_getElem?_getD, List.getElem?_eq_getElem hi]; rfl
    rw [hm]
    have := numOk_digits h _ (List.getElem_mem hi)
    omega
  · omega
theorem tkI_bd {s t : ByteArray} (hs : numOk s = true) (ht : numOk t = true) (m1 m2 m4 m8 : Int) (k : Nat) : (∀ d ∈ (tkI s t m1 m2 m4 m8 k).1, 0 ≤ d ∧ d ≤ 9) ∧ (0 ≤ (tkI s t m1 m2 m4 m8 k).2 ∧ (tkI s t m1 m2 m4 m8 k).2 ≤ 1) ∧ (tkI s t m1 m2 m4 m8 k).1.length = k := by
  induction k with
  | zero => simp [tkI]
  | succ k ih =>
    obtain ⟨h1, h2, h3⟩ := ih
    have hw := wrD_bd (m1 := m1) (m2 := m2) (m4 := m4) (m8 := m8) (inT := decide (k < t.size)) (digI_bd hs k) (digI_bd ht k) h2
    refine ⟨?_, hw.2, ?_⟩
    · intro d hd
      simp only [tkI, List.mem_append, List.mem_singleton] at hd
      rcases hd with hd | rfl
      · exact h1 d hd
      · exact hw.1
    · simp only [tkI, List.length_append, h3]; rfl
/-- One numeral taken away from another one by a way. -/
def tbI (s t : ByteArray) (way : Int) : ByteArray :=
  plainT (tkI s t (bits .and .i64 way 1) (bits .and .i64 way 2) (bits .and .i64 way 4) (bits .and .i64 way 8) s.size).1.reverse
/-- A way explains exercises. -/
def expOne (way : Int) (x : Tst) : Bool := decide (tbI x.1 x.2.1 way = x.2.2)
def expI (xs : List Tst) (way : Int) : Bool := testsOkB xs && xs.all (expOne way)
/-- The ways below k that explain exercises. -/
def waysI (xs : List Tst) (k : Nat) : List Int := ((List.range k).filter fun w : Nat => expI xs (w : Int)).map fun w : Nat => (w : Int)
theorem waysI_yes {xs : List Tst} {k : Nat} (h : expI xs (k : Int) = true) : waysI xs k ++ [(k : Int)] = waysI xs (k + 1) := by
  simp [waysI, List.range_succ, List.filter_append, h]
theorem waysI_no {xs : List Tst} {k : Nat} (h : expI xs (k : Int) = false) : waysI xs k = waysI xs (k + 1) := by
  simp [waysI, List.range_succ, List.filter_append, h]
theorem waysI_len (xs : List Tst) (k : Nat) : (waysI xs k).length ≤ k := by
  unfold waysI; rw [List.length_map]
  exact Nat.le_trans (List.length_filter_le _ _) (by simp)
theorem expI_less {xs : List Tst} {x : Tst} {way : Int} (h : expI (xs ++ [x]) way = true) : expI xs way = true := by
  simp only [expI, testsOkB, Bool.and_eq_true, decide_eq_true_eq, List.all_append, List.length_append, List.length_cons, List.length_nil] at h ⊢
  obtain ⟨h1, h3, h4⟩ := h
  refine ⟨?_, h3⟩
  first | exact ⟨by omega, h1.2.1⟩ | exact ⟨h1.1.1, by omega⟩ | (refine ⟨?_, ?_⟩ <;> first | omega | exact h1.1.1 | exact h1.2.1 | exact h1.1 )
/-- With one more exercise no more ways explain. -/
theorem waysI_less (xs : List Tst) (x : Tst) (k : Nat) : (waysI (xs ++ [x]) k).length ≤ (waysI xs k).length := by
  unfold waysI
  rw [List.length_map, List.length_map]
  induction k with
  | zero => simp
  | succ k ih =>
    rw [List.range_succ, List.filter_append, List.filter_append, List.length_append, List.length_append]
    cases h : expI (xs ++ [x]) ((k : Nat) : Int)
    · simp only [List.filter_cons, h, List.filter_nil, Bool.false_eq_true, if_false, List.length_nil]; omega
    · have h2 := expI_less h
      simp only [List.filter_cons, h, h2, List.filter_nil, if_true, List.length_cons, List.length_nil]; omega
end Go.Proofs.YtdngnmpmaacapaaGreatDoor
/-
  Plain notions: columns of transcripts, and what transcripts of adding, taking and multiplying write. No program is named here.
-/
namespace Go.Proofs.YtdngnmpmaacapaaGreatDoor
open Go.RowKit

/-- A column: both digits, what is carried to it, what is written, what is carried on. -/
abbrev Col := Int × Int × Int × Int × Int
def colF (c : Col) : List Value := [.int .i64 c.1, .int .i64 c.2.1, .int .i64 c.2.2.1, .int .i64 c.2.2.2.1, .int .i64 c.2.2.2.2]
theorem colF_len (c : Col) : (colF c).length = 5 := rfl
def colV (c : Col) : Value := .agg #[.int .i64 c.1, .int .i64 c.2.1, .int .i64 c.2.2.1, .int .i64 c.2.2.2.1, .int .i64 c.2.2.2.2]
def cols (xs : List Col) : List Value := rows colF xs
theorem cols_length (xs : List Col) : (cols xs).length = xs.length * 5 := rows_length colF 5 colF_len xs
def noCol : Col := (0, 0, 0, 0, 0)
theorem Sl.col {w : World} {a : Option Addr} {xs : List Col} (h : Sl w a (cols xs)) (k : Nat) (hk : k < xs.length) :
    ∃ b off, a = some ⟨b, off, none⟩ ∧ w.cell? ⟨b, off + k * 5, none⟩ = some (.int .i64 (xs.getD k noCol).1) ∧ w.cell? ⟨b, off + k * 5 + 1, none⟩ = some (.int .i64 (xs.getD k noCol).2.1) ∧
      w.cell? ⟨b, off + k * 5 + 2, none⟩ = some (.int .i64 (xs.getD k noCol).2.2.1) ∧ w.cell? ⟨b, off + k * 5 + 3, none⟩ = some (.int .i64 (xs.getD k noCol).2.2.2.1) ∧ w.cell? ⟨b, off + k * 5 + 4, none⟩ = some (.int .i64 (xs.getD k noCol).2.2.2.2) := by
  obtain ⟨b, off, ha, hc⟩ := h.row 5 colF_len (by omega) k hk
  have hg : xs.getD k noCol = xs[k] := by simp [List.getD_eq_getElem?_getD, hk]
  have h0 := hc 0 (by omega)
  have h1 := hc 1 (by omega)
  have h2 := hc 2 (by omega)
  have h3 := hc 3 (by omega)
  have h4 := hc 4 (by omega)
  rw [Nat.add_zero] at h0
  rw [hg]
  exact ⟨b, off, ha, h0, by rw [Nat.add_assoc]; exact h1, by rw [Nat.add_assoc]; exact h2, by rw [Nat.add_assoc]; exact h3, by rw [Nat.add_assoc]; exact h4⟩

/-- Columns one after the other: each is given what the one before carries on. -/
def chain (st : Nat → Int → Col) : Nat → List Col × Int
  | 0 => ([], 0)
  | k + 1 => ((chain st k).1 ++ [st k (chain st k).2], (st k (chain st k).2).2.2.2.2)
theorem chain_len (st : Nat → Int → Col) : ∀ k, (chain st k).1.length = k
  | 0 => rfl
  | k + 1 => by simp only [chain, List.length_append, chain_len st k]; rfl
theorem chain_get (st : Nat → Int → Col) : ∀ (k j : Nat), j < k → (chain st k).1.getD j noCol = st j (chain st j).2
  | 0, j, h => by omega
  | k + 1, j, h => by
    have hl := chain_len st k
    by_cases hj : j < k
    · have := chain_get st k j hj
      simp only [chain, List.getD_eq_getElem?_getD] at this ⊢
      rw [List.getElem?_append_left (by omega)]; exact this
    · have : j = k := by omega
      subst this
      simp only [chain, List.getD_eq_getElem?_getD]
      rw [List.getElem?_append_right (by omega), hl]; simp
theorem chain_out (st : Nat → Int → Col) (k : Nat) (h : 0 < k) : (chain st k).2 = ((chain st k).1.getD (k - 1) noCol).2.2.2.2 := by
  obtain ⟨j, rfl⟩ : ∃ j, k = j + 1 := ⟨k - 1, by omega⟩
  rw [show j + 1 - 1 = j by omega, chain_get st (j + 1) j (by omega)]; rfl
def addS (s t : ByteArray) (k : Nat) (c : Int) : Col := (digI s k, digI t k, c, (digI s k + digI t k + c) % 10, (digI s k + digI t k + c) / 10)
def takS (s t : ByteArray) (k : Nat) (c : Int) : Col := (digI s k, digI t k, c, if digI s k - digI t k - c < 0 then digI s k - digI t k - c + 10 else digI s k - digI t k - c, if digI s k - digI t k - c < 0 then 1 else 0)
def rowS (s : ByteArray) (d : Int) (k : Nat) (c : Int) : Col := (digI s k, d, c, (digI s k * d + c) % 10, (digI s k * d + c) / 10)
def isD (n : Int) : Bool := inB n 0 9
def single (c : Col) : Bool := isD c.1 && isD c.2.1 && isD c.2.2.2.1 && inB c.2.2.1 0 1 && inB c.2.2.2.2 0 1
def goodA (c : Col) : Bool := single c && decide (c.1 + c.2.1 + c.2.2.1 = c.2.2.2.1 + 10 * c.2.2.2.2)
def goodT (c : Col) : Bool := single c && decide (c.1 + 10 * c.2.2.2.2 = c.2.1 + c.2.2.1 + c.2.2.2.1)
def goodR (d : Int) (c : Col) : Bool := isD c.1 && isD c.2.1 && isD c.2.2.1 && isD c.2.2.2.1 && isD c.2.2.2.2 && decide (c.2.1 = d) && decide (c.1 * c.2.1 + c.2.2.1 = c.2.2.2.1 + 10 * c.2.2.2.2)
theorem add_bd {s t : ByteArray} (hs : numOk s = true) (ht : numOk t = true) : ∀ k, 0 ≤ (chain (addS s t) k).2 ∧ (chain (addS s t) k).2 ≤ 1
  | 0 => by simp [chain]
  | k + 1 => by
    have := add_bd hs ht k; have := digI_bd hs k; have := digI_bd ht k
    simp only [chain, addS]; omega
theorem tak_bd {s t : ByteArray} : ∀ k, 0 ≤ (chain (takS s t) k).2 ∧ (chain (takS s t) k).2 ≤ 1
  | 0 => by simp [chain]
  | k + 1 => by simp only [chain, takS]; split <;> omega
theorem mul_le {a d : Int} (ha : 0 ≤ a ∧ a ≤ 9) (hd : 0 ≤ d ∧ d ≤ 9) : 0 ≤ a * d ∧ a * d ≤ 81 := by
  refine ⟨Int.mul_nonneg ha.1 hd.1, ?_⟩
  have := Int.mul_le_mul ha.2 hd.2 hd.1 (by omega : (0 : Int) ≤ 9)
  omega
theorem row_bd {s : ByteArray} {d : Int} (hs : numOk s = true) (hd : 0 ≤ d ∧ d ≤ 9) : ∀ k, 0 ≤ (chain (rowS s d) k).2 ∧ (chain (rowS s d) k).2 ≤ 8
  | 0 => by simp [chain]
  | k + 1 => by
    have := row_bd hs hd k; have := mul_le (digI_bd hs k) hd
    simp only [chain, rowS]; omega
theorem add_good {s t : ByteArray} (hs : numOk s = true) (ht : numOk t = true) (k : Nat) : goodA (addS s t k (chain (addS s t) k).2) = true := by
  have := add_bd hs ht k; have := digI_bd hs k; have := digI_bd ht k
  generalize (chain (addS s t) k).2 = c at *
  simp only [goodA, single, isD, addS, Bool.and_eq_true, inB_true, decide_eq_true_eq]
  refine ⟨⟨⟨⟨⟨?_, ?_⟩, ?_⟩, ?_⟩, ?_⟩, ?_⟩ <;> first | omega | exact decide_eq_true (by omega)
theorem tak_good {s t : ByteArray} (hs : numOk s = true) (ht : numOk t = true) (k : Nat) : goodT (takS s t k (chain (takS s t) k).2) = true := by
  have := tak_bd (s := s) (t := t) k; have := digI_bd hs k; have := digI_bd ht k
  generalize (chain (takS s t) k).2 = c at *
  simp only [goodT, single, isD, takS, Bool.and_eq_true, inB_true, decide_eq_true_eq]
  refine ⟨⟨⟨⟨⟨?_, ?_⟩, ?_⟩, ?_⟩, ?_⟩, ?_⟩ <;> (repeat' split) <;> first | omega | exact decide_eq_true (by omega) | (simp only [decide_eq_true_eq]; omega)
theorem row_good {s : ByteArray} {d : Int} (hs : numOk s = true) (hd : 0 ≤ d ∧ d ≤ 9) (k : Nat) : goodR d (rowS s d k (chain (rowS s d) k).2) = true := by
  have := row_bd hs hd k; have h1 := digI_bd hs k; have := mul_le h1 hd
  generalize (chain (rowS s d) k).2 = c at *
  simp only [goodR, isD, rowS, Bool.and_eq_true, inB_true, decide_eq_true_eq]
  refine ⟨⟨⟨⟨⟨⟨?_, ?_⟩, ?_⟩, ?_⟩, ?_⟩, ?_⟩, ?_⟩ <;> first | omega | trivial | (apply decide_eq_true; generalize digI s k * d = q at *; omega)
/-- What columns write, the last one ahead. -/
def wrote (cs : List Col) : List Int := (cs.map fun c => c.2.2.2.1).reverse
def sumC (s t : ByteArray) : List Col × Int := chain (addS s t) (max s.size t.size)
def sumDs (s t : ByteArray) : List Int := (sumC s t).2 :: wrote (sumC s t).1
/-- The sum of two numerals. -/
def sumI (s t : ByteArray) : ByteArray × Bool := if numOk s && numOk t then (plainT (sumDs s t), plainOk (sumDs s t)) else (⟨#[]⟩, false)
def takC (s t : ByteArray) : List Col × Int := chain (takS s t) s.size
/-- What is left if a numeral is taken away. -/
def difI (s t : ByteArray) : ByteArray × Bool := if 0 ≤ ordI s t ∧ (takC s t).2 = 0 then (plainT (wrote (takC s t).1), plainOk (wrote (takC s t).1)) else (⟨#[]⟩, false)
def rowC (s : ByteArray) (d : Int) : List Col × Int := chain (rowS s d) s.size
def rowDs (s : ByteArray) (d : Int) : List Int := (rowC s d).2 :: wrote (rowC s d).1
/-- A numeral times a digit. -/
def rowI (s : ByteArray) (d : Int) : ByteArray × Bool := (plainT (rowDs s d), plainOk (rowDs s d))
end Go.Proofs.YtdngnmpmaacapaaGreatDoor
/-
  Contracts: the order of numerals, of the program and of the reference; TestsOk, BoardOk.
-/
namespace Go.Proofs.YtdngnmpmaacapaaGreatDoor
open Go.RowKit

theorem drewN3 (w : World) (a b c : Nat) : ((w.drewN a).drewN b).drewN c = w.drewN (a + b + c) := by rw [World.drewN_drewN, World.drewN_drewN, Nat.add_assoc]
theorem quiet_more {P : Program} {f : FuncId} {args : Array Value} {w : World} {n : Nat} {v : Value} (h : Calls P f args (w.drewN n) fun e w' => e = .returned v ∧ ∃ m, w' = (w.drewN n).drewN m) :
    Calls P f args (w.drewN n) fun e w'' => e = .returned v ∧ ∃ m, w'' = w.drewN m := h.mono fun _ _ ⟨he, m, hm⟩ => ⟨he, n + m, by rw [hm, World.drewN_drewN]⟩
theorem num_val {s : ByteArray} {r : Bool} (hs : s.size ≤ 1048576) (h : numOk s = r) (w : World) :
    Calls Tryz.prog 55 #[.string s] w fun e w' => e = .returned (.bool r) ∧ w = w' := h ▸ implNumeralOk_any s w (by unfold maxLen; omega)
theorem specNumeralOk_any (s : ByteArray) (w : World) (hs : s.size ≤ maxLen) :
    Calls Tryz.prog 53 #[.string s] w fun e w' => e = .returned (.bool (numOk s)) ∧ w = w' := by
  unfold maxLen at hs
  go_enter Tryz.func53, Tryz.ntmps53
  go_wp2
  go_loop [3] (fun i => ∃ k : Nat, k ≤ s.size ∧ i = .int .i64 k ∧ Hid ((s.data.toList.take k).all isDig = true)) (fun i => s.size - (intOf i).toNat)
  case atStart => exact ⟨0, Nat.zero_le _, rfl, rfl⟩
  case round =>
    obtain ⟨k, hk, rfl, hT⟩ := hrel
    by_cases hlt : k < s.size
    · have hdt := Lib.hid (dig_take s k hlt)
      have hdb := Lib.hid (dig_bad s k hlt)
      have hfin := Lib.hid (@numOk_bad s)
      by_cases h1 : (s[k].toNat : Int) < 48
      · have hb := Lib.hid (hfin.out (hdb.out (by unfold isDig; simp; omega)))
        go_wp2
        go_ret
        exact ⟨ret_bool hb.out, rfl⟩
      · have h1' : 48 ≤ (s[k].toNat : Int) := by omega
        by_cases h2 : 57 < (s[k].toNat : Int)
        · have hb := Lib.hid (hfin.out (hdb.out (by unfold isDig; simp; omega)))
          go_wp2
          go_ret
          exact ⟨ret_bool hb.out, rfl⟩
        · have h2' : (s[k].toNat : Int) ≤ 57 := by omega
          have hn := Lib.hid (show (s.data.toList.take (k+1)).all isDig = true by rw [hdt.out, hT.out]; unfold isDig; simp; omega)
          go_wp2
          go_round
          case rel => exact ⟨k + 1, by omega, by go_num, hn⟩
          case measure => simp [intOf]; omega
    · have hkk : k = s.size := by omega
      have hall := Lib.hid (show s.data.toList.all isDig = true by have := hT.out; rw [hkk, List.take_of_length_le (by simp)] at this; exact this)
      clear hkk
      cases hin : inB s.size 1 9
      · have hb := Lib.hid (numOk_len hin); have H := Lib.hid hin; clear hin
        go_wp2_with (go_at_call 86; refine (l1In_val H.out _).mono ?_; rintro e w' ⟨rfl, rfl⟩)
        go_ret
        exact ⟨ret_bool hb.out, rfl⟩
      · have hb := Lib.hid (numOk_end hall.out hin); have H := Lib.hid hin
        obtain ⟨hp, hp9⟩ := inB_true.1 hin
        clear hin
        have hp0 : 0 < s.size := by omega
        have hg : s.data.toList.getD 0 0 = s[0] := by
          have h0 : s.data[0]? = some s[0] := by rw [Array.getElem?_eq_getElem (by simpa using hp0)]; rfl
          simp [List.getD_eq_getElem?_getD, h0]
        have HG := Lib.hid hg; clear hg
        by_cases e1 : s.size = 1
        · have hb2 := Lib.hid (show true = numOk s by rw [← hb.out]; simp [e1])
          have hz : ((s.size : Int) == 1) = true := by rw [beq_iff_eq]; omega
          clear e1
          go_wp2_with (go_at_call 86; refine (l1In_val H.out _).mono ?_; rintro e w' ⟨rfl, rfl⟩)
          go_ret
          exact ⟨ret_bool hb2.out, rfl⟩
        · have hz1 : ((s.size : Int) == 1) = false := by rw [beq_eq_false_iff_ne]; omega
          have hd1 := Lib.hid (show decide (s.size = 1) = false from decide_eq_false e1)
          clear e1
          by_cases h48 : (s[0].toNat : Int) = 48
          · have hz : ((s[0].toNat : Int) != 48) = false := by simp; omega
            have hc : s[0] = 48 := UInt8.toNat_inj.1 (by rw [show (48 : UInt8).toNat = 48 from rfl]; omega)
            have HC := Lib.hid hc; clear hc h48
            have hb2 := Lib.hid (show false = numOk s by rw [← hb.out, HG.out, HC.out, hd1.out]; rfl)
            go_wp2_with (go_at_call 86; refine (l1In_val H.out _).mono ?_; rintro e w' ⟨rfl, rfl⟩)
            go_ret
            exact ⟨ret_bool hb2.out, rfl⟩
          · have hz : ((s[0].toNat : Int) != 48) = true := by rw [bne_iff_ne]; exact h48
            have hb2 := Lib.hid (show true = numOk s by
              rw [← hb.out, HG.out]
              have : (s[0] == 48) = false := by rw [beq_eq_false_iff_ne]; intro e; apply h48; rw [e]; rfl
              rw [this]; rfl)
            clear h48
            go_wp2_with (go_at_call 86; refine (l1In_val H.out _).mono ?_; rintro e w' ⟨rfl, rfl⟩)
            go_ret
            exact ⟨ret_bool hb2.out, rfl⟩
theorem numS_val {s : ByteArray} {r : Bool} (hs : s.size ≤ 1048576) (h : numOk s = r) (w : World) :
    Calls Tryz.prog 53 #[.string s] w fun e w' => e = .returned (.bool r) ∧ w = w' := h ▸ specNumeralOk_any s w (by unfold maxLen; omega)

set_option maxRecDepth 100000 in
theorem compareString_any (a b : ByteArray) (w : World) : Calls Tryz.prog 203 #[.string a, .string b] w fun e w' => e = .returned (.int .i64 (cmpFrom a b 0)) ∧ w = w' := by
  go_enter Tryz.func203, Tryz.ntmps203
  go_wp2
  rw [run_callFunc_extern Tryz.func229 (by kernel_rfl) (by kernel_rfl) (by kernel_rfl) (e := Extern.BytealgCompare.compare) (by kernel_rfl), Lib.run_compareString]
  simp only [Result.andThen]
  rw [Oper.upon_value]
  go_wp2
  go_ret
  exact ⟨rfl, rfl⟩
set_option maxRecDepth 100000 in
theorem compare_any (a b : ByteArray) (w : World) : Calls Tryz.prog 170 #[.string a, .string b] w fun e w' => e = .returned (.int .i64 (cmpFrom a b 0)) ∧ w = w' := by
  go_enter Tryz.func170, Tryz.ntmps170
  go_wp2_with (go_at_call 203; refine (compareString_any _ _ _).mono ?_; rintro e w' ⟨rfl, rfl⟩)
  go_ret
  exact ⟨rfl, rfl⟩

set_option maxRecDepth 100000 in
theorem signN_any (n : Int) (hn : -1048576 ≤ n ∧ n ≤ 1048576) (w : World) : Calls Tryz.prog 169 #[.int .i64 n] w fun e w' => e = .returned (.int .i64 (max (-1) (min 1 n))) ∧ w = w' := by
  go_enter Tryz.func169, Tryz.ntmps169
  go_wp2
  all_goals go_ret
  all_goals exact ⟨ret_int (by omega), rfl⟩
theorem implOrder_any (s t : ByteArray) (w : World) (hs : s.size ≤ 1048576) (ht : t.size ≤ 1048576) :
    Calls Tryz.prog 134 #[.string s, .string t] w fun e w' => e = .returned (.int .i64 (ordI s t)) ∧ w = w' := by
  cases h1 : numOk s
  · have H1 := Lib.hid h1; have hb := Lib.hid (ord_no1 (t := t) h1); clear h1
    go_enter Tryz.func134, Tryz.ntmps134
    go_wp2_with (go_at_call 55; refine (num_val hs H1.out _).mono ?_; rintro e w' ⟨rfl, rfl⟩)
    go_ret
    exact ⟨ret_int hb.out, rfl⟩
  · cases h2 : numOk t
    · have H1 := Lib.hid h1; have H2 := Lib.hid h2; have hb := Lib.hid (ord_no2 (s := s) h2); clear h1 h2
      go_enter Tryz.func134, Tryz.ntmps134
      go_wp2_with fail
      refine (num_val hs H1.out _).mono ?_; rintro e w' ⟨rfl, rfl⟩
      go_wp2_with fail
      refine (num_val ht H2.out _).mono ?_; rintro e w' ⟨rfl, rfl⟩
      go_wp2
      go_ret
      exact ⟨ret_int hb.out, rfl⟩
    · have q1 := Lib.hid (@ord_lt s t h1 h2); have q2 := Lib.hid (@ord_gt s t h1 h2); have q3 := Lib.hid (@ord_eq s t h1 h2)
      have H1 := Lib.hid h1; have H2 := Lib.hid h2; clear h1 h2
      by_cases he : s.size = t.size
      · have hb := Lib.hid (q3.out he)
        have hz : ((s.size : Int) != (t.size : Int)) = false := by rw [bne_eq_false_iff_eq]; omega
        clear he q1 q2 q3
        go_enter Tryz.func134, Tryz.ntmps134
        go_wp2_with fail
        refine (num_val hs H1.out _).mono ?_; rintro e w' ⟨rfl, rfl⟩
        go_wp2_with fail
        refine (num_val ht H2.out _).mono ?_; rintro e w' ⟨rfl, rfl⟩
        go_wp2_with (go_at_call 170; refine (compare_any _ _ _).mono ?_; rintro e w' ⟨rfl, rfl⟩)
        go_ret
        exact ⟨ret_int hb.out, rfl⟩
      · have hz : ((s.size : Int) != (t.size : Int)) = true := by rw [bne_iff_ne]; omega
        have hb : Hid (max (-1) (min 1 ((s.size : Int) - (t.size : Int))) = ordI s t) := by
          by_cases hl : s.size < t.size
          · exact Lib.hid ((show max (-1) (min 1 ((s.size : Int) - (t.size : Int))) = -1 by omega).trans (q1.out hl))
          · exact Lib.hid ((show max (-1) (min 1 ((s.size : Int) - (t.size : Int))) = 1 by omega).trans (q2.out (by omega)))
        clear he q1 q2 q3
        go_enter Tryz.func134, Tryz.ntmps134
        go_wp2_with fail
        refine (num_val hs H1.out _).mono ?_; rintro e w' ⟨rfl, rfl⟩
        go_wp2_with fail
        refine (num_val ht H2.out _).mono ?_; rintro e w' ⟨rfl, rfl⟩
        go_wp2_with (go_at_call 169; refine (signN_any _ (by omega) _).mono ?_; rintro e w' ⟨rfl, rfl⟩)
        go_ret
        exact ⟨ret_int hb.out, rfl⟩
theorem specOrder_any (s t : ByteArray) (w : World) (hs : s.size ≤ 1048576) (ht : t.size ≤ 1048576) :
    Calls Tryz.prog 96 #[.string s, .string t] w fun e w' => e = .returned (.int .i64 (ordI s t)) ∧ ∃ m, w' = w.drewN m := by
  cases h1 : numOk s
  · have H1 := Lib.hid h1; have hb := Lib.hid (ord_no1 (t := t) h1); clear h1
    go_enter Tryz.func96, Tryz.ntmps96
    go_wp2_with (go_at_call 53; refine (numS_val hs H1.out _).mono ?_; rintro e w' ⟨rfl, rfl⟩)
    go_ret
    exact ⟨ret_int hb.out, 0, rfl⟩
  · cases h2 : numOk t
    · have H1 := Lib.hid h1; have H2 := Lib.hid h2; have hb := Lib.hid (ord_no2 (s := s) h2); clear h1 h2
      go_enter Tryz.func96, Tryz.ntmps96
      go_wp2_with fail
      refine (numS_val hs H1.out _).mono ?_; rintro e w' ⟨rfl, rfl⟩
      go_wp2_with fail
      refine (numS_val ht H2.out _).mono ?_; rintro e w' ⟨rfl, rfl⟩
      go_wp2
      go_ret
      exact ⟨ret_int hb.out, 0, rfl⟩
    · have q1 := Lib.hid (@ord_lt s t h1 h2); have q2 := Lib.hid (@ord_gt s t h1 h2); have q3 := Lib.hid (@ord_eq s t h1 h2)
      have H1 := Lib.hid h1; have H2 := Lib.hid h2; clear h1 h2
      by_cases he : s.size = t.size
      · have hb := Lib.hid (q3.out he)
        have hz : ((s.size : Int) != (t.size : Int)) = false := by rw [bne_eq_false_iff_eq]; omega
        have HE := Lib.hid he
        clear he q1 q2 q3
        go_enter Tryz.func96, Tryz.ntmps96
        go_wp2_with fail
        refine (numS_val hs H1.out _).mono ?_; rintro e w' ⟨rfl, rfl⟩
        go_wp2_with fail
        refine (numS_val ht H2.out _).mono ?_; rintro e w' ⟨rfl, rfl⟩
        go_wp2
        go_loopw [5] (fun i wr => ∃ k : Nat, k ≤ s.size ∧ i = .int .i64 k ∧ Hid (cmpFrom s t k = ordI s t) ∧ ∃ m, wr = w.drewN m) (fun i _ => s.size - (intOf i).toNat)
        case atStart => exact ⟨0, Nat.zero_le _, rfl, hb, 0, rfl⟩
        case round =>
          obtain ⟨k, hk, rfl, hT, m, rfl⟩ := hrel
          by_cases hlt : k < s.size
          · have hlt2 : k < t.size := by have := HE.out; omega
            have e1 := Lib.hid (@cmpFrom_same s t k hlt hlt2)
            have e2 := Lib.hid (@cmpFrom_lt s t k hlt hlt2)
            have e3 := Lib.hid (@cmpFrom_gt s t k hlt hlt2)
            by_cases hq : s[k] = t[k]
            · have hn := Lib.hid ((e1.out hq).symm.trans hT.out)
              have hz2 : ((s[k].toNat : Int) != (t[k].toNat : Int)) = false := by rw [hq]; simp
              clear hq e1 e2 e3
              go_wp2
              go_quiet (fail)
              go_wp2
              go_roundw
              case rel => exact ⟨k + 1, by omega, by go_num, hn, _, rfl⟩
              case measure => simp [intOf]; omega
            · have hne : s[k].toNat ≠ t[k].toNat := fun h => hq (UInt8.toNat_inj.1 h)
              have hz2 : ((s[k].toNat : Int) != (t[k].toNat : Int)) = true := by rw [bne_iff_ne]; omega
              by_cases hl : s[k].toNat < t[k].toNat
              · have hn := Lib.hid ((e2.out (UInt8.lt_iff_toNat_lt.2 hl)).symm.trans hT.out)
                have hl' : (s[k].toNat : Int) < (t[k].toNat : Int) := by omega
                clear hq e1 e2 e3 hne
                go_wp2
                go_quiet (fail)
                go_wp2
                go_quiet (fail)
                go_wp2
                go_ret
                exact ⟨ret_int hn.out, _, drewN3 ..⟩
              · have hn := Lib.hid ((e3.out (UInt8.lt_iff_toNat_lt.2 (by omega))).symm.trans hT.out)
                have hl' : (t[k].toNat : Int) ≤ (s[k].toNat : Int) := by omega
                clear hq e1 e2 e3 hne
                go_wp2
                go_quiet (fail)
                go_wp2
                go_quiet (fail)
                go_wp2
                go_ret
                exact ⟨ret_int hn.out, _, drewN3 ..⟩
          · have hkk : k = s.size := by omega
            have hn := Lib.hid (show (0 : Int) = ordI s t by rw [← hT.out, hkk]; exact (cmpFrom_end HE.out).symm)
            clear hkk
            go_wp2
            go_ret
            exact ⟨ret_int hn.out, _, rfl⟩
      · have hz : ((s.size : Int) != (t.size : Int)) = true := by rw [bne_iff_ne]; omega
        by_cases hl : s.size < t.size
        · have hb := Lib.hid (q1.out hl)
          clear he q1 q2 q3
          go_enter Tryz.func96, Tryz.ntmps96
          go_wp2_with fail
          refine (numS_val hs H1.out _).mono ?_; rintro e w' ⟨rfl, rfl⟩
          go_wp2_with fail
          refine (numS_val ht H2.out _).mono ?_; rintro e w' ⟨rfl, rfl⟩
          go_wp2
          go_ret
          exact ⟨ret_int hb.out, 0, rfl⟩
        · have hb := Lib.hid (q2.out (by omega))
          clear he q1 q2 q3
          go_enter Tryz.func96, Tryz.ntmps96
          go_wp2_with fail
          refine (numS_val hs H1.out _).mono ?_; rintro e w' ⟨rfl, rfl⟩
          go_wp2_with fail
          refine (numS_val ht H2.out _).mono ?_; rintro e w' ⟨rfl, rfl⟩
          go_wp2
          go_ret
          exact ⟨ret_int hb.out, 0, rfl⟩
set_option maxRecDepth 100000 in
theorem takes_any (s t : ByteArray) (w : World) (hs : s.size ≤ 1048576) (ht : t.size ≤ 1048576) :
    Calls Tryz.prog 99 #[.string s, .string t] w fun e w' => e = .returned (.bool (decide (0 ≤ ordI s t))) ∧ w = w' := by
  go_enter Tryz.func99, Tryz.ntmps99
  go_wp2_with (go_at_call 134; refine (implOrder_any _ _ _ hs ht).mono ?_; rintro e w' ⟨rfl, rfl⟩)
  go_ret
  exact ⟨rfl, rfl⟩
end Go.Proofs.YtdngnmpmaacapaaGreatDoor
/-
  Contracts: what the draws of exercises need: TakenBy of the reference and what it calls: it returns a short text.
-/
namespace Go.Proofs.YtdngnmpmaacapaaGreatDoor
open Go.RowKit

theorem convByteE (z : Int) (h0 : 0 ≤ z) (h1 : z < 256) (T : TypeId) (w : World) :
    ∃ s : ByteArray, s.size = 1 ∧ (convert 22 9 (.slice (some ⟨w.heap.size, 0, none⟩) 1 1)).run Tryz.prog (w.alloc (.cells #[.int .u8 z] T)) = .ok (.string s) (w.alloc (.cells #[.int .u8 z] T)) := by
  obtain ⟨c, rfl⟩ := Int.eq_ofNat_of_zero_le h0
  refine ⟨⟨[UInt8.ofNat c].toArray⟩, rfl, ?_⟩
  exact run_convert_bytes_back _ _ _ 5 ⟨w.heap.size, 0, none⟩ 1 [UInt8.ofNat c] Tryz.underlying22 Tryz.underlying5 Tryz.underlying9 (by
    intro j hj
    have : j = 0 := by simpa using hj
    subst this
    show (w.alloc _).cell? ⟨w.heap.size, 0, none⟩ = _
    rw [World.cell?_alloc_at _ _ _ _ rfl]
    have : (UInt8.ofNat c).toNat = c := by simp [UInt8.toNat_ofNat]; omega
    simp [this])
set_option maxRecDepth 100000 in
theorem l1One_any (d : Int) (w : World) (h0 : 0 ≤ d) (h1 : d ≤ 9) : Calls Tryz.prog 43 #[.int .i64 d] w fun e w' => (∃ s : ByteArray, e = .returned (.string s) ∧ s.size = 1) ∧ Fr w.heap.size none w w' := by
  obtain ⟨s, hs, hc⟩ := convByteE (48 + d) (by omega) (by omega) 5 w
  go_enter Tryz.func43, Tryz.ntmps43
  go_wp2
  go_ret
  exact ⟨⟨s, rfl, hs⟩, (Fr.refl _ _ _).alloc (Nat.le_refl _) _⟩
theorem byte_dig {s : ByteArray} (h : numOk s = true) (i : Nat) (hi : i < s.size) : 48 ≤ (s[i].toNat : Int) ∧ (s[i].toNat : Int) ≤ 57 := by
  simp only [numOk, Bool.and_eq_true, List.all_eq_true] at h
  have := h.1 s[i] (by simp [ByteArray.getElem_eq_getElem_data])
  simpa [isDig] using this
theorem numOk_pos {s : ByteArray} (h : numOk s = true) : 1 ≤ s.size ∧ s.size ≤ 9 := by
  simp only [numOk, Bool.and_eq_true] at h
  have := inB_true.1 h.2.1
  omega
theorem digitAt_any (s : ByteArray) (k : Nat) (w : World) (h : numOk s = true) (hk : k ≤ 100) : Calls Tryz.prog 133 #[.string s, .int .i64 (k : Int)] w fun e w' => (∃ d : Int, e = .returned (.int .i64 d) ∧ 0 ≤ d ∧ d ≤ 9) ∧ w = w' := by
  have hp := numOk_pos h
  have H := Lib.hid h
  by_cases hlt : k < s.size
  · have hb := byte_dig h (s.size - 1 - k) (by omega)
    have hi : ((s.size : Int) - 1 - (k : Int)).toNat = s.size - 1 - k := by omega
    have hi2 : ((s.size : Int) - 1 - (k : Int)) = ((s.size - 1 - k : Nat) : Int) := by omega
    have hlt2 : s.size - 1 - k < s.size := by omega
    generalize hx : s[s.size - 1 - k].toNat = x at *
    clear h
    go_enter Tryz.func133, Tryz.ntmps133
    go_wp2_with (go_at_call 53; refine (numS_val (by omega) H.out _).mono ?_; rintro e w' ⟨rfl, rfl⟩)
    go_ret
    exact ⟨⟨_, rfl, by omega, by omega⟩, rfl⟩
  · have hge : (s.size : Int) ≤ (k : Int) := by omega
    clear h
    go_enter Tryz.func133, Tryz.ntmps133
    go_wp2_with (go_at_call 53; refine (numS_val (by omega) H.out _).mono ?_; rintro e w' ⟨rfl, rfl⟩)
    go_ret
    exact ⟨⟨_, rfl, by omega, by omega⟩, rfl⟩
set_option maxHeartbeats 8000000 in
theorem l6Column_any (a b : Int) (within : Bool) (c way : Int) (w : World) (ha : 0 ≤ a ∧ a ≤ 9) (hb : 0 ≤ b ∧ b ≤ 9) (hc : 0 ≤ c ∧ c ≤ 1) (hw : 0 ≤ way ∧ way ≤ 15) :
    Calls Tryz.prog 138 #[.int .i64 a, .int .i64 b, .bool within, .int .i64 c, .int .i64 way] w fun e w' => (∃ d n : Int, e = .returned (.tuple #[.int .i64 d, .int .i64 n]) ∧ 0 ≤ d ∧ d ≤ 9 ∧ 0 ≤ n ∧ n ≤ 1) ∧ w = w' := by
  obtain ⟨a0, a1⟩ := ha; obtain ⟨b0, b1⟩ := hb; obtain ⟨c0, c1⟩ := hc; obtain ⟨w0, w1⟩ := hw
  cases within
  all_goals
    go_enter Tryz.func138, Tryz.ntmps138
    go_wp2
    all_goals go_ret2
    all_goals exact ⟨⟨_, _, rfl, by omega, by omega, by omega, by omega⟩, rfl⟩
theorem ord_ok {s t : ByteArray} (h : 0 ≤ ordI s t) : numOk s = true ∧ numOk t = true := by
  unfold ordI at h
  split at h
  · next h2 => simpa using h2
  · omega
theorem l6Pair_any (s t : ByteArray) (way : Int) (w : World) (hs : s.size ≤ 1048576) (ht : t.size ≤ 1048576) :
    Calls Tryz.prog 137 #[.string s, .string t, .int .i64 way] w fun e w' => e = .returned (.bool (decide (0 ≤ ordI s t) && inB way 0 15)) ∧ ∃ m, w' = w.drewN m := by
  by_cases h : 0 ≤ ordI s t
  · have hr := Lib.hid (show inB way 0 15 = (decide (0 ≤ ordI s t) && inB way 0 15) by simp [h])
    have CO := Lib.hid (fun W => specOrder_any s t W hs ht)
    generalize ordI s t = o at *
    go_enter Tryz.func137, Tryz.ntmps137
    go_wp2_with fail
    refine (CO.out _).mono ?_; rintro e w' ⟨rfl, m, rfl⟩
    go_wp2_with (go_at_call 86; refine (l1In_any _ _ _ _).mono ?_; rintro e w' ⟨rfl, rfl⟩)
    go_ret
    exact ⟨ret_bool hr.out, m, rfl⟩
  · have hr := Lib.hid (show false = (decide (0 ≤ ordI s t) && inB way 0 15) by simp [h])
    have CO := Lib.hid (fun W => specOrder_any s t W hs ht)
    generalize ordI s t = o at *
    go_enter Tryz.func137, Tryz.ntmps137
    go_wp2_with fail
    refine (CO.out _).mono ?_; rintro e w' ⟨rfl, m, rfl⟩
    go_wp2
    go_ret
    exact ⟨ret_bool hr.out, m, rfl⟩
theorem l2Trim_any (s : ByteArray) (w : World) (hs : s.size ≤ 100) : Calls Tryz.prog 139 #[.string s] w fun e w' => (∃ t : ByteArray, e = .returned (.string t) ∧ t.size ≤ s.size) ∧ w = w' := by
  go_enter Tryz.func139, Tryz.ntmps139
  go_wp2
  go_loop [0] (fun z => ∃ t : ByteArray, z = .string t ∧ t.size ≤ s.size) (fun z => match z with | .string t => t.size | _ => 0)
  case atStart => exact ⟨s, rfl, Nat.le_refl _⟩
  case round =>
    obtain ⟨t, rfl, ht⟩ := hrel
    by_cases h1 : 1 < t.size
    · have h0 : 0 < t.size := by omega
      have hx : (t.extract 1 t.size).size = t.size - 1 := by rw [ByteArray.size_extract]; omega
      have HX := Lib.hid hx
      generalize hb : t[0].toNat = x at *
      by_cases h2 : x = 48
      · have hz : ((x : Int) == 48) = true := by rw [beq_iff_eq]; omega
        clear hx
        go_wp2
        go_round
        case rel => exact ⟨_, rfl, by rw [HX.out]; omega⟩
        case measure => simp only [HX.out]; omega
      · have hz : ((x : Int) == 48) = false := by rw [beq_eq_false_iff_ne]; omega
        clear hx
        go_wp2
        go_ret
        exact ⟨⟨t, rfl, ht⟩, rfl⟩
    · have hle : (t.size : Int) ≤ 1 := by omega
      go_wp2
      go_ret
      exact ⟨⟨t, rfl, ht⟩, rfl⟩
set_option maxHeartbeats 1000000 in
theorem takenBy_any (s t : ByteArray) (way : Int) (w : World) (hs : s.size ≤ 1048576) (ht : t.size ≤ 1048576) :
    Calls Tryz.prog 106 #[.string s, .string t, .int .i64 way] w fun e w' => (∃ (x : ByteArray) (b : Bool), e = .returned (.tuple #[.string x, .bool b]) ∧ x.size ≤ 9) ∧ Fr w.heap.size none w w' := by
  have CP := Lib.hid (fun W => l6Pair_any s t way W hs ht)
  cases hb : (decide (0 ≤ ordI s t) && inB way 0 15)
  · rw [hb] at CP
    clear hb
    go_enter Tryz.func106, Tryz.ntmps106
    go_wp2_with fail
    refine (CP.out _).mono ?_; rintro e w' ⟨rfl, m, rfl⟩
    go_wp2
    go_ret2
    exact ⟨⟨_, _, rfl, by decide⟩, (Fr.refl _ _ _).drewN m⟩
  · rw [hb] at CP
    simp only [Bool.and_eq_true, decide_eq_true_eq] at hb
    obtain ⟨hn1, hn2⟩ := ord_ok hb.1
    have hway := inB_true.1 hb.2
    have hp := numOk_pos hn1
    have H1 := Lib.hid hn1; have H2 := Lib.hid hn2
    clear hb hn1 hn2
    obtain ⟨wy0, wy1⟩ := hway
    go_enter Tryz.func106, Tryz.ntmps106
    go_wp2_with fail
    refine (CP.out _).mono ?_; rintro e w' ⟨rfl, m, rfl⟩
    go_wp2
    go_loopw [8, 9, 10] (fun o c i wr => ∃ (k : Nat) (x : ByteArray) (cc : Int), k ≤ s.size ∧ i = .int .i64 k ∧ o = .string x ∧ x.size ≤ k ∧ c = .int .i64 cc ∧ 0 ≤ cc ∧ cc ≤ 1 ∧ Fr w.heap.size none w wr) (fun _ _ i _ => s.size - (intOf i).toNat)
    case atStart => exact ⟨0, _, 0, Nat.zero_le _, rfl, rfl, by decide, rfl, by omega, by omega, (Fr.refl _ _ _).drewN m⟩
    case round =>
      obtain ⟨k, x, cc, hk, rfl, rfl, hx, rfl, c0, c1, hF⟩ := hrel
      have HF := Lib.hid hF; clear hF
      by_cases hlt : k < s.size
      · go_wp2_with fail
        refine (digitAt_any s k _ H1.out (by omega)).mono ?_; rintro e w2 ⟨⟨d1, rfl, d10, d11⟩, rfl⟩
        go_wp2_with fail
        refine (digitAt_any t k _ H2.out (by omega)).mono ?_; rintro e w2 ⟨⟨d2, rfl, d20, d21⟩, rfl⟩
        go_wp2_with fail
        refine (l6Column_any d1 d2 _ cc way _ ⟨d10, d11⟩ ⟨d20, d21⟩ ⟨c0, c1⟩ ⟨wy0, wy1⟩).mono ?_; rintro e w2 ⟨⟨d3, c3, rfl, d30, d31, c30, c31⟩, rfl⟩
        go_wp2_with fail
        refine (l1One_any d3 _ d30 d31).mono ?_; rintro e w3 ⟨⟨y, rfl, hy⟩, hF3⟩
        have F3 := Lib.hid (HF.out.and hF3); clear hF3
        have a1 := fun W => run_string_add_sum (P := Tryz.prog) W y x (by omega)
        have hsz := Lib.hid (show (y ++ x).size ≤ k + 1 by rw [ByteArray.size_append]; omega)
        go_wp2
        go_roundw
        case rel => exact ⟨k + 1, _, c3, by omega, by go_num, rfl, hsz.out, rfl, by omega, by omega, F3.out⟩
        case measure => simp [intOf]; omega
      · have hge : (s.size : Int) ≤ (k : Int) := by omega
        go_wp2_with fail
        refine (l2Trim_any x _ (by omega)).mono ?_; rintro e w2 ⟨⟨y, rfl, hy⟩, rfl⟩
        go_wp2
        go_ret2
        exact ⟨⟨_, _, rfl, by omega⟩, HF.out⟩
end Go.Proofs.YtdngnmpmaacapaaGreatDoor
/-
  Contracts: TestsOk and BoardOk, of the program and of the reference.
-/
namespace Go.Proofs.YtdngnmpmaacapaaGreatDoor
open Go.RowKit

def testsTo (xs : List Tst) (k : Nat) : Bool := (xs.take k).all testOk
theorem tests_next {xs : List Tst} {k : Nat} (hk : k < xs.length) (h : testsTo xs k = true) (hc : testOk (xs.getD k noTest) = true) : testsTo xs (k + 1) = true := by
  unfold testsTo at *
  rw [List.take_succ_eq_append_getElem hk, List.all_append, h]
  simpa [List.getD_eq_getElem?_getD, hk] using hc
theorem all_bad {α : Type} (p : α → Bool) (d : α) {xs : List α} {k : Nat} (hk : k < xs.length) (hc : p (xs.getD k d) = false) : xs.all p = false := by
  rw [List.all_eq_false]
  exact ⟨xs[k], List.getElem_mem hk, by simpa [List.getD_eq_getElem?_getD, hk] using hc⟩
theorem tests_bad {xs : List Tst} {k : Nat} (hk : k < xs.length) (hc : testOk (xs.getD k noTest) = false) : false = testsOkB xs := by
  rw [testsOkB, all_bad testOk noTest hk hc]; rfl
theorem tests_end {xs : List Tst} (h : testsTo xs xs.length = true) : decide (xs.length ≤ 6) = testsOkB xs := by
  unfold testsTo at h; rw [List.take_length] at h; simp [testsOkB, h]

theorem specTestsOk_any (a : Option Addr) (cap : Nat) (xs : List Tst) (w : World) (hs : Sl w a (tests xs)) (hm : xs.length ≤ 1048576) (hz : Small xs) :
    Calls Tryz.prog 54 #[.slice a xs.length cap] w fun e w' => e = .returned (.bool (testsOkB xs)) ∧ ∃ m, w' = w.drewN m := by
  have HC := Lib.hid hs; have HZ := Lib.hid hz; clear hs hz
  go_enter Tryz.func54, Tryz.ntmps54
  go_wp2
  go_loopw [3] (fun i wr => ∃ k : Nat, k ≤ xs.length ∧ i = .int .i64 k ∧ Hid (testsTo xs k = true) ∧ ∃ m, wr = w.drewN m) (fun i _ => xs.length - (intOf i).toNat)
  case atStart => exact ⟨0, Nat.zero_le _, rfl, rfl, 0, rfl⟩
  case round =>
    obtain ⟨k, hk, rfl, hT, m, rfl⟩ := hrel
    by_cases hlt : k < xs.length
    · obtain ⟨b, off, rfl, hc0, hc1, hc2, hc1', hc2'⟩ := HC.out.test k hlt
      have hbad := Lib.hid (tests_bad hlt)
      have hnext := Lib.hid (tests_next hlt hT.out)
      obtain ⟨s1, s2, s3⟩ := HZ.out.at k
      generalize xs.getD k noTest = x at *
      obtain ⟨x1, x2, x3⟩ := x
      have CO := Lib.hid (specOrder_any x1 x2 · s1 s2)
      cases h1 : testOk (x1, x2, x3)
      · have hb := Lib.hid (hbad.out h1)
        have hneg : ordI x1 x2 < 0 := by simp [testOk] at h1; exact h1
        clear h1 hbad hnext
        generalize ordI x1 x2 = o at *
        go_wp2
        go_quiet ((go_at_call 96; first | exact quiet_add (CO.out _) | exact quiet_more (CO.out _)))
        go_wp2
        go_ret
        exact ⟨ret_bool hb.out, _, by first | rfl | exact World.drewN_drewN ..⟩
      · have hb := Lib.hid (hnext.out h1)
        have hneg : 0 ≤ ordI x1 x2 := by simp [testOk] at h1; exact h1
        clear h1 hbad hnext
        generalize ordI x1 x2 = o at *
        go_wp2
        go_quiet ((go_at_call 96; first | exact quiet_add (CO.out _) | exact quiet_more (CO.out _)))
        go_wp2
        go_roundw
        case rel => exact ⟨k + 1, by omega, by go_num, hb, _, by first | rfl | exact World.drewN_drewN ..⟩
        case measure => simp [intOf]; omega
    · have hkk : k = xs.length := by omega
      have hfin := Lib.hid (tests_end (xs := xs) (hkk ▸ hT.out))
      clear hkk
      go_wp2
      all_goals go_ret
      all_goals exact ⟨ret_bool (by rw [← hfin.out]; simp; try omega), _, rfl⟩

theorem notTakes_any (x : Tst) (hx : small x) (w : World) : Calls Tryz.prog 98 #[.agg #[.string x.1, .string x.2.1, .string x.2.2]] w fun e w' => e = .returned (.bool (!testOk x)) ∧ Fr w.heap.size none w w' := by
  obtain ⟨x1, x2, x3⟩ := x
  obtain ⟨s1, s2, s3⟩ := hx
  go_enter Tryz.func98, Tryz.ntmps98
  go_wp2_with (go_at_call 99; refine (takes_any _ _ _ s1 s2).mono ?_; rintro e w' ⟨rfl, rfl⟩)
  go_ret
  exact ⟨rfl, (Fr.refl _ _ _).alloc (Nat.le_refl _) _⟩
theorem notAns_any (x : Tst) (hx : small x) (w : World) : Calls Tryz.prog 58 #[.agg #[.string x.1, .string x.2.1, .string x.2.2]] w fun e w' => e = .returned (.bool (!ansOk x)) ∧ Fr w.heap.size none w w' := by
  obtain ⟨x1, x2, x3⟩ := x
  obtain ⟨s1, s2, s3⟩ := hx
  go_enter Tryz.func58, Tryz.ntmps58
  go_wp2_with (go_at_call 55; refine (num_val s3 rfl _).mono ?_; rintro e w' ⟨rfl, rfl⟩)
  go_ret
  exact ⟨rfl, (Fr.refl _ _ _).alloc (Nat.le_refl _) _⟩

theorem anyT_take_succ (p : Tst → Bool) (xs : List Tst) (k : Nat) (h : k < xs.length) : (xs.take (k+1)).any p = ((xs.take k).any p || p (xs.getD k noTest)) := by
  rw [List.take_succ_eq_append_getElem h, List.any_append]; simp [List.getD_eq_getElem?_getD, h]
theorem anyT_of_take (p : Tst → Bool) (xs : List Tst) (k : Nat) (h : k < xs.length) (hp : p (xs.getD k noTest) = true) : xs.any p = true := by
  rw [List.any_eq_true]; exact ⟨xs[k], List.getElem_mem h, by simpa [List.getD_eq_getElem?_getD, h] using hp⟩

theorem indexFuncT (g : FuncId) (p : Tst → Bool) (eg : ∀ args w, (callFunc g args).run Tryz.prog w = .ok (.enter g args) w)
    (hg : ∀ (x : Tst), small x → ∀ w, Calls Tryz.prog g #[.agg #[.string x.1, .string x.2.1, .string x.2.2]] w fun e w' => e = .returned (.bool (p x)) ∧ Fr w.heap.size none w w')
    (a : Option Addr) (cap : Nat) (xs : List Tst) (w : World) (hs : Sl w a (tests xs)) (hm : xs.length ≤ 1048576) (hz : Small xs) :
    Calls Tryz.prog 100 #[.slice a xs.length cap, .func (.func g) #[] #[]] w fun e w' => ∃ r : Int, e = .returned (.int .i64 r) ∧ decide (0 ≤ r) = xs.any p ∧ Fr w.heap.size none w w' := by
  have HC := Lib.hid hs; have HZ := Lib.hid hz; clear hs hz
  have HG := Lib.hid hg; clear hg
  go_enter Tryz.func100, Tryz.ntmps100
  go_wp2
  go_loopw [8] (fun i wr => ∃ k : Nat, k ≤ xs.length ∧ i = .int .i64 k ∧ Hid ((xs.take k).any p = false) ∧ Fr w.heap.size none w wr) (fun i _ => xs.length - (intOf i).toNat)
  case atStart => exact ⟨0, Nat.zero_le _, rfl, rfl, Fr.refl _ _ _⟩
  case round =>
    obtain ⟨k, hk, rfl, hT, hF⟩ := hrel
    have HF := Lib.hid hF; clear hF
    by_cases hlt : k < xs.length
    · obtain ⟨b, off, rfl, hc0, hc1, hc2, hc1', hc2'⟩ := (HC.out.fr HF.out).test k hlt
      have hx := HZ.out.at k
      cases hb : p (xs.getD k noTest)
      · have HB := Lib.hid hb; clear hb
        have hT' := Lib.hid (show (xs.take (k+1)).any p = false by rw [anyT_take_succ p xs k hlt, hT.out, HB.out]; rfl)
        generalize xs.getD k noTest = x at *
        go_wp2_with fail
        refine (HG.out x hx _).mono ?_
        rintro e w' ⟨rfl, hF2⟩
        have HF2 := Lib.hid (HF.out.and hF2); clear hF2
        rw [HB.out]
        go_wp2
        go_roundw
        case rel => exact ⟨k + 1, by omega, by go_num, hT', HF2.out⟩
        case measure => simp [intOf]; omega
      · have HB := Lib.hid hb; clear hb
        have hT' := Lib.hid (show xs.any p = true from anyT_of_take p xs k hlt HB.out)
        generalize xs.getD k noTest = x at *
        go_wp2_with fail
        refine (HG.out x hx _).mono ?_
        rintro e w' ⟨rfl, hF2⟩
        have HF2 := Lib.hid (HF.out.and hF2); clear hF2
        rw [HB.out]
        go_wp2
        go_ret
        exact ⟨_, rfl, by rw [hT'.out]; simp, HF2.out⟩
    · have hkk : k = xs.length := by omega
      have hT' := Lib.hid (show xs.any p = false by have := hT.out; rw [hkk, List.take_length] at this; exact this)
      clear hkk
      go_wp2
      go_ret
      exact ⟨_, rfl, by rw [hT'.out]; decide, HF.out⟩

theorem containsFuncT (g : FuncId) (p : Tst → Bool) (eg : ∀ args w, (callFunc g args).run Tryz.prog w = .ok (.enter g args) w)
    (hg : ∀ (x : Tst), small x → ∀ w, Calls Tryz.prog g #[.agg #[.string x.1, .string x.2.1, .string x.2.2]] w fun e w' => e = .returned (.bool (p x)) ∧ Fr w.heap.size none w w')
    (a : Option Addr) (cap : Nat) (xs : List Tst) (w : World) (hs : Sl w a (tests xs)) (hm : xs.length ≤ 1048576) (hz : Small xs) :
    Calls Tryz.prog 57 #[.slice a xs.length cap, .func (.func g) #[] #[]] w fun e w' => e = .returned (.bool (xs.any p)) ∧ Fr w.heap.size none w w' := by
  have HG := Lib.hid hg; clear hg
  have HS := Lib.hid hs; clear hs
  go_enter Tryz.func57, Tryz.ntmps57
  go_wp2_with fail
  refine (indexFuncT g p eg HG.out a cap xs w HS.out hm hz).mono ?_
  rintro e w' ⟨r, rfl, hr, hF⟩
  have HR := Lib.hid hr; clear hr
  go_wp2
  go_ret
  exact ⟨ret_bool HR.out, hF⟩


theorem implTestsOk_any (a : Option Addr) (cap : Nat) (xs : List Tst) (w : World) (hs : Sl w a (tests xs)) (hm : xs.length ≤ 1048576) (hz : Small xs) :
    Calls Tryz.prog 56 #[.slice a xs.length cap] w fun e w' => e = .returned (.bool (testsOkB xs)) ∧ Fr w.heap.size none w w' := by
  have HS := Lib.hid hs; clear hs
  by_cases hl : xs.length ≤ 6
  · have hfin := Lib.hid (show (!xs.any fun c => !testOk c) = testsOkB xs by rw [testsOkB, List.all_eq_not_any_not]; simp [hl])
    go_enter Tryz.func56, Tryz.ntmps56
    go_wp2_with (go_at_call 57; refine (containsFuncT 98 (fun c => !testOk c) (enters_by Tryz.func98 (by kernel_rfl) rfl) notTakes_any _ _ _ _ HS.out hm hz).mono ?_; rintro e w' ⟨rfl, hF⟩)
    go_ret
    exact ⟨ret_bool hfin.out, hF⟩
  · have hfin := Lib.hid (show false = testsOkB xs by rw [testsOkB]; simp [hl])
    have hlt : (6 : Int) < xs.length := by omega
    go_enter Tryz.func56, Tryz.ntmps56
    go_wp2
    go_ret
    exact ⟨ret_bool hfin.out, Fr.refl _ _ _⟩
theorem implTests_val {a : Option Addr} {cap : Nat} {xs : List Tst} {w : World} {r : Bool} (hs : Sl w a (tests xs)) (hm : xs.length ≤ 1048576) (hz : Small xs) (h : testsOkB xs = r) :
    Calls Tryz.prog 56 #[.slice a xs.length cap] w fun e w' => e = .returned (.bool r) ∧ Fr w.heap.size none w w' := h ▸ implTestsOk_any a cap xs w hs hm hz
theorem implBoardOk_any (a : Option Addr) (cap : Nat) (xs : List Tst) (w : World) (hs : Sl w a (tests xs)) (hm : xs.length ≤ 1048576) (hz : Small xs) :
    Calls Tryz.prog 14 #[.slice a xs.length cap] w fun e w' => e = .returned (.bool (boardOkB xs)) ∧ Fr w.heap.size none w w' := by
  have HS := Lib.hid hs; clear hs
  cases h : testsOkB xs
  · have hfin := Lib.hid (show false = boardOkB xs by simp [boardOkB, h])
    have H := Lib.hid h; clear h
    go_enter Tryz.func14, Tryz.ntmps14
    go_wp2_with (go_at_call 56; refine (implTests_val HS.out hm hz H.out).mono ?_; rintro e w' ⟨rfl, hF⟩)
    go_ret
    exact ⟨ret_bool hfin.out, hF⟩
  · have hfin := Lib.hid (show (!xs.any fun c => !ansOk c) = boardOkB xs by rw [boardOkB, h, List.all_eq_not_any_not]; simp)
    have H := Lib.hid h; clear h
    go_enter Tryz.func14, Tryz.ntmps14
    go_wp2_with fail
    refine (implTests_val HS.out hm hz H.out).mono ?_; rintro e w1 ⟨rfl, hF1⟩
    have HF1 := Lib.hid hF1; clear hF1
    go_wp2_with fail
    refine (containsFuncT 58 (fun c => !ansOk c) (enters_by Tryz.func58 (by kernel_rfl) rfl) notAns_any _ _ _ _ (HS.out.fr HF1.out) hm hz).mono ?_; rintro e w2 ⟨rfl, hF2⟩
    have HF2 := Lib.hid (HF1.out.and hF2); clear hF2
    go_wp2
    go_ret
    exact ⟨ret_bool hfin.out, HF2.out⟩
theorem implBoard_val {a : Option Addr} {cap : Nat} {xs : List Tst} {w : World} {r : Bool} (hs : Sl w a (tests xs)) (hm : xs.length ≤ 1048576) (hz : Small xs) (h : boardOkB xs = r) :
    Calls Tryz.prog 14 #[.slice a xs.length cap] w fun e w' => e = .returned (.bool r) ∧ Fr w.heap.size none w w' := h ▸ implBoardOk_any a cap xs w hs hm hz
theorem specTests_val {a : Option Addr} {cap : Nat} {xs : List Tst} {w : World} {r : Bool} (hs : Sl w a (tests xs)) (hm : xs.length ≤ 1048576) (hz : Small xs) (h : testsOkB xs = r) :
    Calls Tryz.prog 54 #[.slice a xs.length cap] w fun e w' => e = .returned (.bool r) ∧ ∃ m, w' = w.drewN m := h ▸ specTestsOk_any a cap xs w hs hm hz
def ansTo (xs : List Tst) (k : Nat) : Bool := (xs.take k).all ansOk
theorem ans_next {xs : List Tst} {k : Nat} (hk : k < xs.length) (h : ansTo xs k = true) (hc : ansOk (xs.getD k noTest) = true) : ansTo xs (k + 1) = true := by
  unfold ansTo at *
  rw [List.take_succ_eq_append_getElem hk, List.all_append, h]
  simpa [List.getD_eq_getElem?_getD, hk] using hc
theorem board_bad {xs : List Tst} {k : Nat} (hk : k < xs.length) (hc : ansOk (xs.getD k noTest) = false) : false = boardOkB xs := by
  rw [boardOkB, all_bad ansOk noTest hk hc]; simp
theorem board_end {xs : List Tst} (h : ansTo xs xs.length = true) : testsOkB xs = boardOkB xs := by
  unfold ansTo at h; rw [List.take_length] at h; simp [boardOkB, h]
theorem specBoardOk_any (a : Option Addr) (cap : Nat) (xs : List Tst) (w : World) (hs : Sl w a (tests xs)) (hm : xs.length ≤ 1048576) (hz : Small xs) :
    Calls Tryz.prog 12 #[.slice a xs.length cap] w fun e w' => e = .returned (.bool (boardOkB xs)) ∧ ∃ m, w' = w.drewN m := by
  have HC := Lib.hid hs; have HZ := Lib.hid hz; clear hs hz
  go_enter Tryz.func12, Tryz.ntmps12
  go_wp2
  go_loop [3] (fun i => ∃ k : Nat, k ≤ xs.length ∧ i = .int .i64 k ∧ Hid (ansTo xs k = true)) (fun i => xs.length - (intOf i).toNat)
  case atStart => exact ⟨0, Nat.zero_le _, rfl, rfl⟩
  case round =>
    obtain ⟨k, hk, rfl, hT⟩ := hrel
    by_cases hlt : k < xs.length
    · obtain ⟨b, off, rfl, hc0, hc1, hc2, hc1', hc2'⟩ := HC.out.test k hlt
      have hbad := Lib.hid (board_bad hlt)
      have hnext := Lib.hid (ans_next hlt hT.out)
      obtain ⟨s1, s2, s3⟩ := HZ.out.at k
      generalize xs.getD k noTest = x at *
      obtain ⟨x1, x2, x3⟩ := x
      cases h1 : ansOk (x1, x2, x3)
      · have hb := Lib.hid (hbad.out h1)
        have H1 := Lib.hid h1
        clear h1 hbad hnext
        go_wp2_with (go_at_call 53; refine (numS_val s3 H1.out _).mono ?_; rintro e w' ⟨rfl, rfl⟩)
        go_ret
        exact ⟨ret_bool hb.out, 0, rfl⟩
      · have hb := Lib.hid (hnext.out h1)
        have H1 := Lib.hid h1
        clear h1 hbad hnext
        go_wp2_with fail
        refine (numS_val s3 H1.out _).mono ?_; rintro e w' ⟨rfl, rfl⟩
        go_wp2
        go_round
        case rel => exact ⟨k + 1, by omega, by go_num, hb⟩
        case measure => simp [intOf]; omega
    · have hkk : k = xs.length := by omega
      have hfin := Lib.hid (board_end (xs := xs) (hkk ▸ hT.out))
      clear hkk
      go_wp2_with (go_at_call 54; refine (specTestsOk_any _ _ _ _ HC.out hm HZ.out).mono ?_; rintro e w' ⟨rfl, m2, rfl⟩)
      go_ret
      exact ⟨ret_bool hfin.out, _, rfl⟩
theorem specBoard_val {a : Option Addr} {cap : Nat} {xs : List Tst} {w : World} {r : Bool} (hs : Sl w a (tests xs)) (hm : xs.length ≤ 1048576) (hz : Small xs) (h : boardOkB xs = r) :
    Calls Tryz.prog 12 #[.slice a xs.length cap] w fun e w' => e = .returned (.bool r) ∧ ∃ m, w' = w.drewN m := h ▸ specBoardOk_any a cap xs w hs hm hz
end Go.Proofs.YtdngnmpmaacapaaGreatDoor
/-
  Contracts: DeedText, of the program and of the reference.
-/
namespace Go.Proofs.YtdngnmpmaacapaaGreatDoor
open Go.RowKit

def backS : ByteArray := ⟨#[98, 97, 99, 107]⟩
def takeS (x : Tst) : ByteArray := (⟨#[116, 97, 107, 101, 32]⟩ : ByteArray) ++ x.1 ++ ⟨#[32]⟩ ++ x.2.1 ++ ⟨#[32]⟩ ++ x.2.2
/-- The text of a deed. -/
def deedT (d : Dd) : ByteArray := if d.1 then (if d.2 = noTest then backS else ⟨#[]⟩) else if numOk d.2.1 && (numOk d.2.2.1 && numOk d.2.2.2) then takeS d.2 else ⟨#[]⟩
theorem deedT_back {x : Tst} (h : x = noTest) : (⟨#[98, 97, 99, 107]⟩ : ByteArray) = deedT (true, x) := by simp [deedT, h, backS]
theorem deedT_nob {x : Tst} (h : x ≠ noTest) : (⟨#[]⟩ : ByteArray) = deedT (true, x) := by simp [deedT, h]
theorem deedT_no1 {x : Tst} (h : numOk x.1 = false) : (⟨#[]⟩ : ByteArray) = deedT (false, x) := by simp [deedT, h]
theorem deedT_no2 {x : Tst} (h : numOk x.2.1 = false) : (⟨#[]⟩ : ByteArray) = deedT (false, x) := by simp [deedT, h]
theorem deedT_no3 {x : Tst} (h : numOk x.2.2 = false) : (⟨#[]⟩ : ByteArray) = deedT (false, x) := by simp [deedT, h]
theorem deedT_take {x : Tst} (h1 : numOk x.1 = true) (h2 : numOk x.2.1 = true) (h3 : numOk x.2.2 = true) : takeS x = deedT (false, x) := by simp [deedT, h1, h2, h3]
theorem ret_str {a b : ByteArray} (h : a = b) : Ending.returned (.string a) = .returned (.string b) := by rw [h]

set_option maxHeartbeats 1000000 in
set_option maxRecDepth 100000 in
theorem implDeedText_any (d : Dd) (w : World) (hd : small d.2) :
    Calls Tryz.prog 34 #[.agg #[.bool d.1, .string d.2.1, .string d.2.2.1, .string d.2.2.2]] w fun e w' => e = .returned (.string (deedT d)) ∧ Fr w.heap.size none w w' := by
  obtain ⟨d0, x1, x2, x3⟩ := d
  obtain ⟨s1, s2, s3⟩ := hd
  dsimp only at s1 s2 s3
  cases d0
  · cases h1 : numOk x1
    · have hr := Lib.hid (deedT_no1 (x := (x1, x2, x3)) h1)
      have H1 := Lib.hid h1; clear h1
      go_enter Tryz.func34, Tryz.ntmps34
      go_wp2_with (go_at_call 55; refine (num_val s1 H1.out _).mono ?_; rintro e w' ⟨rfl, rfl⟩)
      go_ret
      exact ⟨ret_str hr.out, ((Fr.refl _ _ w).alloc (Nat.le_refl _) _).alloc (by simp) _⟩
    · cases h2 : numOk x2
      · have hr := Lib.hid (deedT_no2 (x := (x1, x2, x3)) h2)
        have H1 := Lib.hid h1; have H2 := Lib.hid h2; clear h1 h2
        go_enter Tryz.func34, Tryz.ntmps34
        go_wp2_with fail
        refine (num_val s1 H1.out _).mono ?_; rintro e w' ⟨rfl, rfl⟩
        go_wp2_with fail
        refine (num_val s2 H2.out _).mono ?_; rintro e w' ⟨rfl, rfl⟩
        go_wp2
        go_ret
        exact ⟨ret_str hr.out, ((Fr.refl _ _ w).alloc (Nat.le_refl _) _).alloc (by simp) _⟩
      · cases h3 : numOk x3
        · have hr := Lib.hid (deedT_no3 (x := (x1, x2, x3)) h3)
          have H1 := Lib.hid h1; have H2 := Lib.hid h2; have H3 := Lib.hid h3; clear h1 h2 h3
          go_enter Tryz.func34, Tryz.ntmps34
          go_wp2_with fail
          refine (num_val s1 H1.out _).mono ?_; rintro e w' ⟨rfl, rfl⟩
          go_wp2_with fail
          refine (num_val s2 H2.out _).mono ?_; rintro e w' ⟨rfl, rfl⟩
          go_wp2_with fail
          refine (num_val s3 H3.out _).mono ?_; rintro e w' ⟨rfl, rfl⟩
          go_wp2
          go_ret
          exact ⟨ret_str hr.out, ((Fr.refl _ _ w).alloc (Nat.le_refl _) _).alloc (by simp) _⟩
        · have hr := Lib.hid (deedT_take (x := (x1, x2, x3)) h1 h2 h3)
          have H1 := Lib.hid h1; have H2 := Lib.hid h2; have H3 := Lib.hid h3; clear h1 h2 h3
          have t0 : (⟨#[116, 97, 107, 101, 32]⟩ : ByteArray).size = 5 := rfl
          have t1 : (⟨#[32]⟩ : ByteArray).size = 1 := rfl
          have a1 := fun W => run_string_add_sum (P := Tryz.prog) W ⟨#[116, 97, 107, 101, 32]⟩ x1 (by omega)
          have a2 := fun W => run_string_add_sum (P := Tryz.prog) W ((⟨#[116, 97, 107, 101, 32]⟩ : ByteArray) ++ x1) ⟨#[32]⟩ (by simp only [ByteArray.size_append]; omega)
          have a3 := fun W => run_string_add_sum (P := Tryz.prog) W ((⟨#[116, 97, 107, 101, 32]⟩ : ByteArray) ++ x1 ++ ⟨#[32]⟩) x2 (by simp only [ByteArray.size_append]; omega)
          have a4 := fun W => run_string_add_sum (P := Tryz.prog) W ((⟨#[116, 97, 107, 101, 32]⟩ : ByteArray) ++ x1 ++ ⟨#[32]⟩ ++ x2) ⟨#[32]⟩ (by simp only [ByteArray.size_append]; omega)
          have a5 := fun W => run_string_add_sum (P := Tryz.prog) W ((⟨#[116, 97, 107, 101, 32]⟩ : ByteArray) ++ x1 ++ ⟨#[32]⟩ ++ x2 ++ ⟨#[32]⟩) x3 (by simp only [ByteArray.size_append]; omega)
          clear t0 t1
          go_enter Tryz.func34, Tryz.ntmps34
          go_wp2_with fail
          refine (num_val s1 H1.out _).mono ?_; rintro e w' ⟨rfl, rfl⟩
          go_wp2_with fail
          refine (num_val s2 H2.out _).mono ?_; rintro e w' ⟨rfl, rfl⟩
          go_wp2_with fail
          refine (num_val s3 H3.out _).mono ?_; rintro e w' ⟨rfl, rfl⟩
          go_wp2
          go_ret
          exact ⟨ret_str hr.out, ((Fr.refl _ _ w).alloc (Nat.le_refl _) _).alloc (by simp) _⟩
  · by_cases hx : (x1, x2, x3) = noTest
    · have hr := Lib.hid (deedT_back hx)
      simp only [noTest, Prod.mk.injEq] at hx
      obtain ⟨rfl, rfl, rfl⟩ := hx
      go_enter Tryz.func34, Tryz.ntmps34
      go_wp2
      go_ret
      exact ⟨ret_str hr.out, ((Fr.refl _ _ w).alloc (Nat.le_refl _) _).alloc (by simp) _⟩
    · have hr := Lib.hid (deedT_nob hx)
      have HX := Lib.hid hx; clear hx
      go_enter Tryz.func34, Tryz.ntmps34
      go_wp2
      all_goals first
        | (exfalso; apply HX.out; simp only [noTest, Prod.mk.injEq]; refine ⟨?_, ?_, ?_⟩ <;> (rw [← toList_nil_iff_emptyBytes]; assumption))
        | (go_ret; exact ⟨ret_str hr.out, ((Fr.refl _ _ w).alloc (Nat.le_refl _) _).alloc (by simp) _⟩)

set_option maxHeartbeats 1000000 in
set_option maxRecDepth 100000 in
theorem specDeedText_any (d : Dd) (w : World) (hd : small d.2) :
    Calls Tryz.prog 80 #[.agg #[.bool d.1, .string d.2.1, .string d.2.2.1, .string d.2.2.2]] w fun e w' => e = .returned (.string (deedT d)) ∧ Fr w.heap.size none w w' := by
  obtain ⟨d0, x1, x2, x3⟩ := d
  obtain ⟨s1, s2, s3⟩ := hd
  dsimp only at s1 s2 s3
  cases d0
  · cases h1 : numOk x1
    · have hr := Lib.hid (deedT_no1 (x := (x1, x2, x3)) h1)
      have H1 := Lib.hid h1; clear h1
      go_enter Tryz.func80, Tryz.ntmps80
      go_wp2_with (go_at_call 53; refine (numS_val s1 H1.out _).mono ?_; rintro e w' ⟨rfl, rfl⟩)
      go_ret
      exact ⟨ret_str hr.out, (Fr.refl _ _ w).alloc (Nat.le_refl _) _⟩
    · cases h2 : numOk x2
      · have hr := Lib.hid (deedT_no2 (x := (x1, x2, x3)) h2)
        have H1 := Lib.hid h1; have H2 := Lib.hid h2; clear h1 h2
        go_enter Tryz.func80, Tryz.ntmps80
        go_wp2_with fail
        refine (numS_val s1 H1.out _).mono ?_; rintro e w' ⟨rfl, rfl⟩
        go_wp2_with fail
        refine (numS_val s2 H2.out _).mono ?_; rintro e w' ⟨rfl, rfl⟩
        go_wp2
        go_ret
        exact ⟨ret_str hr.out, (Fr.refl _ _ w).alloc (Nat.le_refl _) _⟩
      · cases h3 : numOk x3
        · have hr := Lib.hid (deedT_no3 (x := (x1, x2, x3)) h3)
          have H1 := Lib.hid h1; have H2 := Lib.hid h2; have H3 := Lib.hid h3; clear h1 h2 h3
          go_enter Tryz.func80, Tryz.ntmps80
          go_wp2_with fail
          refine (numS_val s1 H1.out _).mono ?_; rintro e w' ⟨rfl, rfl⟩
          go_wp2_with fail
          refine (numS_val s2 H2.out _).mono ?_; rintro e w' ⟨rfl, rfl⟩
          go_wp2_with fail
          refine (numS_val s3 H3.out _).mono ?_; rintro e w' ⟨rfl, rfl⟩
          go_wp2
          go_ret
          exact ⟨ret_str hr.out, (Fr.refl _ _ w).alloc (Nat.le_refl _) _⟩
        · have hr := Lib.hid (deedT_take (x := (x1, x2, x3)) h1 h2 h3)
          have H1 := Lib.hid h1; have H2 := Lib.hid h2; have H3 := Lib.hid h3; clear h1 h2 h3
          have t0 : (⟨#[116, 97, 107, 101, 32]⟩ : ByteArray).size = 5 := rfl
          have t1 : (⟨#[32]⟩ : ByteArray).size = 1 := rfl
          have a1 := fun W => run_string_add_sum (P := Tryz.prog) W ⟨#[116, 97, 107, 101, 32]⟩ x1 (by omega)
          have a2 := fun W => run_string_add_sum (P := Tryz.prog) W ((⟨#[116, 97, 107, 101, 32]⟩ : ByteArray) ++ x1) ⟨#[32]⟩ (by simp only [ByteArray.size_append]; omega)
          have a3 := fun W => run_string_add_sum (P := Tryz.prog) W ((⟨#[116, 97, 107, 101, 32]⟩ : ByteArray) ++ x1 ++ ⟨#[32]⟩) x2 (by simp only [ByteArray.size_append]; omega)
          have a4 := fun W => run_string_add_sum (P := Tryz.prog) W ((⟨#[116, 97, 107, 101, 32]⟩ : ByteArray) ++ x1 ++ ⟨#[32]⟩ ++ x2) ⟨#[32]⟩ (by simp only [ByteArray.size_append]; omega)
          have a5 := fun W => run_string_add_sum (P := Tryz.prog) W ((⟨#[116, 97, 107, 101, 32]⟩ : ByteArray) ++ x1 ++ ⟨#[32]⟩ ++ x2 ++ ⟨#[32]⟩) x3 (by simp only [ByteArray.size_append]; omega)
          clear t0 t1
          go_enter Tryz.func80, Tryz.ntmps80
          go_wp2_with fail
          refine (numS_val s1 H1.out _).mono ?_; rintro e w' ⟨rfl, rfl⟩
          go_wp2_with fail
          refine (numS_val s2 H2.out _).mono ?_; rintro e w' ⟨rfl, rfl⟩
          go_wp2_with fail
          refine (numS_val s3 H3.out _).mono ?_; rintro e w' ⟨rfl, rfl⟩
          go_wp2
          go_ret
          exact ⟨ret_str hr.out, (Fr.refl _ _ w).alloc (Nat.le_refl _) _⟩
  · by_cases hx : (x1, x2, x3) = noTest
    · have hr := Lib.hid (deedT_back hx)
      simp only [noTest, Prod.mk.injEq] at hx
      obtain ⟨rfl, rfl, rfl⟩ := hx
      go_enter Tryz.func80, Tryz.ntmps80
      go_wp2
      go_ret
      exact ⟨ret_str hr.out, (Fr.refl _ _ w).alloc (Nat.le_refl _) _⟩
    · have hr := Lib.hid (deedT_nob hx)
      have HX := Lib.hid hx; clear hx
      go_enter Tryz.func80, Tryz.ntmps80
      go_wp2
      all_goals first
        | (exfalso; apply HX.out; simp only [noTest, Prod.mk.injEq]; refine ⟨?_, ?_, ?_⟩ <;> (rw [← toList_nil_iff_emptyBytes]; assumption))
        | (go_ret; exact ⟨ret_str hr.out, (Fr.refl _ _ w).alloc (Nat.le_refl _) _⟩)
end Go.Proofs.YtdngnmpmaacapaaGreatDoor
/-
  Contracts: the draws of numerals and deeds: they return short texts.
-/
namespace Go.Proofs.YtdngnmpmaacapaaGreatDoor
open Go.RowKit

/-- A text is drawn with the reader B. -/
def RdStr (B N m : Nat) (w : World) (e : Ending) (w' : World) : Prop := ∃ s : ByteArray, e = .returned (.string s) ∧ s.size ≤ m ∧ Rdr w' B N ∧ Fr w.heap.size (some B) w w'
theorem rdr_keep {w w' : World} {B N : Nat} (h : Rdr w B N) (hF : Fr w.heap.size none w w') : Rdr w' B N := h.fr hF h.lt (by simp)
theorem fr_any {B : Nat} {a b c : World} (h : Fr a.heap.size (some B) a b) (k : Fr b.heap.size none b c) : Fr a.heap.size (some B) a c := h.trans ((k.mono h.size).weak _)
theorem fr_rd {B : Nat} {a b c : World} (h : Fr a.heap.size (some B) a b) (k : Fr b.heap.size (some B) b c) : Fr a.heap.size (some B) a c := h.trans (k.mono h.size)
theorem five_ints {w : World} {g : Nat} {a b c d e : Int} {q : Nat} (h : ∀ j : Nat, j < 5 → w.cell? ⟨g, j, none⟩ = #[Value.int .i64 a, .int .i64 b, .int .i64 c, .int .i64 d, .int .i64 e][j]?) (hq : q < 5)
    (ha : 0 ≤ a ∧ a ≤ 9) (hb : 0 ≤ b ∧ b ≤ 9) (hc : 0 ≤ c ∧ c ≤ 9) (hd : 0 ≤ d ∧ d ≤ 9) (he : 0 ≤ e ∧ e ≤ 9) : ∃ x : Int, w.cell? ⟨g, q, none⟩ = some (.int .i64 x) ∧ 0 ≤ x ∧ x ≤ 9 := by
  have := h q hq
  have h2 : q = 0 ∨ q = 1 ∨ q = 2 ∨ q = 3 ∨ q = 4 := by omega
  rcases h2 with rfl | rfl | rfl | rfl | rfl
  · exact ⟨a, this, ha.1, ha.2⟩
  · exact ⟨b, this, hb.1, hb.2⟩
  · exact ⟨c, this, hc.1, hc.2⟩
  · exact ⟨d, this, hd.1, hd.2⟩
  · exact ⟨e, this, he.1, he.2⟩
theorem five_strs {w : World} {g m : Nat} {a b c d e : ByteArray} {q : Nat} (h : ∀ j : Nat, j < 5 → w.cell? ⟨g, j, none⟩ = #[Value.string a, .string b, .string c, .string d, .string e][j]?) (hq : q < 5)
    (ha : a.size ≤ m) (hb : b.size ≤ m) (hc : c.size ≤ m) (hd : d.size ≤ m) (he : e.size ≤ m) : ∃ x : ByteArray, w.cell? ⟨g, q, none⟩ = some (.string x) ∧ x.size ≤ m := by
  have := h q hq
  have h2 : q = 0 ∨ q = 1 ∨ q = 2 ∨ q = 3 ∨ q = 4 := by omega
  rcases h2 with rfl | rfl | rfl | rfl | rfl
  · exact ⟨a, this, ha⟩
  · exact ⟨b, this, hb⟩
  · exact ⟨c, this, hc⟩
  · exact ⟨d, this, hd⟩
  · exact ⟨e, this, he⟩
theorem block_cells {w : World} {g : Nat} {cs : Array Value} {T : TypeId} (h : w.heap[g]? = some (.cells cs T (0, 0))) (j : Nat) : w.cell? ⟨g, j, none⟩ = cs[j]? := by
  simp [World.cell?, h]

set_option maxHeartbeats 4000000 in
theorem l20Numeral_any (B N : Nat) (most n : Int) (w : World) (h : Rdr w B N) (hN : N ≤ 1000000) (hm : 1 ≤ most ∧ most ≤ 9) (hn : n ≤ 1000000) :
    Calls Tryz.prog 79 #[.pointer (some ⟨B, 0, none⟩), .int .i64 most, .int .i64 n] w (RdStr B (N + 100) 10 w) := by
  have hBl := h.lt
  obtain ⟨m0, m1⟩ := hm
  have HR0 := Lib.hid h; clear h
  go_enter Tryz.func79, Tryz.ntmps79
  go_wp2_with fail
  refine (pick_any B N _ _ HR0.out (by omega)).mono ?_; rintro e w1 ⟨p, rfl, ⟨p0, p1, _⟩, hR1, hF1⟩
  have R1 := Lib.hid hR1; have F1 := Lib.hid hF1; have p2 := p1 (by omega)
  clear hR1 hF1 p1
  go_wp2
  go_loopw [7, 8] (fun o i wr => ∃ (k : Nat) (x : ByteArray), i = .int .i64 (k : Int) ∧ k ≤ 9 ∧ o = .string x ∧ x.size + k ≤ 9 ∧ Hid (Rdr wr B (N + 1 + 7 * (9 - k))) ∧ Fr w.heap.size (some B) w wr) (fun _ i _ => (intOf i).toNat)
  case atStart => exact ⟨(1 + p).toNat, _, by go_num, by omega, rfl, (by show 0 + (1 + p).toNat ≤ 9; omega), Lib.hid (R1.out.mono (by omega)), F1.out⟩
  case round =>
    obtain ⟨k, x, rfl, hk, rfl, hx, hR, hF⟩ := hrel
    have HF := Lib.hid hF; clear hF
    by_cases hk0 : 0 < k
    · have hk0' : (0 : Int) < (k : Int) := by omega
      go_wp2_with fail
      refine (pick_any B _ _ _ hR.out (by omega)).mono ?_; rintro e w2 ⟨q1, rfl, ⟨a1, b1, _⟩, hR2, hF2⟩
      have R2 := Lib.hid hR2; have F2 := Lib.hid (fr_rd HF.out hF2); have c1 := b1 (by omega); clear hR2 hF2 b1
      go_wp2_with fail
      refine (pick_any B _ _ _ R2.out (by omega)).mono ?_; rintro e w3 ⟨q2, rfl, ⟨a2, b2, _⟩, hR3, hF3⟩
      have R3 := Lib.hid hR3; have F3 := Lib.hid (fr_rd F2.out hF3); have c2 := b2 (by omega); clear hR3 hF3 b2
      go_wp2_with fail
      refine (pick_any B _ _ _ R3.out (by omega)).mono ?_; rintro e w4 ⟨q3, rfl, ⟨a3, b3, _⟩, hR4, hF4⟩
      have R4 := Lib.hid hR4; have F4 := Lib.hid (fr_rd F3.out hF4); have c3 := b3 (by omega); clear hR4 hF4 b3
      have hB4 := R4.out.lt
      go_wp2_with fail
      refine (pick_any B _ _ _ (R4.out.fr ((Fr.refl w4.heap.size none w4).alloc (Nat.le_refl _) _) hB4 (by simp)) (by omega)).mono ?_; rintro e w5 ⟨q4, rfl, ⟨a4, b4, _⟩, hR5, hF5⟩
      have R5 := Lib.hid hR5
      have c4 := b4 (by omega)
      have F5 := Lib.hid (fr_rd (fr_any F4.out ((Fr.refl w4.heap.size none w4).alloc (Nat.le_refl _) _)) hF5)
      obtain ⟨q4n, rfl⟩ := Int.eq_ofNat_of_zero_le a4
      have hq5 : q4n < 5 := by omega
      have cells5 : ∀ j : Nat, j < 5 → w5.cell? ⟨w4.heap.size, j, none⟩ = #[Value.int .i64 0, .int .i64 9, .int .i64 q1, .int .i64 q2, .int .i64 q3][j]? := by
        intro j hj
        refine block_cells (T := 3) ?_ j
        rw [hF5.block w4.heap.size (by simp) (by simp; omega)]
        exact heap_alloc_new w4 _
      obtain ⟨d, hcd, d0, d1⟩ := five_ints cells5 hq5 (by omega) (by omega) (by omega) (by omega) (by omega)
      have hq40 : (0 : Int) ≤ (q4n : Int) := by omega
      have hq45 : (q4n : Int) < 5 := by omega
      clear hR5 hF5 b4 cells5 c4
      go_wp2_with (first
        | (go_at_call 65; refine (pick_any B _ _ _ R5.out (by omega)).mono ?_; rintro e w6 ⟨q6, rfl, ⟨a6, b6, _⟩, hR6, hF6⟩; (
            have R6 := Lib.hid hR6; have F6 := Lib.hid (fr_rd F5.out hF6); have c6 := b6 (by omega); clear hR6 hF6 b6))
        | (go_at_call 43; refine (l1One_any _ _ (by omega) (by omega)).mono ?_; rintro e w7 ⟨⟨y, rfl, hy⟩, hF7⟩; (
            have R7 := Lib.hid (show Rdr w7 B (N + 1 + 7 * (9 - k) + 5) by first | exact (rdr_keep R6.out hF7).mono (by omega) | exact (rdr_keep R5.out hF7).mono (by omega))
            have F7 := Lib.hid (show Fr w.heap.size (some B) w w7 by first | exact fr_any F6.out hF7 | exact fr_any F5.out hF7)
            clear hF7
            have ad := fun W => run_string_add_sum (P := Tryz.prog) W x y (by omega)
            have hsz := Lib.hid (show (x ++ y).size = x.size + 1 by rw [ByteArray.size_append, hy]))))
      all_goals go_roundw
      all_goals first
        | (refine ⟨k - 1, _, by go_num, by omega, rfl, ?_, Lib.hid (R7.out.mono (by omega)), F7.out⟩; first | (rw [hsz.out]; omega) | omega)
        | (simp [intOf]; omega)
    · have hk1 : k = 0 := by omega
      subst hk1
      go_wp2_with fail
      refine (odd_any B _ _ _ hR.out (by omega) (by omega)).mono ?_; rintro e w2 ⟨bo, rfl, _, hR2, hF2⟩
      have R2 := Lib.hid hR2; have F2 := Lib.hid (fr_rd HF.out hF2); clear hR2 hF2
      cases bo
      · go_wp2
        go_ret
        exact ⟨x, rfl, by omega, R2.out.mono (by omega), F2.out⟩
      · have t1 : (⟨#[48]⟩ : ByteArray).size = 1 := rfl
        have t2 : (⟨#[120]⟩ : ByteArray).size = 1 := rfl
        have ad1 := fun W => run_string_add_sum (P := Tryz.prog) W ⟨#[48]⟩ x (by omega)
        have ad2 := fun W => run_string_add_sum (P := Tryz.prog) W x ⟨#[120]⟩ (by omega)
        have s1 : ((⟨#[48]⟩ : ByteArray) ++ x).size ≤ 10 := by rw [ByteArray.size_append]; omega
        have s2 : (x ++ (⟨#[120]⟩ : ByteArray)).size ≤ 10 := by rw [ByteArray.size_append]; omega
        obtain ⟨u1, hu1⟩ : ∃ u, u = (⟨#[48]⟩ : ByteArray) ++ x := ⟨_, rfl⟩
        obtain ⟨u2, hu2⟩ : ∃ u, u = x ++ (⟨#[120]⟩ : ByteArray) := ⟨_, rfl⟩
        rw [← hu1] at ad1 s1; rw [← hu2] at ad2 s2
        clear t1 t2 hu1 hu2
        have hB2 := R2.out.lt
        go_wp2_with fail
        refine (pick_any B _ _ _ (R2.out.fr ((Fr.refl w2.heap.size none w2).alloc (Nat.le_refl _) _) hB2 (by simp)) (by omega)).mono ?_; rintro e w5 ⟨q4, rfl, ⟨a4, b4, _⟩, hR5, hF5⟩
        have R5 := Lib.hid hR5
        have c4 := b4 (by omega)
        have F5 := Lib.hid (fr_rd (fr_any F2.out ((Fr.refl w2.heap.size none w2).alloc (Nat.le_refl _) _)) hF5)
        obtain ⟨q4n, rfl⟩ := Int.eq_ofNat_of_zero_le a4
        have hq5 : q4n < 5 := by omega
        have cells5 : ∀ j : Nat, j < 5 → w5.cell? ⟨w2.heap.size, j, none⟩ = #[Value.string ⟨#[]⟩, .string u1, .string ⟨#[97]⟩, .string u2, .string ⟨#[49, 50, 51, 52, 53, 54, 55, 56, 57, 48]⟩][j]? := by
          intro j hj
          refine block_cells (T := 9) ?_ j
          rw [hF5.block w2.heap.size (by simp) (by simp; omega)]
          exact heap_alloc_new w2 _
        obtain ⟨d, hcd, d1⟩ := five_strs (m := 10) cells5 hq5 (by decide) s1 (by decide) s2 (by decide)
        have hq40 : (0 : Int) ≤ (q4n : Int) := by omega
        have hq45 : (q4n : Int) < 5 := by omega
        clear hR5 hF5 b4 cells5 c4
        go_wp2
        go_ret
        exact ⟨d, rfl, d1, R5.out.mono (by omega), F5.out⟩

/-- Two texts are drawn. -/
def RdStr2 (B N m : Nat) (w : World) (e : Ending) (w' : World) : Prop := ∃ s t : ByteArray, e = .returned (.tuple #[.string s, .string t]) ∧ s.size ≤ m ∧ t.size ≤ m ∧ Rdr w' B N ∧ Fr w.heap.size (some B) w w'
theorem l20Both_any (B N : Nat) (most : Int) (w : World) (h : Rdr w B N) (hN : N ≤ 900000) (hm : 1 ≤ most ∧ most ≤ 9) :
    Calls Tryz.prog 78 #[.pointer (some ⟨B, 0, none⟩), .int .i64 most] w (RdStr2 B (N + 250) 10 w) := by
  have HR0 := Lib.hid h; clear h
  go_enter Tryz.func78, Tryz.ntmps78
  go_wp2_with fail
  refine (l20Numeral_any B N most 16 _ HR0.out (by omega) hm (by omega)).mono ?_; rintro e w1 ⟨s, rfl, hs, hR1, hF1⟩
  have R1 := Lib.hid hR1; have F1 := Lib.hid hF1; clear hR1 hF1
  go_wp2_with fail
  refine (l20Numeral_any B _ most 16 _ R1.out (by omega) hm (by omega)).mono ?_; rintro e w2 ⟨t, rfl, ht, hR2, hF2⟩
  have R2 := Lib.hid hR2; have F2 := Lib.hid (fr_rd F1.out hF2); clear hR2 hF2
  go_wp2_with fail
  refine (pick_any B _ _ _ R2.out (by omega)).mono ?_; rintro e w3 ⟨q, rfl, _, hR3, hF3⟩
  have R3 := Lib.hid hR3; have F3 := Lib.hid (fr_rd F2.out hF3); clear hR3 hF3
  by_cases hq : q = 0
  · have hz : (q == 0) = true := by rw [beq_iff_eq]; exact hq
    clear hq
    go_wp2
    go_ret2
    exact ⟨s, s, rfl, hs, hs, R3.out.mono (by omega), F3.out⟩
  · have hz : (q == 0) = false := by rw [beq_eq_false_iff_ne]; exact hq
    clear hq
    go_wp2
    go_ret2
    exact ⟨s, t, rfl, hs, ht, R3.out.mono (by omega), F3.out⟩
theorem l20Greater_any (B N : Nat) (most : Int) (w : World) (h : Rdr w B N) (hN : N ≤ 900000) (hm : 1 ≤ most ∧ most ≤ 9) :
    Calls Tryz.prog 105 #[.pointer (some ⟨B, 0, none⟩), .int .i64 most] w (RdStr2 B (N + 300) 10 w) := by
  have HR0 := Lib.hid h; clear h
  go_enter Tryz.func105, Tryz.ntmps105
  go_wp2_with fail
  refine (l20Both_any B N most _ HR0.out hN hm).mono ?_; rintro e w1 ⟨s, t, rfl, hs, ht, hR1, hF1⟩
  have R1 := Lib.hid hR1; have F1 := Lib.hid hF1; clear hR1 hF1
  have CO := Lib.hid (fun W => specOrder_any s t W (by omega) (by omega))
  generalize ordI s t = o at *
  go_wp2_with fail
  refine (CO.out _).mono ?_; rintro e w2 ⟨rfl, m, rfl⟩
  by_cases ho : o = -1
  · have hz : (o == -1) = true := by rw [beq_iff_eq]; exact ho
    clear ho
    go_wp2_with fail
    refine (pick_any B _ _ _ (R1.out.drewN m) (by omega)).mono ?_; rintro e w3 ⟨q, rfl, _, hR3, hF3⟩
    have R3 := Lib.hid hR3; have F3 := Lib.hid (fr_rd (F1.out.drewN m) hF3); clear hR3 hF3
    by_cases hq : 0 < q
    · go_wp2
      go_ret2
      exact ⟨t, s, rfl, ht, hs, R3.out.mono (by omega), F3.out⟩
    · have hq' : q ≤ 0 := by omega
      go_wp2
      go_ret2
      exact ⟨s, t, rfl, hs, ht, R3.out.mono (by omega), F3.out⟩
  · have hz : (o == -1) = false := by rw [beq_eq_false_iff_ne]; exact ho
    clear ho
    go_wp2
    go_ret2
    exact ⟨s, t, rfl, hs, ht, (R1.out.drewN m).mono (by omega), F1.out.drewN m⟩

def tiny (x : Tst) : Prop := x.1.size ≤ 10 ∧ x.2.1.size ≤ 10 ∧ x.2.2.size ≤ 10
theorem tiny_small {x : Tst} (h : tiny x) : small x := ⟨by have := h.1; omega, by have := h.2.1; omega, by have := h.2.2; omega⟩
/-- A deed is drawn. -/
def RdDeed (B N : Nat) (w : World) (e : Ending) (w' : World) : Prop := ∃ d : Dd, e = .returned (.agg #[.bool d.1, .string d.2.1, .string d.2.2.1, .string d.2.2.2]) ∧ tiny d.2 ∧ Rdr w' B N ∧ Fr w.heap.size (some B) w w'
theorem two_strs {w : World} {g m : Nat} {a b : ByteArray} {q : Nat} (h : ∀ j : Nat, j < 2 → w.cell? ⟨g, j, none⟩ = #[Value.string a, .string b][j]?) (hq : q < 2)
    (ha : a.size ≤ m) (hb : b.size ≤ m) : ∃ x : ByteArray, w.cell? ⟨g, q, none⟩ = some (.string x) ∧ x.size ≤ m := by
  have := h q hq
  have h2 : q = 0 ∨ q = 1 := by omega
  rcases h2 with rfl | rfl
  · exact ⟨a, this, ha⟩
  · exact ⟨b, this, hb⟩
theorem three_strs {w : World} {g m : Nat} {a b c : ByteArray} {q : Nat} (h : ∀ j : Nat, j < 3 → w.cell? ⟨g, j, none⟩ = #[Value.string a, .string b, .string c][j]?) (hq : q < 3)
    (ha : a.size ≤ m) (hb : b.size ≤ m) (hc : c.size ≤ m) : ∃ x : ByteArray, w.cell? ⟨g, q, none⟩ = some (.string x) ∧ x.size ≤ m := by
  have := h q hq
  have h2 : q = 0 ∨ q = 1 ∨ q = 2 := by omega
  rcases h2 with rfl | rfl | rfl
  · exact ⟨a, this, ha⟩
  · exact ⟨b, this, hb⟩
  · exact ⟨c, this, hc⟩
end Go.Proofs.YtdngnmpmaacapaaGreatDoor
