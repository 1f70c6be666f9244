/-
  Plain notions: the order of numerals; exercises and boards. No program is named here.
-/
import Derived.Test.YtdngnmpmaacapaaGreatDoorNum
import Derived.Lib.Bytealg
import Derived.Test.YtdngnmpmaacapaaGreatDoorRows2
namespace Go.Proofs.YtdngnmpmaacapaaGreatDoor
open Go.RowKit

/-- Bytes from the k-th on, compared. -/
def cmpFrom (s t : ByteArray) (k : Nat) : Int := Lib.compareBytes (s.data.toList.drop k) (t.data.toList.drop k)
theorem drop_byte (s : ByteArray) (k : Nat) (h : k < s.size) : s.data.toList.drop k = s[k] :: s.data.toList.drop (k + 1) := by
  rw [List.drop_eq_getElem_cons (by simpa using h)]; simp; rfl
theorem cmpFrom_same {s t : ByteArray} {k : Nat} (h1 : k < s.size) (h2 : k < t.size) (h : s[k] = t[k]) : cmpFrom s t k = cmpFrom s t (k + 1) := by
  unfold cmpFrom
  rw [drop_byte s k h1, drop_byte t k h2, h, Lib.compareBytes, if_neg (by simp), if_neg (by simp)]
theorem cmpFrom_lt {s t : ByteArray} {k : Nat} (h1 : k < s.size) (h2 : k < t.size) (h : s[k] < t[k]) : cmpFrom s t k = -1 := by
  unfold cmpFrom
  rw [drop_byte s k h1, drop_byte t k h2, Lib.compareBytes, if_pos h]
theorem cmpFrom_gt {s t : ByteArray} {k : Nat} (h1 : k < s.size) (h2 : k < t.size) (h : t[k] < s[k]) : cmpFrom s t k = 1 := by
  unfold cmpFrom
  have hn : ¬ s[k] < t[k] := by
    intro h'
    have a := UInt8.lt_iff_toNat_lt.1 h
    have b := UInt8.lt_iff_toNat_lt.1 h'
    omega
  rw [drop_byte s k h1, drop_byte t k h2, Lib.compareBytes, if_neg hn, if_pos h]
theorem cmpFrom_end {s t : ByteArray} (h : s.size = t.size) : cmpFrom s t s.size = 0 := by
  unfold cmpFrom
  rw [List.drop_of_length_le (by simp), List.drop_of_length_le (by simp [h])]
  rfl
/-- The order of two numerals. -/
def ordI (s t : ByteArray) : Int := if numOk s && numOk t then (if s.size = t.size then cmpFrom s t 0 else if s.size < t.size then -1 else 1) else -2
theorem ord_no1 {s t : ByteArray} (h : numOk s = false) : -2 = ordI s t := by simp [ordI, h]
theorem ord_no2 {s t : ByteArray} (h : numOk t = false) : -2 = ordI s t := by simp [ordI, h]
theorem ord_lt {s t : ByteArray} (h1 : numOk s = true) (h2 : numOk t = true) (h : s.size < t.size) : -1 = ordI s t := by
  simp [ordI, h1, h2, h]; omega
theorem ord_gt {s t : ByteArray} (h1 : numOk s = true) (h2 : numOk t = true) (h : t.size < s.size) : 1 = ordI s t := by
  unfold ordI; rw [h1, h2]; simp only [Bool.and_self, if_true]
  rw [if_neg (by omega), if_neg (by omega)]
theorem ord_eq {s t : ByteArray} (h1 : numOk s = true) (h2 : numOk t = true) (h : s.size = t.size) : cmpFrom s t 0 = ordI s t := by simp [ordI, h1, h2, h]

/-- An exercise: three texts. -/
abbrev Tst := ByteArray × ByteArray × ByteArray
def testF (x : Tst) : List Value := [.string x.1, .string x.2.1, .string x.2.2]
theorem testF_len (x : Tst) : (testF x).length = 3 := rfl
def testV (x : Tst) : Value := .agg #[.string x.1, .string x.2.1, .string x.2.2]
def tests (xs : List Tst) : List Value := rows testF xs
theorem tests_length (xs : List Tst) : (tests xs).length = xs.length * 3 := rows_length testF 3 testF_len xs
def noTest : Tst := (ByteArray.empty, ByteArray.empty, ByteArray.empty)
instance : Inhabited Tst := ⟨noTest⟩
theorem Sl.test {w : World} {a : Option Addr} {xs : List Tst} (h : Sl w a (tests xs)) (k : Nat) (hk : k < xs.length) :
    ∃ b off, a = some ⟨b, off, none⟩ ∧ w.cell? ⟨b, off + k * 3, none⟩ = some (.string (xs.getD k noTest).1) ∧ w.cell? ⟨b, off + (k * 3 + 1), none⟩ = some (.string (xs.getD k noTest).2.1) ∧ w.cell? ⟨b, off + (k * 3 + 2), none⟩ = some (.string (xs.getD k noTest).2.2) ∧
      w.cell? ⟨b, off + k * 3 + 1, none⟩ = some (.string (xs.getD k noTest).2.1) ∧ w.cell? ⟨b, off + k * 3 + 2, none⟩ = some (.string (xs.getD k noTest).2.2) := by
  obtain ⟨b, off, ha, hc⟩ := h.row 3 testF_len (by omega) k hk
  have hg : xs.getD k noTest = xs[k] := by simp [List.getD_eq_getElem?_getD, hk]
  have h0 := hc 0 (by omega)
  have h1 := hc 1 (by omega)
  have h2 := hc 2 (by omega)
  rw [Nat.add_zero] at h0
  rw [hg]
  exact ⟨b, off, ha, h0, h1, h2, by rw [Nat.add_assoc]; exact h1, by rw [Nat.add_assoc]; exact h2⟩
/-- No text is long. -/
def small (x : Tst) : Prop := x.1.size ≤ 1048576 ∧ x.2.1.size ≤ 1048576 ∧ x.2.2.size ≤ 1048576
def Small (xs : List Tst) : Prop := ∀ x ∈ xs, small x
theorem Small.at {xs : List Tst} (h : Small xs) (k : Nat) : small (xs.getD k noTest) := by
  by_cases hk : k < xs.length
  · have : xs.getD k noTest = xs[k] := by simp [List.getD_eq_getElem?_getD, hk]
    rw [this]; exact h _ (List.getElem_mem hk)
  · have : xs.getD k noTest = noTest := by simp [List.getD_eq_getElem?_getD, hk]
    rw [this]; simp [small, noTest]
def testOk (x : Tst) : Bool := decide (0 ≤ ordI x.1 x.2.1)
def testsOkB (xs : List Tst) : Bool := xs.all testOk && decide (xs.length ≤ 6)
def ansOk (x : Tst) : Bool := numOk x.2.2
def boardOkB (xs : List Tst) : Bool := testsOkB xs && xs.all ansOk
end Go.Proofs.YtdngnmpmaacapaaGreatDoor
