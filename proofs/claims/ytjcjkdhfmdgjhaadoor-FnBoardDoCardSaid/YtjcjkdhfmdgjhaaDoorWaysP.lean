/-
  Plain laws: taking away by a way, and the ways that explain exercises. No program is named here.
-/
import Derived.Test.YtjcjkdhfmdgjhaaDoorBoardP
namespace Go.Proofs.YtjcjkdhfmdgjhaaDoor
open Go.RowKit

def mkL (l : List UInt8) : ByteArray := ⟨l.toArray⟩
theorem mkL_size (l : List UInt8) : (mkL l).size = l.length := by show l.toArray.size = _; simp
theorem mkL_data (x : ByteArray) : mkL x.data.toList = x := by cases x; simp [mkL]
/-- The byte of a digit. -/
def digC (d : Int) : UInt8 := UInt8.ofNat (48 + d.toNat)
def trimZ (l : List UInt8) : List UInt8 := l.dropWhile (· == 48)
/-- Digits without noughts ahead, as a text. -/
def plainS (ds : List Int) : ByteArray := if trimZ (ds.map digC) = [] then ⟨#[48]⟩ else mkL (trimZ (ds.map digC))
def plainOk (ds : List Int) : Bool := decide (ds ≠ []) && numOk (plainS ds)
def plainT (ds : List Int) : ByteArray := if plainOk ds then plainS ds else ⟨#[]⟩
/-- The digit of a numeral at a place. -/
def digI (s : ByteArray) (k : Nat) : Int := if k < s.size then ((s.data.toList.getD (s.size - 1 - k) 48).toNat : Int) - 48 else 0
/-- What is written at a place, and what is borrowed. -/
def wrD (a c b m1 m2 m4 m8 : Int) (inT : Bool) : Int × Int :=
  if m4 ≠ 0 ∧ a = 0 ∧ c ≠ 0 then (c, 0)
  else if m8 ≠ 0 ∧ c = 0 ∧ inT = true then (0, 0)
  else if m1 ≠ 0 then (max (a - c) (c - a), 0)
  else if (if m2 = 0 then a - c - b else a - c) < 0 then ((if m2 = 0 then a - c - b else a - c) + 10, 1)
  else ((if m2 = 0 then a - c - b else a - c), 0)
theorem wrD_bd {a c b m1 m2 m4 m8 : Int} {inT : Bool} (ha : 0 ≤ a ∧ a ≤ 9) (hc : 0 ≤ c ∧ c ≤ 9) (hb : 0 ≤ b ∧ b ≤ 1) : (0 ≤ (wrD a c b m1 m2 m4 m8 inT).1 ∧ (wrD a c b m1 m2 m4 m8 inT).1 ≤ 9) ∧ 0 ≤ (wrD a c b m1 m2 m4 m8 inT).2 ∧ (wrD a c b m1 m2 m4 m8 inT).2 ≤ 1 := by
  unfold wrD
  split
  · exact ⟨hc, by simp⟩
  · split
    · simp
    · split
      · simp only; omega
      · split <;> split <;> simp only <;> omega
/-- The digits written at the first k places, and what is borrowed there. -/
def tkI (s t : ByteArray) (m1 m2 m4 m8 : Int) : Nat → List Int × Int
  | 0 => ([], 0)
  | k + 1 => ((tkI s t m1 m2 m4 m8 k).1 ++ [(wrD (digI s k) (digI t k) (tkI s t m1 m2 m4 m8 k).2 m1 m2 m4 m8 (decide (k < t.size))).1], (wrD (digI s k) (digI t k) (tkI s t m1 m2 m4 m8 k).2 m1 m2 m4 m8 (decide (k < t.size))).2)
theorem numOk_digits {s : ByteArray} (h : numOk s = true) (b : UInt8) (hb : b ∈ s.data.toList) : 48 ≤ (b.toNat : Int) ∧ (b.toNat : Int) ≤ 57 := by
  simp only [numOk, Bool.and_eq_true, List.all_eq_true] at h
  have := h.1 b hb
  simpa [isDig] using this
theorem digI_bd {s : ByteArray} (h : numOk s = true) (k : Nat) : 0 ≤ digI s k ∧ digI s k ≤ 9 := by
  unfold digI
  split
  · next hk =>
    have hi : s.size - 1 - k < s.data.toList.length := by have : s.data.toList.length = s.size := by simp
                                                          omega
    have hm : s.data.toList.getD (s.size - 1 - k) 48 = s.data.toList[s.size - 1 - k] := by rw [List.getD_eq_getElem?_getD, List.getElem?_eq_getElem hi]; rfl
    rw [hm]
    have := numOk_digits h _ (List.getElem_mem hi)
    omega
  · omega
theorem tkI_bd {s t : ByteArray} (hs : numOk s = true) (ht : numOk t = true) (m1 m2 m4 m8 : Int) (k : Nat) : (∀ d ∈ (tkI s t m1 m2 m4 m8 k).1, 0 ≤ d ∧ d ≤ 9) ∧ (0 ≤ (tkI s t m1 m2 m4 m8 k).2 ∧ (tkI s t m1 m2 m4 m8 k).2 ≤ 1) ∧ (tkI s t m1 m2 m4 m8 k).1.length = k := by
  induction k with
  | zero => simp [tkI]
  | succ k ih =>
    obtain ⟨h1, h2, h3⟩ := ih
    have hw := wrD_bd (m1 := m1) (m2 := m2) (m4 := m4) (m8 := m8) (inT := decide (k < t.size)) (digI_bd hs k) (digI_bd ht k) h2
    refine ⟨?_, hw.2, ?_⟩
    · intro d hd
      simp only [tkI, List.mem_append, List.mem_singleton] at hd
      rcases hd with hd | rfl
      · exact h1 d hd
      · exact hw.1
    · simp only [tkI, List.length_append, h3]; rfl
/-- One numeral taken away from another one by a way. -/
def tbI (s t : ByteArray) (way : Int) : ByteArray :=
  plainT (tkI s t (bits .and .i64 way 1) (bits .and .i64 way 2) (bits .and .i64 way 4) (bits .and .i64 way 8) s.size).1.reverse
/-- A way explains exercises. -/
def expOne (way : Int) (x : Tst) : Bool := decide (tbI x.1 x.2.1 way = x.2.2)
def expI (xs : List Tst) (way : Int) : Bool := testsOkB xs && xs.all (expOne way)
/-- The ways below k that explain exercises. -/
def waysI (xs : List Tst) (k : Nat) : List Int := ((List.range k).filter fun w : Nat => expI xs (w : Int)).map fun w : Nat => (w : Int)
theorem waysI_yes {xs : List Tst} {k : Nat} (h : expI xs (k : Int) = true) : waysI xs k ++ [(k : Int)] = waysI xs (k + 1) := by
  simp [waysI, List.range_succ, List.filter_append, h]
theorem waysI_no {xs : List Tst} {k : Nat} (h : expI xs (k : Int) = false) : waysI xs k = waysI xs (k + 1) := by
  simp [waysI, List.range_succ, List.filter_append, h]
theorem waysI_len (xs : List Tst) (k : Nat) : (waysI xs k).length ≤ k := by
  unfold waysI; rw [List.length_map]
  exact Nat.le_trans (List.length_filter_le _ _) (by simp)
theorem expI_less {xs : List Tst} {x : Tst} {way : Int} (h : expI (xs ++ [x]) way = true) : expI xs way = true := by
  simp only [expI, testsOkB, Bool.and_eq_true, decide_eq_true_eq, List.all_append, List.length_append, List.length_cons, List.length_nil] at h ⊢
  obtain ⟨h1, h3, h4⟩ := h
  refine ⟨?_, h3⟩
  first | exact ⟨by omega, h1.2.1⟩ | exact ⟨h1.1.1, by omega⟩ | (refine ⟨?_, ?_⟩ <;> first | omega | exact h1.1.1 | exact h1.2.1 | exact h1.1 )
/-- With one more exercise no more ways explain. -/
theorem waysI_less (xs : List Tst) (x : Tst) (k : Nat) : (waysI (xs ++ [x]) k).length ≤ (waysI xs k).length := by
  unfold waysI
  rw [List.length_map, List.length_map]
  induction k with
  | zero => simp
  | succ k ih =>
    rw [List.range_succ, List.filter_append, List.filter_append, List.length_append, List.length_append]
    cases h : expI (xs ++ [x]) ((k : Nat) : Int)
    · simp only [List.filter_cons, h, List.filter_nil, Bool.false_eq_true, if_false, List.length_nil]; omega
    · have h2 := expI_less h
      simp only [List.filter_cons, h, h2, List.filter_nil, if_true, List.length_cons, List.length_nil]; omega
end Go.Proofs.YtjcjkdhfmdgjhaaDoor
