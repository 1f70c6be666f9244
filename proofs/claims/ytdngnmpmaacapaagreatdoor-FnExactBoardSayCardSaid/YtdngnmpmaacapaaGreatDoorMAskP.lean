/-
  Merged: AskP.
-/
import Derived.Test.YtdngnmpmaacapaaGreatDoorMWroteS
import Derived.Test.YtdngnmpmaacapaaGreatDoorMValP
import Derived.Test.YtdngnmpmaacapaaGreatDoorMApartP
import Derived.Test.YtdngnmpmaacapaaGreatDoorMTell
import Derived.Test.YtdngnmpmaacapaaGreatDoorMLineD
set_option linter.unusedVariables false
set_option linter.unusedSimpArgs false
/-
  Plain notions: the answers of a board. No program is named here.
-/
namespace Go.Proofs.YtdngnmpmaacapaaGreatDoor
open Go.RowKit

/-- The first k rows of multiplying. -/
def rowsTo (s t : ByteArray) : Nat → Option (List ByteArray)
  | 0 => some []
  | k + 1 => match rowsTo s t k with
    | none => none
    | some l => if (rowI s (digI t k)).2 && (movI (rowI s (digI t k)).1 k).2 then some (l ++ [(movI (rowI s (digI t k)).1 k).1]) else none
theorem rowsTo_none {s t : ByteArray} {k : Nat} (h : rowsTo s t k = none) : ∀ n, k ≤ n → rowsTo s t n = none := by
  intro n hn
  obtain ⟨d, rfl⟩ : ∃ d, n = k + d := ⟨n - k, by omega⟩
  clear hn
  induction d with
  | zero => exact h
  | succ d ih => show rowsTo s t (k + d + 1) = none; simp only [rowsTo, ih]
theorem rowsTo_stop {s t : ByteArray} {k : Nat} {l : List ByteArray} (h : rowsTo s t k = some l) (hb : ((rowI s (digI t k)).2 && (movI (rowI s (digI t k)).1 k).2) = false) (n : Nat) (hn : k < n) : rowsTo s t n = none := by
  refine rowsTo_none (k := k + 1) ?_ n hn
  simp only [rowsTo, h, hb]; rfl
theorem rowsTo_step {s t : ByteArray} {k : Nat} {l : List ByteArray} (h : rowsTo s t k = some l) (hb : ((rowI s (digI t k)).2 && (movI (rowI s (digI t k)).1 k).2) = true) : rowsTo s t (k + 1) = some (l ++ [(movI (rowI s (digI t k)).1 k).1]) := by
  simp only [rowsTo, h, hb]; rfl
theorem rowsTo_len {s t : ByteArray} : ∀ {k : Nat} {l : List ByteArray}, rowsTo s t k = some l → l.length = k
  | 0, l, h => by simp [rowsTo] at h; subst h; rfl
  | k + 1, l, h => by
    cases hq : rowsTo s t k with
    | none => simp [rowsTo, hq] at h
    | some l0 =>
      have ih := rowsTo_len hq
      cases hb : ((rowI s (digI t k)).2 && (movI (rowI s (digI t k)).1 k).2)
      · rw [rowsTo_stop hq hb (k + 1) (by omega)] at h; cases h
      · rw [rowsTo_step hq hb] at h
        cases h
        simp [ih]
theorem movI_size (s : ByteArray) (p : Nat) : (movI s p).1.size ≤ 9 := by
  unfold movI
  split
  · next h =>
    split
    · exact (num_len h).2
    · split
      · rw [ByteArray.size_append]; unfold zerosB; rw [mkL_size, List.length_replicate]; omega
      · show (0 : Nat) ≤ 9; omega
  · show (0 : Nat) ≤ 9; omega
theorem rowsTo_size {s t : ByteArray} : ∀ {k : Nat} {l : List ByteArray}, rowsTo s t k = some l → ∀ x ∈ l, x.size ≤ 9
  | 0, l, h => by simp [rowsTo] at h; subst h; simp
  | k + 1, l, h => by
    cases hq : rowsTo s t k with
    | none => simp [rowsTo, hq] at h
    | some l0 =>
      have ih := rowsTo_size hq
      cases hb : ((rowI s (digI t k)).2 && (movI (rowI s (digI t k)).1 k).2)
      · rw [rowsTo_stop hq hb (k + 1) (by omega)] at h; cases h
      · rw [rowsTo_step hq hb] at h
        cases h
        intro x hx
        rw [List.mem_append, List.mem_singleton] at hx
        rcases hx with hx | rfl
        · exact ih x hx
        · exact movI_size _ _
/-- The rows of multiplying. -/
def rowsI (s t : ByteArray) : Option (List ByteArray) := if numOk s && numOk t then rowsTo s t t.size else none
/-- The product of two numerals. -/
def prodI (s t : ByteArray) : ByteArray × Bool := match rowsI s t with
  | some l => totI l
  | none => (⟨#[]⟩, false)
theorem rowI_size (s : ByteArray) (d : Int) : (rowI s d).1.size ≤ 9 := by
  unfold rowI
  dsimp only
  unfold plainT
  split
  · next h =>
    simp only [plainOk, Bool.and_eq_true] at h
    exact (num_len h.2).2
  · show (0 : Nat) ≤ 9; omega

/-- The score of exercises. -/
def rightI (x : Tst) : Bool := decide (tbI x.1 x.2.1 0 = x.2.2)
def scoreTo (xs : List Tst) (k : Nat) : Nat := ((xs.take k).filter rightI).length
def scoreN (xs : List Tst) : Nat := (xs.filter rightI).length
theorem scoreTo_le (xs : List Tst) (k : Nat) : scoreTo xs k ≤ k := by
  unfold scoreTo
  exact Nat.le_trans (List.length_filter_le _ _) (by rw [List.length_take]; omega)
theorem scoreTo_yes {xs : List Tst} {k : Nat} (hk : k < xs.length) (h : rightI (xs.getD k noTest) = true) : scoreTo xs (k + 1) = scoreTo xs k + 1 := by
  have e : xs.getD k noTest = xs[k] := by simp [List.getD_eq_getElem?_getD, hk]
  rw [e] at h
  unfold scoreTo; rw [List.take_succ_eq_append_getElem hk, List.filter_append, List.length_append]; simp [h]
theorem scoreTo_no {xs : List Tst} {k : Nat} (hk : k < xs.length) (h : rightI (xs.getD k noTest) = false) : scoreTo xs (k + 1) = scoreTo xs k := by
  have e : xs.getD k noTest = xs[k] := by simp [List.getD_eq_getElem?_getD, hk]
  rw [e] at h
  unfold scoreTo; rw [List.take_succ_eq_append_getElem hk, List.filter_append, List.length_append]; simp [h]
theorem scoreTo_end (xs : List Tst) : scoreTo xs xs.length = scoreN xs := by unfold scoreTo scoreN; rw [List.take_length]
theorem scoreN_le (xs : List Tst) : scoreN xs ≤ xs.length := List.length_filter_le _ _
/-- The mark of a score. -/
def markI (r n : Int) : Int := if inB n 1 99 && inB r 0 n then (200 * r + n) / (2 * n) else -1
theorem markI_bd (r n : Int) : -1 ≤ markI r n ∧ markI r n ≤ 100 := by
  unfold markI
  split
  · next h =>
    simp only [Bool.and_eq_true, inB_true] at h
    have h1 : 0 ≤ (200 * r + n) / (2 * n) := Int.ediv_nonneg (by omega) (by omega)
    have h2 : (200 * r + n) / (2 * n) < 101 := Int.ediv_lt_of_lt_mul (by omega) (by omega)
    omega
  · omega
/-- A number in decimal, or none. -/
def toldS (n : Int) : ByteArray := if n < 0 then noneS else decS n.toNat
/-- Numbers with commas between them, or none. -/
def rowTextI (ys : List Int) : ByteArray := if ys = [] then noneS else joinS (ys.map fun y => decS y.toNat) [44]
def scoreS : ByteArray := ⟨#[115, 99, 111, 114, 101]⟩
def markS' : ByteArray := ⟨#[109, 97, 114, 107]⟩
def waysS : ByteArray := ⟨#[119, 97, 121, 115]⟩
def simpleS : ByteArray := ⟨#[115, 105, 109, 112, 108, 101, 115, 116]⟩
def apartS : ByteArray := ⟨#[97, 112, 97, 114, 116]⟩
def manyS : ByteArray := ⟨#[109, 97, 110, 121]⟩
def sumW : ByteArray := ⟨#[115, 117, 109]⟩
def leftW : ByteArray := ⟨#[108, 101, 102, 116]⟩
def productW : ByteArray := ⟨#[112, 114, 111, 100, 117, 99, 116]⟩
def divideW : ByteArray := ⟨#[100, 105, 118, 105, 100, 101]⟩
def nineW : ByteArray := ⟨#[110, 105, 110, 101]⟩
def elevenW : ByteArray := ⟨#[101, 108, 101, 118, 101, 110]⟩
def whatS : ByteArray := ⟨#[119, 104, 97, 116]⟩
/-- A question of one word, if it is one. -/
def askI (xs : List Tst) (s : ByteArray) : Option ByteArray :=
  if s = scoreS then some (decS (scoreN xs))
  else if s = markS' then some (toldS (markI (scoreN xs) xs.length))
  else if s = waysS then some (rowTextI (waysI xs 16))
  else if s = simpleS then some (toldS (simI xs))
  else if s = apartS then some (decS (apartTo xs 16))
  else if s = manyS then some (decS xs.length)
  else none
/-- A quotient and what is left, as an answer. -/
def quoS (s : ByteArray) (d : Int) : ByteArray := orS ((quoI s d).1 ++ ⟨#[32]⟩ ++ decS (quoI s d).2.1.toNat) (quoI s d).2.2
def reckI (ws : List ByteArray) : ByteArray :=
  if ws.getD 0 noS = sumW ∧ ws.length = 3 then orS (sumI (ws.getD 1 noS) (ws.getD 2 noS)).1 (sumI (ws.getD 1 noS) (ws.getD 2 noS)).2
  else if ws.getD 0 noS = leftW ∧ ws.length = 3 then orS (difI (ws.getD 1 noS) (ws.getD 2 noS)).1 (difI (ws.getD 1 noS) (ws.getD 2 noS)).2
  else if ws.getD 0 noS = productW ∧ ws.length = 3 then orS (prodI (ws.getD 1 noS) (ws.getD 2 noS)).1 (prodI (ws.getD 1 noS) (ws.getD 2 noS)).2
  else if ws.getD 0 noS = divideW ∧ ws.length = 3 then quoS (ws.getD 1 noS) (valI (ws.getD 2 noS))
  else if ws.getD 0 noS = nineW ∧ ws.length = 2 then toldS (nineI (ws.getD 1 noS))
  else if ws.getD 0 noS = elevenW ∧ ws.length = 2 then toldS (elevI (ws.getD 1 noS))
  else whatS
/-- What a line of no deed is answered. -/
def sayI (xs : List Tst) (s : ByteArray) : ByteArray := match askI xs s with
  | some t => t
  | none => reckI (wordsB s)
/-- A board after a line, and the answer. -/
def lineI (xs : List Tst) (s : ByteArray) : List Tst × ByteArray :=
  if (readD s).2 then ((doI xs (readD s).1).1, okS (doI xs (readD s).1).2) else (xs, sayI xs s)
def boardLineI (xs : List Tst) (s : ByteArray) : List Tst × ByteArray := if boardOkB xs then lineI xs s else ([], ⟨#[]⟩)
/-- A board after the first k lines, and the answers. -/
def sayTo (xs : List Tst) (ls : List ByteArray) : Nat → List Tst × List ByteArray
  | 0 => (xs, [])
  | k + 1 => ((lineI (sayTo xs ls k).1 (ls.getD k noS)).1, (sayTo xs ls k).2 ++ [(lineI (sayTo xs ls k).1 (ls.getD k noS)).2])
def sayOk (xs : List Tst) (ls : List ByteArray) : Bool := boardOkB xs && decide (ls.length ≤ 40)
def boardSayI (xs : List Tst) (ls : List ByteArray) : List Tst × List ByteArray := if sayOk xs ls then sayTo xs ls ls.length else ([], [])
theorem line_ok {xs : List Tst} (h : boardOkB xs = true) (s : ByteArray) : boardOkB (lineI xs s).1 = true := by
  unfold lineI; split
  · exact do_ok h _
  · exact h
theorem sayTo_ok {xs : List Tst} (h : boardOkB xs = true) (ls : List ByteArray) : ∀ k, boardOkB (sayTo xs ls k).1 = true
  | 0 => h
  | k + 1 => line_ok (sayTo_ok h ls k) _
theorem sayTo_len (xs : List Tst) (ls : List ByteArray) : ∀ k, (sayTo xs ls k).2.length = k
  | 0 => rfl
  | k + 1 => by simp [sayTo, sayTo_len xs ls k]
end Go.Proofs.YtdngnmpmaacapaaGreatDoor
