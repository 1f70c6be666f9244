/-
  Plain notions: rows of structs as flat lists of cells; no program is named here.
-/
import Derived.Test.YtdngnmpmaacapaaGreatDoorBase
namespace Go.Proofs.YtdngnmpmaacapaaGreatDoor
open Go.RowKit

section
variable {α : Type}
/-- The cells of a list of structs. -/
def rows (f : α → List Value) (xs : List α) : List Value := xs.flatMap f
theorem rows_nil (f : α → List Value) : rows f [] = [] := rfl
theorem rows_append (f : α → List Value) (xs ys : List α) : rows f (xs ++ ys) = rows f xs ++ rows f ys := by simp [rows]
theorem rows_one (f : α → List Value) (x : α) : rows f [x] = f x := by simp [rows]
theorem rows_length (f : α → List Value) (s : Nat) (hf : ∀ x, (f x).length = s) (xs : List α) : (rows f xs).length = xs.length * s := by
  induction xs with
  | nil => simp [rows]
  | cons x xs ih => simp only [rows, List.flatMap_cons, List.length_append, hf, List.length_cons] at *; rw [ih, Nat.succ_mul]; omega
theorem rows_get (f : α → List Value) (s : Nat) (hf : ∀ x, (f x).length = s) (xs : List α) (k i : Nat) (hk : k < xs.length) (hi : i < s) : (rows f xs)[k * s + i]? = (f xs[k])[i]? := by
  induction xs generalizing k with
  | nil => simp at hk
  | cons x xs ih =>
    simp only [rows, List.flatMap_cons]
    cases k with
    | zero => rw [Nat.zero_mul, Nat.zero_add, List.getElem?_append_left (by rw [hf]; exact hi)]; rfl
    | succ k =>
      have hk' : k < xs.length := by simpa using hk
      rw [List.getElem?_append_right (by rw [hf, Nat.succ_mul]; omega), hf, show (k + 1) * s + i - s = k * s + i by rw [Nat.succ_mul]; omega]
      exact ih k hk'
/-- A field of a struct in a slice. -/
theorem Sl.row {w : World} {a : Option Addr} {f : α → List Value} {xs : List α} (h : Sl w a (rows f xs)) (s : Nat) (hf : ∀ x, (f x).length = s) (hs : 0 < s) (k : Nat) (hk : k < xs.length) :
    ∃ b off, a = some ⟨b, off, none⟩ ∧ ∀ i, i < s → w.cell? ⟨b, off + (k * s + i), none⟩ = (f xs[k])[i]? := by
  have hlen := rows_length f s hf xs
  have hb : ∀ i, i < s → k * s + i < (rows f xs).length := by
    intro i hi
    rw [hlen]
    have : (k + 1) * s ≤ xs.length * s := Nat.mul_le_mul_right _ hk
    rw [Nat.succ_mul] at this; omega
  obtain ⟨b, off, ha, hc⟩ := h (k * s + 0) (hb 0 hs)
  refine ⟨b, off, ha, fun i hi => ?_⟩
  obtain ⟨b2, off2, ha2, hc2⟩ := h (k * s + i) (hb i hi)
  rw [ha] at ha2
  cases ha2
  rw [hc2, ← rows_get f s hf xs k i hk hi, List.getElem?_eq_getElem (hb i hi)]
end

/-- n times the same cells. -/
def zrows (z : List Value) (n : Nat) : List Value := (List.replicate n z).flatten
theorem zrows_zero (z : List Value) : zrows z 0 = [] := rfl
theorem zrows_succ (z : List Value) (n : Nat) : zrows z (n + 1) = z ++ zrows z n := by simp [zrows, List.replicate_succ]
theorem zrows_length (z : List Value) (n : Nat) : (zrows z n).length = n * z.length := by simp [zrows]
theorem zrows_get (z : List Value) (n j : Nat) (hz : 0 < z.length) (hj : j < n * z.length) : (zrows z n)[j]? = z[j % z.length]? := by
  induction n generalizing j with
  | zero => simp at hj
  | succ n ih =>
    rw [zrows_succ]
    by_cases h : j < z.length
    · rw [List.getElem?_append_left h, Nat.mod_eq_of_lt h]
    · have e := Nat.mod_eq_sub_mod (a := j) (b := z.length) (by omega)
      rw [List.getElem?_append_right (by omega), ih _ (by rw [Nat.add_mul, Nat.one_mul] at hj; omega), e]
theorem made_zrows (z : List Value) (n : Nat) (hz : 0 < z.length) : (madeCells z.toArray (n * z.length)).toList = zrows z n := by
  apply List.ext_getElem?
  intro j
  by_cases hj : j < n * z.length
  · rw [zrows_get z n j hz hj]
    have hm : j % z.length < z.length := Nat.mod_lt _ hz
    simp [madeCells, hj, hm]
  · rw [List.getElem?_eq_none (by simp [madeCells]; omega), List.getElem?_eq_none (by rw [zrows_length]; omega)]

theorem set2 (A C : List Value) (x y a b : Value) (n m : Nat) (hn : n = A.length) (hm : m = n + 1) : ((A ++ ([x, y] ++ C)).set n a).set m b = A ++ ([a, b] ++ C) := by
  subst hn; subst hm
  simp [List.set_append_right]
theorem set3 (A C : List Value) (x y z a b c : Value) (n m k : Nat) (hn : n = A.length) (hm : m = n + 1) (hk : k = n + 2) : (((A ++ ([x, y, z] ++ C)).set n a).set m b).set k c = A ++ ([a, b, c] ++ C) := by
  subst hn; subst hm; subst hk
  simp [List.set_append_right]
theorem set4 (A C : List Value) (x y z u a b c d : Value) (n m k l : Nat) (hn : n = A.length) (hm : m = n + 1) (hk : k = n + 2) (hl : l = n + 3) : ((((A ++ ([x, y, z, u] ++ C)).set n a).set m b).set k c).set l d = A ++ ([a, b, c, d] ++ C) := by
  subst hn; subst hm; subst hk; subst hl
  simp [List.set_append_right]
end Go.Proofs.YtdngnmpmaacapaaGreatDoor
