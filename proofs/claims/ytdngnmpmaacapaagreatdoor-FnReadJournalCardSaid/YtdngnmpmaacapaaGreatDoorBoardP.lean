/-
  Plain notions: deeds, and what they do on boards. No program is named here.
-/
import Derived.Test.YtdngnmpmaacapaaGreatDoorOrdP
namespace Go.Proofs.YtdngnmpmaacapaaGreatDoor
open Go.RowKit

/-- A deed: whether it takes back, and an exercise. -/
abbrev Dd := Bool × Tst
def deedF (x : Dd) : List Value := [.bool x.1, .string x.2.1, .string x.2.2.1, .string x.2.2.2]
theorem deedF_len (x : Dd) : (deedF x).length = 4 := rfl
def deeds (xs : List Dd) : List Value := rows deedF xs
theorem deeds_length (xs : List Dd) : (deeds xs).length = xs.length * 4 := rows_length deedF 4 deedF_len xs
def noDeed : Dd := (false, noTest)
theorem Sl.deed {w : World} {a : Option Addr} {xs : List Dd} (h : Sl w a (deeds xs)) (k : Nat) (hk : k < xs.length) :
    ∃ b off, a = some ⟨b, off, none⟩ ∧ w.cell? ⟨b, off + k * 4, none⟩ = some (.bool (xs.getD k noDeed).1) ∧
      (w.cell? ⟨b, off + (k * 4 + 1), none⟩ = some (.string (xs.getD k noDeed).2.1) ∧ w.cell? ⟨b, off + (k * 4 + 2), none⟩ = some (.string (xs.getD k noDeed).2.2.1) ∧ w.cell? ⟨b, off + (k * 4 + 3), none⟩ = some (.string (xs.getD k noDeed).2.2.2)) ∧
      w.cell? ⟨b, off + k * 4 + 1, none⟩ = some (.string (xs.getD k noDeed).2.1) ∧ w.cell? ⟨b, off + k * 4 + 2, none⟩ = some (.string (xs.getD k noDeed).2.2.1) ∧ w.cell? ⟨b, off + k * 4 + 3, none⟩ = some (.string (xs.getD k noDeed).2.2.2) := by
  obtain ⟨b, off, ha, hc⟩ := h.row 4 deedF_len (by omega) k hk
  have hg : xs.getD k noDeed = xs[k] := by simp [List.getD_eq_getElem?_getD, hk]
  have h0 := hc 0 (by omega)
  have h1 := hc 1 (by omega)
  have h2 := hc 2 (by omega)
  have h3 := hc 3 (by omega)
  rw [Nat.add_zero] at h0
  rw [hg]
  exact ⟨b, off, ha, h0, ⟨h1, h2, h3⟩, by rw [Nat.add_assoc]; exact h1, by rw [Nat.add_assoc]; exact h2, by rw [Nat.add_assoc]; exact h3⟩
def SmallD (xs : List Dd) : Prop := ∀ x ∈ xs, small x.2
theorem SmallD.at {xs : List Dd} (h : SmallD xs) (k : Nat) : small (xs.getD k noDeed).2 := by
  by_cases hk : k < xs.length
  · have : xs.getD k noDeed = xs[k] := by simp [List.getD_eq_getElem?_getD, hk]
    rw [this]; exact h _ (List.getElem_mem hk)
  · have : xs.getD k noDeed = noDeed := by simp [List.getD_eq_getElem?_getD, hk]
    rw [this]; simp [small, noDeed, noTest]

/-- Texts as they come in. -/
def big (x : Tst) : Prop := x.1.size ≤ 9223372036854775807 ∧ x.2.1.size ≤ 9223372036854775807 ∧ x.2.2.size ≤ 9223372036854775807
def Big (xs : List Tst) : Prop := ∀ x ∈ xs, big x
theorem Big.at {xs : List Tst} (h : Big xs) (k : Nat) : big (xs.getD k noTest) := by
  by_cases hk : k < xs.length
  · have : xs.getD k noTest = xs[k] := by simp [List.getD_eq_getElem?_getD, hk]
    rw [this]; exact h _ (List.getElem_mem hk)
  · have : xs.getD k noTest = noTest := by simp [List.getD_eq_getElem?_getD, hk]
    rw [this]; simp [big, noTest]
def BigD (xs : List Dd) : Prop := ∀ x ∈ xs, big x.2
theorem BigD.at {xs : List Dd} (h : BigD xs) (k : Nat) : big (xs.getD k noDeed).2 := by
  by_cases hk : k < xs.length
  · have : xs.getD k noDeed = xs[k] := by simp [List.getD_eq_getElem?_getD, hk]
    rw [this]; exact h _ (List.getElem_mem hk)
  · have : xs.getD k noDeed = noDeed := by simp [List.getD_eq_getElem?_getD, hk]
    rw [this]; simp [big, noDeed, noTest]
theorem small_nil : Small [] := by intro x hx; simp at hx
theorem small_take {xs : List Tst} (h : Small xs) (n : Nat) : Small (xs.take n) := fun x hx => h x (List.mem_of_mem_take hx)
theorem small_snoc {xs : List Tst} {x : Tst} (h : Small xs) (hx : small x) : Small (xs ++ [x]) := by
  intro y hy
  rcases List.mem_append.1 hy with h1 | h1
  · exact h y h1
  · simp at h1; subst h1; exact hx
theorem small_snoc' {xs : List Tst} {x : Tst} (h : Small xs) (hx : small x) : Small (xs ++ [x]) := small_snoc h hx

/-- What a deed does on a board. -/
def doI (xs : List Tst) (d : Dd) : List Tst × Bool :=
  if d.1 then (if d.2 = noTest ∧ 0 < xs.length then (xs.take (xs.length - 1), true) else (xs, false))
  else if boardOkB (xs ++ [d.2]) then (xs ++ [d.2], true) else (xs, false)
def boardDoI (xs : List Tst) (d : Dd) : List Tst × Bool := if boardOkB xs then doI xs d else ([], false)
theorem board_le {xs : List Tst} (h : boardOkB xs = true) : xs.length ≤ 6 := by
  simp only [boardOkB, testsOkB, Bool.and_eq_true, decide_eq_true_eq] at h; exact h.1.2
theorem board_take {xs : List Tst} (h : boardOkB xs = true) (n : Nat) : boardOkB (xs.take n) = true := by
  simp only [boardOkB, testsOkB, Bool.and_eq_true, decide_eq_true_eq, List.all_eq_true] at *
  refine ⟨⟨fun x hx => h.1.1 x (List.mem_of_mem_take hx), by rw [List.length_take]; omega⟩, fun x hx => h.2 x (List.mem_of_mem_take hx)⟩
theorem board_nil : boardOkB [] = true := rfl
theorem do_ok {xs : List Tst} (h : boardOkB xs = true) (d : Dd) : boardOkB (doI xs d).1 = true := by
  unfold doI
  split
  · split
    · exact board_take h _
    · exact h
  · split
    · next h2 => exact h2
    · exact h
theorem do_small {xs : List Tst} (h : Small xs) {d : Dd} (hd : small d.2) : Small (doI xs d).1 := by
  unfold doI
  split
  · split
    · exact small_take h _
    · exact h
  · split
    · exact small_snoc h hd
    · exact h
theorem do_len {xs : List Tst} (d : Dd) : (doI xs d).1.length ≤ xs.length + 1 := by
  unfold doI
  split
  · split
    · simp; omega
    · simp
  · split <;> simp
theorem do_no {xs : List Tst} {d : Dd} (h : (doI xs d).2 = false) : (doI xs d).1 = xs := by
  unfold doI at *
  split
  · next h1 => rw [if_pos h1] at h; split
               · next h2 => rw [if_pos h2] at h; simp at h
               · rfl
  · next h1 => rw [if_neg h1] at h; split
               · next h2 => rw [if_pos h2] at h; simp at h
               · rfl
/-- A board after the first k deeds, and how many were done. -/
def runTo (xs : List Tst) (ds : List Dd) : Nat → List Tst × Nat
  | 0 => (xs, 0)
  | k + 1 => ((doI (runTo xs ds k).1 (ds.getD k noDeed)).1, (runTo xs ds k).2 + if (doI (runTo xs ds k).1 (ds.getD k noDeed)).2 then 1 else 0)
theorem runTo_ok {xs : List Tst} {ds : List Dd} (h : boardOkB xs = true) (k : Nat) : boardOkB (runTo xs ds k).1 = true := by
  induction k with
  | zero => exact h
  | succ k ih => exact do_ok ih _
theorem runTo_small {xs : List Tst} {ds : List Dd} (h : Small xs) (hd : SmallD ds) (k : Nat) : Small (runTo xs ds k).1 := by
  induction k with
  | zero => exact h
  | succ k ih => exact do_small ih (hd.at k)
theorem runTo_le (xs : List Tst) (ds : List Dd) (k : Nat) : (runTo xs ds k).2 ≤ k := by
  induction k with
  | zero => exact Nat.le_refl _
  | succ k ih => simp only [runTo]; split <;> omega
def runOk (xs : List Tst) (ds : List Dd) : Bool := boardOkB xs && decide (ds.length ≤ 40)
def runC (xs : List Tst) (ds : List Dd) : List Tst := if runOk xs ds then (runTo xs ds ds.length).1 else []
def runN (xs : List Tst) (ds : List Dd) : Int := if runOk xs ds then (runTo xs ds ds.length).2 else 0
end Go.Proofs.YtdngnmpmaacapaaGreatDoor
