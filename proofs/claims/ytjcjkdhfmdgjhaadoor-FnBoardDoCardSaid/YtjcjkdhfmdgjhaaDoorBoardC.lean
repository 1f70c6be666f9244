/-
  Contracts: BoardRun, of the program and of the reference.
-/
import Derived.Test.YtjcjkdhfmdgjhaaDoorBoardB
namespace Go.Proofs.YtjcjkdhfmdgjhaaDoor
open Go.RowKit

theorem runTo_len {xs : List Tst} {ds : List Dd} (h : boardOkB xs = true) (k : Nat) : (runTo xs ds k).1.length ≤ 6 := board_le (runTo_ok h k)
theorem runC_le {xs : List Tst} {ds : List Dd} (h : xs.length ≤ 1048576) (_h2 : ds.length ≤ 1048576) : (runC xs ds).length ≤ 1048576 := by
  unfold runC
  split
  · next h1 => simp only [runOk, Bool.and_eq_true] at h1; have := runTo_len (ds := ds) h1.1 ds.length; omega
  · simp
theorem runC_no {xs : List Tst} {ds : List Dd} (h : runOk xs ds = false) : [] = runC xs ds := by simp [runC, h]
theorem runN_no {xs : List Tst} {ds : List Dd} (h : runOk xs ds = false) : 0 = runN xs ds := by simp [runN, h]
theorem runC_yes {xs : List Tst} {ds : List Dd} (h : runOk xs ds = true) : (runTo xs ds ds.length).1 = runC xs ds := by simp [runC, h]
theorem runN_yes {xs : List Tst} {ds : List Dd} (h : runOk xs ds = true) : ((runTo xs ds ds.length).2 : Int) = runN xs ds := by simp [runN, h]
/-- A new slice of exercises, and a number. -/
def NewTI (ys : List Tst) (n : Int) (w : World) (e : Ending) (w' : World) : Prop :=
  ∃ a cap, e = .returned (.tuple #[.slice a ys.length cap, .int .i64 n]) ∧ Own w' w.heap.size 25 3 (.slice a ys.length cap) ys.length (tests ys) ∧ Fr w.heap.size none w w'
theorem newTI_nil {ys : List Tst} {n : Int} {w w' : World} {a : Option Addr} (h : [] = ys) (hn : 0 = n) (ho : Own w' w.heap.size 25 3 (.slice a 0 0) 0 (tests [])) (hF : Fr w.heap.size none w w') : NewTI ys n w (.returned (.tuple #[.slice a 0 0, .int .i64 0])) w' := by
  subst h; subst hn; exact ⟨a, 0, rfl, ho, hF⟩
theorem newTI_of {xs ys : List Tst} {m n : Int} {w w' : World} {a : Option Addr} {cap : Nat} (h : xs = ys) (hn : m = n) (ho : Own w' w.heap.size 25 3 (.slice a xs.length cap) xs.length (tests xs)) (hF : Fr w.heap.size none w w') : NewTI ys n w (.returned (.tuple #[.slice a xs.length cap, .int .i64 m])) w' := by
  subst h; subst hn; exact ⟨a, cap, rfl, ho, hF⟩
theorem own_lecap {w : World} {B n cap : Nat} {E : TypeId} {z : Nat} {a : Option Addr} {cs : List Value} (h : Own w B E z (.slice a n cap) n cs) : n ≤ cap := by
  obtain ⟨a', c', e, h1, _⟩ := h.slice
  cases e; exact h1
theorem run_step {xs : List Tst} {ds : List Dd} {k : Nat} {d : Dd} (h : ds.getD k noDeed = d) : (doI (runTo xs ds k).1 d).1 = (runTo xs ds (k + 1)).1 := by rw [← h]; rfl
theorem run_stepN {xs : List Tst} {ds : List Dd} {k : Nat} {d : Dd} (h : ds.getD k noDeed = d) (h2 : (doI (runTo xs ds k).1 d).2 = true) : (runTo xs ds k).2 + 1 = (runTo xs ds (k + 1)).2 := by
  rw [← h] at h2; simp only [runTo]; rw [h2]; rfl
theorem run_stepZ {xs : List Tst} {ds : List Dd} {k : Nat} {d : Dd} (h : ds.getD k noDeed = d) (h2 : (doI (runTo xs ds k).1 d).2 = false) : (runTo xs ds k).2 = (runTo xs ds (k + 1)).2 := by
  rw [← h] at h2; simp only [runTo]; rw [h2]; rfl

end Go.Proofs.YtjcjkdhfmdgjhaaDoor
