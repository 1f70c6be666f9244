/-
  Contracts of the statements' own helpers on lists of numbers: toIntS, eqIntS, markIntS, heldIntS.
-/
import Derived.Test.YtjcjkdhfmdgjhaaDoorBase
import Derived.Test.YtjcjkdhfmdgjhaaDoorProg
import Derived.KernelRfl
namespace Go.Proofs.YtjcjkdhfmdgjhaaDoor
open Go.RowKit

theorem infoInt : (Tryd.prog.info? 3).map (fun i => (i.zero, i.size, i.bytes)) = some (some (.int .i64 0), 1, 8) := by kernel_rfl

theorem mkInts (f : Nat → Value) (n : Nat) (hn : n ≤ 2097152) (w : World) :
    ∃ w1, (Instr.makeSlice 35 (.int .i64 (n : Int)) (.int .i64 (n : Int))).run Tryd.prog w = .ok (.slice (some ⟨w.heap.size, 0, none⟩) n n) w1 ∧
      w1.ownsRow w.heap.size 3 1 (.slice (some ⟨w.heap.size, 0, none⟩) n n) n (fillV f (.int .i64 0) n 0) ∧ Fr w.heap.size none w w1 := by
  obtain ⟨i0, hi, hz0, hz1, hz2⟩ := info_parts infoInt
  obtain ⟨w1, hr, ho, hg⟩ := run_make_full (P := Tryd.prog) w w.heap.size 35 3 i0 (.int .i64 0) 1 Tryd.underlying35 hi hz0 hz1 .i64 .i64 n (by rw [hz2]; omega) (by simp [maxLen]; omega) (Nat.le_refl _)
  refine ⟨w1, hr, ?_, (Fr.refl _ _ w).grown hg (Nat.le_refl _) (by simp)⟩
  rw [fillV_zero]; have := ho; simp only [Nat.mul_one, Value.cells, toList_madeCells_one] at this; exact this

/-- What marking writes. -/
def markedI (n : Nat) (k : Int) : List Int := (List.range n).map fun j : Nat => k + (j : Int)
theorem markedI_length (n : Nat) (k : Int) : (markedI n k).length = n := by simp [markedI]
theorem markedI_getD (n : Nat) (k : Int) (j : Nat) (h : j < n) : (markedI n k).getD j 0 = k + j := by simp [markedI, List.getD_eq_getElem?_getD, h]

end Go.Proofs.YtjcjkdhfmdgjhaaDoor
