/-
  Contracts: wait and WaitOf, DrawWaitOf, DrawDeckNew.
-/
import Derived.Test.YtoedenmimcmkoaaCore
import Derived.Test.YtoedenmimcmkoaaDraw
namespace Go.Proofs.Ytoedenmimcmkoaa
open Go.RowKit

def waitZ (b : Int) : Int := if b = 1 then 1 else if b = 2 then 2 else if b = 3 then 4 else if b = 4 then 8 else 16
def waitOfZ (b : Int) : Int := if inB b 1 5 then waitZ b else -1
theorem five {b : Int} (h : inB b 1 5 = true) : b = 1 ∨ b = 2 ∨ b = 3 ∨ b = 4 ∨ b = 5 := by have := inB_true.1 h; omega

theorem wait_any (b : Int) (w : World) (h : inB b 1 5 = true) : Calls Try.prog 83 #[.int .i64 b] w fun e w' => e = .returned (.int .i64 (waitZ b)) ∧ w = w' := by
  rcases five h with rfl | rfl | rfl | rfl | rfl
  all_goals
    clear h
    go_enter Try.func83, Try.ntmps83
    go_wp2
    go_ret
    exact ⟨rfl, rfl⟩
theorem waitOf_yes {b : Int} (h : inB b 1 5 = true) : waitZ b = waitOfZ b := by simp [waitOfZ, h]
theorem waitOf_no {b : Int} (h : inB b 1 5 = false) : -1 = waitOfZ b := by simp [waitOfZ, h]
theorem specWaitOf_any (b : Int) (w : World) : Calls Try.prog 84 #[.int .i64 b] w fun e w' => e = .returned (.int .i64 (waitOfZ b)) ∧ w = w' := by
  cases h : inB b 1 5
  · have hf := Lib.hid (waitOf_no h); have H := Lib.hid h; clear h
    go_enter Try.func84, Try.ntmps84
    go_wp2_with (go_at_call 65; refine (l1In_val H.out _).mono ?_; rintro e w' ⟨rfl, rfl⟩)
    go_ret
    exact ⟨ret_int hf.out, rfl⟩
  · rcases five h with rfl | rfl | rfl | rfl | rfl
    all_goals
      have H := Lib.hid h; clear h
      go_enter Try.func84, Try.ntmps84
      go_wp2_with (go_at_call 65; refine (l1In_val H.out _).mono ?_; rintro e w' ⟨rfl, rfl⟩)
      go_ret
      exact ⟨rfl, rfl⟩

/-- A number is drawn, in the given bounds. -/
def DrawInt (lo hi : Int) (w : World) (e : Ending) (w' : World) : Prop := ∃ r : Int, e = .returned (.int .i64 r) ∧ lo ≤ r ∧ r ≤ hi ∧ Fr w.heap.size none w w'
end Go.Proofs.Ytoedenmimcmkoaa
