/-
  Contracts of in and l1In.
-/
import Derived.Test.YtjcjkdhfmdgjhaaDoorBase
import Derived.Test.YtjcjkdhfmdgjhaaDoorProg
import Derived.KernelRfl
namespace Go.Proofs.YtjcjkdhfmdgjhaaDoor
open Go.RowKit
theorem in_any (n lo hi : Int) (w : World) : Calls Tryd.prog 34 #[.int .i64 n, .int .i64 lo, .int .i64 hi] w fun e w' => e = .returned (.bool (inB n lo hi)) ∧ w = w' := by
  go_enter Tryd.func34, Tryd.ntmps34
  go_wp2
  all_goals go_ret
  all_goals exact ⟨by unfold inB; simp [*]; try omega, rfl⟩
theorem l1In_any (n lo hi : Int) (w : World) : Calls Tryd.prog 41 #[.int .i64 n, .int .i64 lo, .int .i64 hi] w fun e w' => e = .returned (.bool (inB n lo hi)) ∧ w = w' := by
  go_enter Tryd.func41, Tryd.ntmps41
  go_wp2
  all_goals go_ret
  all_goals exact ⟨by unfold inB; simp [*]; try omega, rfl⟩
theorem in_val {n lo hi : Int} {b : Bool} (h : inB n lo hi = b) (w : World) : Calls Tryd.prog 34 #[.int .i64 n, .int .i64 lo, .int .i64 hi] w fun e w' => e = .returned (.bool b) ∧ w = w' := h ▸ in_any n lo hi w
theorem l1In_val {n lo hi : Int} {b : Bool} (h : inB n lo hi = b) (w : World) : Calls Tryd.prog 41 #[.int .i64 n, .int .i64 lo, .int .i64 hi] w fun e w' => e = .returned (.bool b) ∧ w = w' := h ▸ l1In_any n lo hi w
end Go.Proofs.YtjcjkdhfmdgjhaaDoor
