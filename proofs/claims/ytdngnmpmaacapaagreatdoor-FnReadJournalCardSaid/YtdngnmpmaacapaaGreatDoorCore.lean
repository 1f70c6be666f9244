/-
  Contracts of in and l1In.
-/
import Derived.Test.YtdngnmpmaacapaaGreatDoorBase
import Derived.Test.YtdngnmpmaacapaaGreatDoorProg
import Derived.KernelRfl
namespace Go.Proofs.YtdngnmpmaacapaaGreatDoor
open Go.RowKit
theorem in_any (n lo hi : Int) (w : World) : Calls Tryz.prog 97 #[.int .i64 n, .int .i64 lo, .int .i64 hi] w fun e w' => e = .returned (.bool (inB n lo hi)) ∧ w = w' := by
  go_enter Tryz.func97, Tryz.ntmps97
  go_wp2
  all_goals go_ret
  all_goals exact ⟨by unfold inB; simp [*]; try omega, rfl⟩
theorem l1In_any (n lo hi : Int) (w : World) : Calls Tryz.prog 86 #[.int .i64 n, .int .i64 lo, .int .i64 hi] w fun e w' => e = .returned (.bool (inB n lo hi)) ∧ w = w' := by
  go_enter Tryz.func86, Tryz.ntmps86
  go_wp2
  all_goals go_ret
  all_goals exact ⟨by unfold inB; simp [*]; try omega, rfl⟩
theorem in_val {n lo hi : Int} {b : Bool} (h : inB n lo hi = b) (w : World) : Calls Tryz.prog 97 #[.int .i64 n, .int .i64 lo, .int .i64 hi] w fun e w' => e = .returned (.bool b) ∧ w = w' := h ▸ in_any n lo hi w
theorem l1In_val {n lo hi : Int} {b : Bool} (h : inB n lo hi = b) (w : World) : Calls Tryz.prog 86 #[.int .i64 n, .int .i64 lo, .int .i64 hi] w fun e w' => e = .returned (.bool b) ∧ w = w' := h ▸ l1In_any n lo hi w
end Go.Proofs.YtdngnmpmaacapaaGreatDoor
