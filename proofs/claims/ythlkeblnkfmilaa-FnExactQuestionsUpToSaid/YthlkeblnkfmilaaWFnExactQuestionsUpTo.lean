/-
  For all arguments the law FnExactQuestionsUpTo of the given program returns true, and each argument reads as before. No condition.
-/
import Derived.Test.YthlkeblnkfmilaaDaysC
namespace Go.Proofs.Ythlkeblnkfmilaa.fnExactQuestionsUpTo
open Go.RowKit
set_option maxHeartbeats 2000000 in
theorem walk {w : World} (y0 : Int) (wy0 : (Lit.int .i64 y0).wf = true) (y1 : Int) (wy1 : (Lit.int .i64 y1).wf = true) :
    Calls Try.prog 14 #[.int .i64 y0, .int .i64 y1] w fun e w' => e = .returned (.bool true) ∧ Fr w.heap.size none w w' := by
  clear wy0
  clear wy1
  go_enter Try.func14, Try.ntmps14
  have z0 : w.heap.size ≤ w.heap.size := Nat.le_refl _
  go_wp2_with fail
  refine (specQuest_any y0 y1 _ ).mono ?_; rintro e w1 ⟨rfl, F1⟩
  have z1 := F1.size
  have G1 := Lib.hid ((Fr.refl w.heap.size none w).and F1)
  clear F1
  go_wp2_with fail
  refine (implQuest_any y0 y1 _ ).mono ?_; rintro e w2 ⟨rfl, F2⟩
  have z2 := F2.size
  have G2 := Lib.hid (G1.out.and F2)
  clear F2
  go_wp2
  go_ret
  exact ⟨rfl, G2.out⟩
end Go.Proofs.Ythlkeblnkfmilaa.fnExactQuestionsUpTo
