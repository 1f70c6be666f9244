/-
  Contracts: slices.IndexFunc and slices.ContainsFunc on numbers, MarksOk, BoundsOk, GradeOf, MarkOf.
-/
import Derived.Test.YtoedenmimcmkoaaMarksA
import Derived.Test.YtoedenmimcmkoaaFuncI
namespace Go.Proofs.Ytoedenmimcmkoaa
open Go.RowKit

theorem notMark_any (n : Int) (w : World) : Calls Try.prog 51 #[.int .i64 n] w fun e w' => e = .returned (.bool (!inB n 0 100)) ∧ w = w' := by
  go_enter Try.func51, Try.ntmps51
  go_wp2_with (go_at_call 52; refine (isMark_any _ _).mono ?_; rintro e w' ⟨rfl, rfl⟩)
  go_ret
  exact ⟨rfl, rfl⟩

theorem implMarksOk_any (a : Option Addr) (cap : Nat) (xs : List Int) (w : World) (hs : Sl w a (ints xs)) (hm : xs.length ≤ 1048576) :
    Calls Try.prog 18 #[.slice a xs.length cap] w fun e w' => e = .returned (.bool (marksOkB xs)) ∧ w = w' := by
  have HS := Lib.hid hs; clear hs
  by_cases hl : xs.length ≤ 12
  · have hfin := Lib.hid (show (!xs.any fun n => !inB n 0 100) = marksOkB xs by rw [any_not_all, marksOkB]; simp [hl])
    go_enter Try.func18, Try.ntmps18
    go_wp2_with (go_at_call 50; refine (containsFuncI 51 (fun n => !inB n 0 100) (enters_by Try.func51 (by kernel_rfl) rfl) notMark_any _ _ _ _ HS.out hm).mono ?_; rintro e w' ⟨rfl, rfl⟩)
    go_ret
    exact ⟨ret_bool hfin.out, rfl⟩
  · have hfin := Lib.hid (show false = marksOkB xs by rw [marksOkB]; simp [hl])
    have hlt : (12 : Int) < xs.length := by omega
    go_enter Try.func18, Try.ntmps18
    go_wp2
    go_ret
    exact ⟨ret_bool hfin.out, rfl⟩
end Go.Proofs.Ytoedenmimcmkoaa
