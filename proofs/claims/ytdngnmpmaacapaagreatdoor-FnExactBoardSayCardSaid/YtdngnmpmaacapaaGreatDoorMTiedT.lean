/-
  Merged: TiedT.
-/
import Derived.Test.YtdngnmpmaacapaaGreatDoorMTiedM
import Derived.Test.YtdngnmpmaacapaaGreatDoorMTold
import Derived.Lib.LaidTab
import Derived.LaidSub
import Derived.MakeChecks
set_option linter.unusedVariables false
set_option linter.unusedSimpArgs false
/-
  A tied row whose condition lays the table of powers of ten.
-/
namespace Go.Proofs.YtdngnmpmaacapaaGreatDoor
open Go.ChangeShapes Go.WideShapes Go.ChangeAt Go.RowKit

theorem tab_of_laid {W : World} {l : List (String × DataW Unit)} (hp : (l.all fun x => x.2.handleName?.isNone) = true) (hf : l.filter (fun x => x.1 == "internal/strconv.uint64pow10") = [("internal/strconv.uint64pow10", Lib.tabData .u64 Lib.pow10Tab)]) (h : laidMetH Tryz.prog l W) : Tab W := by
  rw [MakeChecks.laidMetH_plain _ _ _ hp] at h
  have h2 := laidMet.filter (fun x => x.1 == "internal/strconv.uint64pow10") h
  rw [hf] at h2
  have hg : Tryz.prog.globalNamed "internal/strconv.uint64pow10" = some 1 := by kernel_rfl
  have hty : (Tryz.prog.globals[1]?).map (·.type) = some 203 := by kernel_rfl
  exact Lib.tabIs_of_head hg hty Tryz.underlying203 Tryz.underlying177 (by kernel_rfl) (by kernel_rfl) h2
end Go.Proofs.YtdngnmpmaacapaaGreatDoor
