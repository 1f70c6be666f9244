/-
  No cell of these rows narrows 'for every input' (looked for: loops, veiled, ifaces, maps, wideKeys, modest, calm, conditions, laid).
  DERIVED. THE GIVEN ROWS OF THIS SEAT. 12 by the template 'for every input the law returns true; each argument reads behind the call as it read before'; 0 by the template 'total and deterministic' (their statements: YtlefjhdpndmamaaTotals.lean).
  GIVEN WITH THE SEED: the statements are not yours to turn. If you find one false, say at which input.
  Laid BY PROGRAM, IN A SANDBOX (cutbox-rows.mjs): the forced cells as the released guide's own fill.sh prints them over the translation 69a931685245c6da… (all of the seat's roots in one cut). By AI agents, Wed Nov 11 2026. No macro, syntax, notation, axiom, sorry.
-/
import Derived.Test.YtlefjhdpndmamaaChecked
import GoSem.Claim
import GoSem.ClaimJoined
import GoSem.ClaimMapViews
import Derived.JoinedTies
import Derived.KernelRfl
namespace Go.Proofs.Ytlefjhdpndmamaa
/- THE CELL 'sum', in the pinned program and in every row, IS THE sha256 OF THE DUMP (.gsa) THAT YtlefjhdpndmamaaProg.lean LOADS. Nothing in Lean hashes anything: it is a label: what it is worth is what the hold of that sum in a sandbox is worth. -/
noncomputable def Try.pinned : Pinned := { name := "ytlefjhdpndmamaa", sum := "69a931685245c6daf96ca84521efd7baac3b25396ba7061952dd260adb882261", checked := Try.checked }
namespace Rows
def none {H : Type} : Left H := { results := [], args := [] }

/-- 'laws.FnExactMarkOf': WHATEVER THE INPUT: true; the input reads as it did. -/
def fnExactMarkOfSpec : ChangeSpec := { name := "fnExactMarkOf", fn := fun _ => fun
  | [d1, d2] => { results := [.lit (.bool true)], args := [d1, d2] }
  | _ => none }
def fnExactMarkOfRow : OpenClaim := { program := "ytlefjhdpndmamaa", sum := "69a931685245c6daf96ca84521efd7baac3b25396ba7061952dd260adb882261", func := "loop.example/sumschool/laws.FnExactMarkOf", spec := "fnExactMarkOf", apart := false }
def FnExactMarkOfSaid : Prop := fnExactMarkOfRow.holds Try.pinned (OpenSpec.ofChange fnExactMarkOfSpec)

/-- ITS FALSE NEIGHBOUR: 'it returns false'. Refute it at one input. -/
def fnExactMarkOfWrong : ChangeSpec := { name := "fnExactMarkOf", fn := fun _ => fun
  | [d1, d2] => { results := [.lit (.bool false)], args := [d1, d2] }
  | _ => none }
def FnExactMarkOfWrongFalsely : Prop := fnExactMarkOfRow.holds Try.pinned (OpenSpec.ofChange fnExactMarkOfWrong)

/-- 'laws.FnExactBoundsOk': WHATEVER THE INPUT: true; the input reads as it did. -/
def fnExactBoundsOkSpec : ChangeSpec := { name := "fnExactBoundsOk", fn := fun _ => fun
  | [d] => { results := [.lit (.bool true)], args := [d] }
  | _ => none }
def fnExactBoundsOkRow : OpenClaim := { program := "ytlefjhdpndmamaa", sum := "69a931685245c6daf96ca84521efd7baac3b25396ba7061952dd260adb882261", func := "loop.example/sumschool/laws.FnExactBoundsOk", spec := "fnExactBoundsOk", apart := false }
def FnExactBoundsOkSaid : Prop := fnExactBoundsOkRow.holds Try.pinned (OpenSpec.ofChange fnExactBoundsOkSpec)

/-- ITS FALSE NEIGHBOUR: 'it returns false'. Refute it at one input. -/
def fnExactBoundsOkWrong : ChangeSpec := { name := "fnExactBoundsOk", fn := fun _ => fun
  | [d] => { results := [.lit (.bool false)], args := [d] }
  | _ => none }
def FnExactBoundsOkWrongFalsely : Prop := fnExactBoundsOkRow.holds Try.pinned (OpenSpec.ofChange fnExactBoundsOkWrong)

/-- 'laws.FnExactMarksOk': WHATEVER THE INPUT: true; the input reads as it did. -/
def fnExactMarksOkSpec : ChangeSpec := { name := "fnExactMarksOk", fn := fun _ => fun
  | [d] => { results := [.lit (.bool true)], args := [d] }
  | _ => none }
def fnExactMarksOkRow : OpenClaim := { program := "ytlefjhdpndmamaa", sum := "69a931685245c6daf96ca84521efd7baac3b25396ba7061952dd260adb882261", func := "loop.example/sumschool/laws.FnExactMarksOk", spec := "fnExactMarksOk", unfollowed := true, recurses := true, apart := false }
def FnExactMarksOkSaid : Prop := fnExactMarksOkRow.holds Try.pinned (OpenSpec.ofChange fnExactMarksOkSpec)

/-- ITS FALSE NEIGHBOUR: 'it returns false'. Refute it at one input. -/
def fnExactMarksOkWrong : ChangeSpec := { name := "fnExactMarksOk", fn := fun _ => fun
  | [d] => { results := [.lit (.bool false)], args := [d] }
  | _ => none }
def FnExactMarksOkWrongFalsely : Prop := fnExactMarksOkRow.holds Try.pinned (OpenSpec.ofChange fnExactMarksOkWrong)

/-- 'laws.FnMarkOf': WHATEVER THE INPUT: true; the input reads as it did. -/
def fnMarkOfSpec : ChangeSpec := { name := "fnMarkOf", fn := fun _ => fun
  | [d] => { results := [.lit (.bool true)], args := [d] }
  | _ => none }
def fnMarkOfRow : OpenClaim := { program := "ytlefjhdpndmamaa", sum := "69a931685245c6daf96ca84521efd7baac3b25396ba7061952dd260adb882261", func := "loop.example/sumschool/laws.FnMarkOf", spec := "fnMarkOf", apart := false }
def FnMarkOfSaid : Prop := fnMarkOfRow.holds Try.pinned (OpenSpec.ofChange fnMarkOfSpec)

/-- ITS FALSE NEIGHBOUR: 'it returns false'. Refute it at one input. -/
def fnMarkOfWrong : ChangeSpec := { name := "fnMarkOf", fn := fun _ => fun
  | [d] => { results := [.lit (.bool false)], args := [d] }
  | _ => none }
def FnMarkOfWrongFalsely : Prop := fnMarkOfRow.holds Try.pinned (OpenSpec.ofChange fnMarkOfWrong)

/-- 'laws.FnExactGradeOf': WHATEVER THE INPUT: true; the input reads as it did. -/
def fnExactGradeOfSpec : ChangeSpec := { name := "fnExactGradeOf", fn := fun _ => fun
  | [d1, d2] => { results := [.lit (.bool true)], args := [d1, d2] }
  | _ => none }
def fnExactGradeOfRow : OpenClaim := { program := "ytlefjhdpndmamaa", sum := "69a931685245c6daf96ca84521efd7baac3b25396ba7061952dd260adb882261", func := "loop.example/sumschool/laws.FnExactGradeOf", spec := "fnExactGradeOf", apart := false }
def FnExactGradeOfSaid : Prop := fnExactGradeOfRow.holds Try.pinned (OpenSpec.ofChange fnExactGradeOfSpec)

/-- ITS FALSE NEIGHBOUR: 'it returns false'. Refute it at one input. -/
def fnExactGradeOfWrong : ChangeSpec := { name := "fnExactGradeOf", fn := fun _ => fun
  | [d1, d2] => { results := [.lit (.bool false)], args := [d1, d2] }
  | _ => none }
def FnExactGradeOfWrongFalsely : Prop := fnExactGradeOfRow.holds Try.pinned (OpenSpec.ofChange fnExactGradeOfWrong)

/-- 'laws.FnBoundsOk': WHATEVER THE INPUT: true; the input reads as it did. -/
def fnBoundsOkSpec : ChangeSpec := { name := "fnBoundsOk", fn := fun _ => fun
  | [d] => { results := [.lit (.bool true)], args := [d] }
  | _ => none }
def fnBoundsOkRow : OpenClaim := { program := "ytlefjhdpndmamaa", sum := "69a931685245c6daf96ca84521efd7baac3b25396ba7061952dd260adb882261", func := "loop.example/sumschool/laws.FnBoundsOk", spec := "fnBoundsOk", apart := false }
def FnBoundsOkSaid : Prop := fnBoundsOkRow.holds Try.pinned (OpenSpec.ofChange fnBoundsOkSpec)

/-- ITS FALSE NEIGHBOUR: 'it returns false'. Refute it at one input. -/
def fnBoundsOkWrong : ChangeSpec := { name := "fnBoundsOk", fn := fun _ => fun
  | [d] => { results := [.lit (.bool false)], args := [d] }
  | _ => none }
def FnBoundsOkWrongFalsely : Prop := fnBoundsOkRow.holds Try.pinned (OpenSpec.ofChange fnBoundsOkWrong)

/-- 'laws.FnMarksOk': WHATEVER THE INPUT: true; the input reads as it did. -/
def fnMarksOkSpec : ChangeSpec := { name := "fnMarksOk", fn := fun _ => fun
  | [d] => { results := [.lit (.bool true)], args := [d] }
  | _ => none }
def fnMarksOkRow : OpenClaim := { program := "ytlefjhdpndmamaa", sum := "69a931685245c6daf96ca84521efd7baac3b25396ba7061952dd260adb882261", func := "loop.example/sumschool/laws.FnMarksOk", spec := "fnMarksOk", unfollowed := true, recurses := true, apart := false }
def FnMarksOkSaid : Prop := fnMarksOkRow.holds Try.pinned (OpenSpec.ofChange fnMarksOkSpec)

/-- ITS FALSE NEIGHBOUR: 'it returns false'. Refute it at one input. -/
def fnMarksOkWrong : ChangeSpec := { name := "fnMarksOk", fn := fun _ => fun
  | [d] => { results := [.lit (.bool false)], args := [d] }
  | _ => none }
def FnMarksOkWrongFalsely : Prop := fnMarksOkRow.holds Try.pinned (OpenSpec.ofChange fnMarksOkWrong)

/-- 'laws.FnExactMeanOf': WHATEVER THE INPUT: true; the input reads as it did. -/
def fnExactMeanOfSpec : ChangeSpec := { name := "fnExactMeanOf", fn := fun _ => fun
  | [d] => { results := [.lit (.bool true)], args := [d] }
  | _ => none }
def fnExactMeanOfRow : OpenClaim := { program := "ytlefjhdpndmamaa", sum := "69a931685245c6daf96ca84521efd7baac3b25396ba7061952dd260adb882261", func := "loop.example/sumschool/laws.FnExactMeanOf", spec := "fnExactMeanOf", unfollowed := true, recurses := true, apart := false }
def FnExactMeanOfSaid : Prop := fnExactMeanOfRow.holds Try.pinned (OpenSpec.ofChange fnExactMeanOfSpec)

/-- ITS FALSE NEIGHBOUR: 'it returns false'. Refute it at one input. -/
def fnExactMeanOfWrong : ChangeSpec := { name := "fnExactMeanOf", fn := fun _ => fun
  | [d] => { results := [.lit (.bool false)], args := [d] }
  | _ => none }
def FnExactMeanOfWrongFalsely : Prop := fnExactMeanOfRow.holds Try.pinned (OpenSpec.ofChange fnExactMeanOfWrong)

/-- 'laws.FnExactPlacesOf': WHATEVER THE INPUT: true; the input reads as it did. -/
def fnExactPlacesOfSpec : ChangeSpec := { name := "fnExactPlacesOf", fn := fun _ => fun
  | [d] => { results := [.lit (.bool true)], args := [d] }
  | _ => none }
def fnExactPlacesOfRow : OpenClaim := { program := "ytlefjhdpndmamaa", sum := "69a931685245c6daf96ca84521efd7baac3b25396ba7061952dd260adb882261", func := "loop.example/sumschool/laws.FnExactPlacesOf", spec := "fnExactPlacesOf", unfollowed := true, recurses := true, apart := false }
def FnExactPlacesOfSaid : Prop := fnExactPlacesOfRow.holds Try.pinned (OpenSpec.ofChange fnExactPlacesOfSpec)

/-- ITS FALSE NEIGHBOUR: 'it returns false'. Refute it at one input. -/
def fnExactPlacesOfWrong : ChangeSpec := { name := "fnExactPlacesOf", fn := fun _ => fun
  | [d] => { results := [.lit (.bool false)], args := [d] }
  | _ => none }
def FnExactPlacesOfWrongFalsely : Prop := fnExactPlacesOfRow.holds Try.pinned (OpenSpec.ofChange fnExactPlacesOfWrong)

/-- 'laws.FnGradeOf': WHATEVER THE INPUT: true; the input reads as it did. -/
def fnGradeOfSpec : ChangeSpec := { name := "fnGradeOf", fn := fun _ => fun
  | [d] => { results := [.lit (.bool true)], args := [d] }
  | _ => none }
def fnGradeOfRow : OpenClaim := { program := "ytlefjhdpndmamaa", sum := "69a931685245c6daf96ca84521efd7baac3b25396ba7061952dd260adb882261", func := "loop.example/sumschool/laws.FnGradeOf", spec := "fnGradeOf", apart := false }
def FnGradeOfSaid : Prop := fnGradeOfRow.holds Try.pinned (OpenSpec.ofChange fnGradeOfSpec)

/-- ITS FALSE NEIGHBOUR: 'it returns false'. Refute it at one input. -/
def fnGradeOfWrong : ChangeSpec := { name := "fnGradeOf", fn := fun _ => fun
  | [d] => { results := [.lit (.bool false)], args := [d] }
  | _ => none }
def FnGradeOfWrongFalsely : Prop := fnGradeOfRow.holds Try.pinned (OpenSpec.ofChange fnGradeOfWrong)

/-- 'laws.FnExactGradesIn': WHATEVER THE INPUT: true; the input reads as it did. -/
def fnExactGradesInSpec : ChangeSpec := { name := "fnExactGradesIn", fn := fun _ => fun
  | [d1, d2] => { results := [.lit (.bool true)], args := [d1, d2] }
  | _ => none }
def fnExactGradesInRow : OpenClaim := { program := "ytlefjhdpndmamaa", sum := "69a931685245c6daf96ca84521efd7baac3b25396ba7061952dd260adb882261", func := "loop.example/sumschool/laws.FnExactGradesIn", spec := "fnExactGradesIn", unfollowed := true, recurses := true, apart := false }
def FnExactGradesInSaid : Prop := fnExactGradesInRow.holds Try.pinned (OpenSpec.ofChange fnExactGradesInSpec)

/-- ITS FALSE NEIGHBOUR: 'it returns false'. Refute it at one input. -/
def fnExactGradesInWrong : ChangeSpec := { name := "fnExactGradesIn", fn := fun _ => fun
  | [d1, d2] => { results := [.lit (.bool false)], args := [d1, d2] }
  | _ => none }
def FnExactGradesInWrongFalsely : Prop := fnExactGradesInRow.holds Try.pinned (OpenSpec.ofChange fnExactGradesInWrong)

/-- 'laws.FnMeanOf': WHATEVER THE INPUT: true; the input reads as it did. -/
def fnMeanOfSpec : ChangeSpec := { name := "fnMeanOf", fn := fun _ => fun
  | [d] => { results := [.lit (.bool true)], args := [d] }
  | _ => none }
def fnMeanOfRow : OpenClaim := { program := "ytlefjhdpndmamaa", sum := "69a931685245c6daf96ca84521efd7baac3b25396ba7061952dd260adb882261", func := "loop.example/sumschool/laws.FnMeanOf", spec := "fnMeanOf", unfollowed := true, recurses := true, apart := false }
def FnMeanOfSaid : Prop := fnMeanOfRow.holds Try.pinned (OpenSpec.ofChange fnMeanOfSpec)

/-- ITS FALSE NEIGHBOUR: 'it returns false'. Refute it at one input. -/
def fnMeanOfWrong : ChangeSpec := { name := "fnMeanOf", fn := fun _ => fun
  | [d] => { results := [.lit (.bool false)], args := [d] }
  | _ => none }
def FnMeanOfWrongFalsely : Prop := fnMeanOfRow.holds Try.pinned (OpenSpec.ofChange fnMeanOfWrong)

/- THE SECOND FORM. 'bulk': how many values and letters a reading holds, each counted each time it is reached (what is shared counts as often as it is met; a slice's spare places count too). A statement '..UptoSaid' is the law's where the arguments, and the package variables that the reading takes, are together of bulk at most 1048576: NARROWER than '..Said'. Prove '..Said' where nothing that the law and all that it calls make is longer than what came in: it says more and counts as full. Else prove '..UptoSaid'. A law counts once. -/
mutual
def uptoBulk {H : Type} : DataW H → Nat
  | .lit (.string bytes) => bytes.length + 1
  | .lit _ => 1
  | .nil => 1
  | .ptr d => uptoBulk d + 1
  | .slice elems spare => uptoBulkAll elems + uptoBulkAll spare + 1
  | .agg parts => uptoBulkAll parts + 1
  | .iface _ d => uptoBulk d + 1
  | .map entries => uptoBulkEntries entries + 1
  | .held _ => 1
def uptoBulkAll {H : Type} : List (DataW H) → Nat
  | [] => 0
  | d :: r => uptoBulk d + uptoBulkAll r
def uptoBulkEntries {H : Type} : List (Lit × DataW H) → Nat
  | [] => 0
  | x :: r => uptoBulkEntry x + uptoBulkEntries r
def uptoBulkEntry {H : Type} : Lit × DataW H → Nat
  | (.string bytes, d) => bytes.length + uptoBulk d + 1
  | (_, d) => uptoBulk d + 1
 end
def uptoSmall : (H : Type) → List (DataW H) → Bool := fun _ ds => decide (uptoBulkAll ds ≤ 1048576)
def OpenSpec.upto (s : _root_.Go.ChangeSpec) : _root_.Go.OpenSpec := { _root_.Go.OpenSpec.ofChange s with cond := some uptoSmall }

/-- 'laws.FnExactMarkOf', WHERE WHAT IT READS IS OF BULK AT MOST 1048576: true; the input reads as it did. -/
def fnExactMarkOfUptoRow : OpenClaim := { program := "ytlefjhdpndmamaa", sum := "69a931685245c6daf96ca84521efd7baac3b25396ba7061952dd260adb882261", func := "loop.example/sumschool/laws.FnExactMarkOf", spec := "fnExactMarkOf", apart := false, narrowed := true }
def FnExactMarkOfUptoSaid : Prop := fnExactMarkOfUptoRow.holds Try.pinned (OpenSpec.upto fnExactMarkOfSpec)

/-- 'laws.FnExactBoundsOk', WHERE WHAT IT READS IS OF BULK AT MOST 1048576: true; the input reads as it did. -/
def fnExactBoundsOkUptoRow : OpenClaim := { program := "ytlefjhdpndmamaa", sum := "69a931685245c6daf96ca84521efd7baac3b25396ba7061952dd260adb882261", func := "loop.example/sumschool/laws.FnExactBoundsOk", spec := "fnExactBoundsOk", apart := false, narrowed := true }
def FnExactBoundsOkUptoSaid : Prop := fnExactBoundsOkUptoRow.holds Try.pinned (OpenSpec.upto fnExactBoundsOkSpec)

/-- 'laws.FnExactMarksOk', WHERE WHAT IT READS IS OF BULK AT MOST 1048576: true; the input reads as it did. -/
def fnExactMarksOkUptoRow : OpenClaim := { program := "ytlefjhdpndmamaa", sum := "69a931685245c6daf96ca84521efd7baac3b25396ba7061952dd260adb882261", func := "loop.example/sumschool/laws.FnExactMarksOk", spec := "fnExactMarksOk", unfollowed := true, recurses := true, apart := false, narrowed := true }
def FnExactMarksOkUptoSaid : Prop := fnExactMarksOkUptoRow.holds Try.pinned (OpenSpec.upto fnExactMarksOkSpec)

/-- 'laws.FnMarkOf', WHERE WHAT IT READS IS OF BULK AT MOST 1048576: true; the input reads as it did. -/
def fnMarkOfUptoRow : OpenClaim := { program := "ytlefjhdpndmamaa", sum := "69a931685245c6daf96ca84521efd7baac3b25396ba7061952dd260adb882261", func := "loop.example/sumschool/laws.FnMarkOf", spec := "fnMarkOf", apart := false, narrowed := true }
def FnMarkOfUptoSaid : Prop := fnMarkOfUptoRow.holds Try.pinned (OpenSpec.upto fnMarkOfSpec)

/-- 'laws.FnExactGradeOf', WHERE WHAT IT READS IS OF BULK AT MOST 1048576: true; the input reads as it did. -/
def fnExactGradeOfUptoRow : OpenClaim := { program := "ytlefjhdpndmamaa", sum := "69a931685245c6daf96ca84521efd7baac3b25396ba7061952dd260adb882261", func := "loop.example/sumschool/laws.FnExactGradeOf", spec := "fnExactGradeOf", apart := false, narrowed := true }
def FnExactGradeOfUptoSaid : Prop := fnExactGradeOfUptoRow.holds Try.pinned (OpenSpec.upto fnExactGradeOfSpec)

/-- 'laws.FnBoundsOk', WHERE WHAT IT READS IS OF BULK AT MOST 1048576: true; the input reads as it did. -/
def fnBoundsOkUptoRow : OpenClaim := { program := "ytlefjhdpndmamaa", sum := "69a931685245c6daf96ca84521efd7baac3b25396ba7061952dd260adb882261", func := "loop.example/sumschool/laws.FnBoundsOk", spec := "fnBoundsOk", apart := false, narrowed := true }
def FnBoundsOkUptoSaid : Prop := fnBoundsOkUptoRow.holds Try.pinned (OpenSpec.upto fnBoundsOkSpec)

/-- 'laws.FnMarksOk', WHERE WHAT IT READS IS OF BULK AT MOST 1048576: true; the input reads as it did. -/
def fnMarksOkUptoRow : OpenClaim := { program := "ytlefjhdpndmamaa", sum := "69a931685245c6daf96ca84521efd7baac3b25396ba7061952dd260adb882261", func := "loop.example/sumschool/laws.FnMarksOk", spec := "fnMarksOk", unfollowed := true, recurses := true, apart := false, narrowed := true }
def FnMarksOkUptoSaid : Prop := fnMarksOkUptoRow.holds Try.pinned (OpenSpec.upto fnMarksOkSpec)

/-- 'laws.FnExactMeanOf', WHERE WHAT IT READS IS OF BULK AT MOST 1048576: true; the input reads as it did. -/
def fnExactMeanOfUptoRow : OpenClaim := { program := "ytlefjhdpndmamaa", sum := "69a931685245c6daf96ca84521efd7baac3b25396ba7061952dd260adb882261", func := "loop.example/sumschool/laws.FnExactMeanOf", spec := "fnExactMeanOf", unfollowed := true, recurses := true, apart := false, narrowed := true }
def FnExactMeanOfUptoSaid : Prop := fnExactMeanOfUptoRow.holds Try.pinned (OpenSpec.upto fnExactMeanOfSpec)

/-- 'laws.FnExactPlacesOf', WHERE WHAT IT READS IS OF BULK AT MOST 1048576: true; the input reads as it did. -/
def fnExactPlacesOfUptoRow : OpenClaim := { program := "ytlefjhdpndmamaa", sum := "69a931685245c6daf96ca84521efd7baac3b25396ba7061952dd260adb882261", func := "loop.example/sumschool/laws.FnExactPlacesOf", spec := "fnExactPlacesOf", unfollowed := true, recurses := true, apart := false, narrowed := true }
def FnExactPlacesOfUptoSaid : Prop := fnExactPlacesOfUptoRow.holds Try.pinned (OpenSpec.upto fnExactPlacesOfSpec)

/-- 'laws.FnGradeOf', WHERE WHAT IT READS IS OF BULK AT MOST 1048576: true; the input reads as it did. -/
def fnGradeOfUptoRow : OpenClaim := { program := "ytlefjhdpndmamaa", sum := "69a931685245c6daf96ca84521efd7baac3b25396ba7061952dd260adb882261", func := "loop.example/sumschool/laws.FnGradeOf", spec := "fnGradeOf", apart := false, narrowed := true }
def FnGradeOfUptoSaid : Prop := fnGradeOfUptoRow.holds Try.pinned (OpenSpec.upto fnGradeOfSpec)

/-- 'laws.FnExactGradesIn', WHERE WHAT IT READS IS OF BULK AT MOST 1048576: true; the input reads as it did. -/
def fnExactGradesInUptoRow : OpenClaim := { program := "ytlefjhdpndmamaa", sum := "69a931685245c6daf96ca84521efd7baac3b25396ba7061952dd260adb882261", func := "loop.example/sumschool/laws.FnExactGradesIn", spec := "fnExactGradesIn", unfollowed := true, recurses := true, apart := false, narrowed := true }
def FnExactGradesInUptoSaid : Prop := fnExactGradesInUptoRow.holds Try.pinned (OpenSpec.upto fnExactGradesInSpec)

/-- 'laws.FnMeanOf', WHERE WHAT IT READS IS OF BULK AT MOST 1048576: true; the input reads as it did. -/
def fnMeanOfUptoRow : OpenClaim := { program := "ytlefjhdpndmamaa", sum := "69a931685245c6daf96ca84521efd7baac3b25396ba7061952dd260adb882261", func := "loop.example/sumschool/laws.FnMeanOf", spec := "fnMeanOf", unfollowed := true, recurses := true, apart := false, narrowed := true }
def FnMeanOfUptoSaid : Prop := fnMeanOfUptoRow.holds Try.pinned (OpenSpec.upto fnMeanOfSpec)

end Rows
end Go.Proofs.Ytlefjhdpndmamaa
