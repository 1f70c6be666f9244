/-
  No cell of these rows narrows 'for every input' (looked for: loops, veiled, ifaces, maps, wideKeys, modest, calm, conditions, laid).
  DERIVED. THE GIVEN ROWS OF THIS SEAT. 9 by the template 'for every input the law returns true; each argument reads behind the call as it read before'; 0 by the template 'total and deterministic' (their statements: YtoedenmimcmkoaaTotals.lean).
  GIVEN WITH THE SEED: the statements are not yours to turn. If you find one false, say at which input.
  Laid BY PROGRAM, IN A SANDBOX (cutbox-rows.mjs): the forced cells as the released guide's own fill.sh prints them over the translation 9769b33e96ce9f98… (all of the seat's roots in one cut). By AI agents, Wed Nov 11 2026. No macro, syntax, notation, axiom, sorry.
-/
import Derived.Test.YtoedenmimcmkoaaChecked
import GoSem.Claim
import GoSem.ClaimJoined
import GoSem.ClaimMapViews
import Derived.JoinedTies
import Derived.KernelRfl
namespace Go.Proofs.Ytoedenmimcmkoaa
/- THE CELL 'sum', in the pinned program and in every row, IS THE sha256 OF THE DUMP (.gsa) THAT YtoedenmimcmkoaaProg.lean LOADS. Nothing in Lean hashes anything: it is a label: what it is worth is what the hold of that sum in a sandbox is worth. -/
noncomputable def Try.pinned : Pinned := { name := "ytoedenmimcmkoaa", sum := "9769b33e96ce9f9846058919bc9acc938e6af8bcd54912235e0e50e0428e0714", checked := Try.checked }
namespace Rows
def none {H : Type} : Left H := { results := [], args := [] }

/-- 'laws.FnPlacesOf': WHATEVER THE INPUT: true; the input reads as it did. -/
def fnPlacesOfSpec : ChangeSpec := { name := "fnPlacesOf", fn := fun _ => fun
  | [d] => { results := [.lit (.bool true)], args := [d] }
  | _ => none }
def fnPlacesOfRow : OpenClaim := { program := "ytoedenmimcmkoaa", sum := "9769b33e96ce9f9846058919bc9acc938e6af8bcd54912235e0e50e0428e0714", func := "loop.example/sumschool/laws.FnPlacesOf", spec := "fnPlacesOf", unfollowed := true, recurses := true, apart := false }
def FnPlacesOfSaid : Prop := fnPlacesOfRow.holds Try.pinned (OpenSpec.ofChange fnPlacesOfSpec)

/-- ITS FALSE NEIGHBOUR: 'it returns false'. Refute it at one input. -/
def fnPlacesOfWrong : ChangeSpec := { name := "fnPlacesOf", fn := fun _ => fun
  | [d] => { results := [.lit (.bool false)], args := [d] }
  | _ => none }
def FnPlacesOfWrongFalsely : Prop := fnPlacesOfRow.holds Try.pinned (OpenSpec.ofChange fnPlacesOfWrong)

/-- 'laws.FnGradesIn': WHATEVER THE INPUT: true; the input reads as it did. -/
def fnGradesInSpec : ChangeSpec := { name := "fnGradesIn", fn := fun _ => fun
  | [d] => { results := [.lit (.bool true)], args := [d] }
  | _ => none }
def fnGradesInRow : OpenClaim := { program := "ytoedenmimcmkoaa", sum := "9769b33e96ce9f9846058919bc9acc938e6af8bcd54912235e0e50e0428e0714", func := "loop.example/sumschool/laws.FnGradesIn", spec := "fnGradesIn", unfollowed := true, recurses := true, apart := false }
def FnGradesInSaid : Prop := fnGradesInRow.holds Try.pinned (OpenSpec.ofChange fnGradesInSpec)

/-- ITS FALSE NEIGHBOUR: 'it returns false'. Refute it at one input. -/
def fnGradesInWrong : ChangeSpec := { name := "fnGradesIn", fn := fun _ => fun
  | [d] => { results := [.lit (.bool false)], args := [d] }
  | _ => none }
def FnGradesInWrongFalsely : Prop := fnGradesInRow.holds Try.pinned (OpenSpec.ofChange fnGradesInWrong)

/-- 'laws.FnAfterDays': WHATEVER THE INPUT: true; the input reads as it did. -/
def fnAfterDaysSpec : ChangeSpec := { name := "fnAfterDays", fn := fun _ => fun
  | [d] => { results := [.lit (.bool true)], args := [d] }
  | _ => none }
def fnAfterDaysRow : OpenClaim := { program := "ytoedenmimcmkoaa", sum := "9769b33e96ce9f9846058919bc9acc938e6af8bcd54912235e0e50e0428e0714", func := "loop.example/sumschool/laws.FnAfterDays", spec := "fnAfterDays", unfollowed := true, recurses := true, apart := false }
def FnAfterDaysSaid : Prop := fnAfterDaysRow.holds Try.pinned (OpenSpec.ofChange fnAfterDaysSpec)

/-- ITS FALSE NEIGHBOUR: 'it returns false'. Refute it at one input. -/
def fnAfterDaysWrong : ChangeSpec := { name := "fnAfterDays", fn := fun _ => fun
  | [d] => { results := [.lit (.bool false)], args := [d] }
  | _ => none }
def FnAfterDaysWrongFalsely : Prop := fnAfterDaysRow.holds Try.pinned (OpenSpec.ofChange fnAfterDaysWrong)

/-- 'laws.FnExactAfterDays': WHATEVER THE INPUT: true; the input reads as it did. -/
def fnExactAfterDaysSpec : ChangeSpec := { name := "fnExactAfterDays", fn := fun _ => fun
  | [d1, d2, d3, d4] => { results := [.lit (.bool true)], args := [d1, d2, d3, d4] }
  | _ => none }
def fnExactAfterDaysRow : OpenClaim := { program := "ytoedenmimcmkoaa", sum := "9769b33e96ce9f9846058919bc9acc938e6af8bcd54912235e0e50e0428e0714", func := "loop.example/sumschool/laws.FnExactAfterDays", spec := "fnExactAfterDays", unfollowed := true, recurses := true, apart := false }
def FnExactAfterDaysSaid : Prop := fnExactAfterDaysRow.holds Try.pinned (OpenSpec.ofChange fnExactAfterDaysSpec)

/-- ITS FALSE NEIGHBOUR: 'it returns false'. Refute it at one input. -/
def fnExactAfterDaysWrong : ChangeSpec := { name := "fnExactAfterDays", fn := fun _ => fun
  | [d1, d2, d3, d4] => { results := [.lit (.bool false)], args := [d1, d2, d3, d4] }
  | _ => none }
def FnExactAfterDaysWrongFalsely : Prop := fnExactAfterDaysRow.holds Try.pinned (OpenSpec.ofChange fnExactAfterDaysWrong)

/-- 'laws.FnExactMiddleMark': WHATEVER THE INPUT: true; the input reads as it did. -/
def fnExactMiddleMarkSpec : ChangeSpec := { name := "fnExactMiddleMark", fn := fun _ => fun
  | [d] => { results := [.lit (.bool true)], args := [d] }
  | _ => none }
def fnExactMiddleMarkRow : OpenClaim := { program := "ytoedenmimcmkoaa", sum := "9769b33e96ce9f9846058919bc9acc938e6af8bcd54912235e0e50e0428e0714", func := "loop.example/sumschool/laws.FnExactMiddleMark", spec := "fnExactMiddleMark", unfollowed := true, recurses := true, apart := false }
def FnExactMiddleMarkSaid : Prop := fnExactMiddleMarkRow.holds Try.pinned (OpenSpec.ofChange fnExactMiddleMarkSpec)

/-- ITS FALSE NEIGHBOUR: 'it returns false'. Refute it at one input. -/
def fnExactMiddleMarkWrong : ChangeSpec := { name := "fnExactMiddleMark", fn := fun _ => fun
  | [d] => { results := [.lit (.bool false)], args := [d] }
  | _ => none }
def FnExactMiddleMarkWrongFalsely : Prop := fnExactMiddleMarkRow.holds Try.pinned (OpenSpec.ofChange fnExactMiddleMarkWrong)

/-- 'laws.FnExactListOf': WHATEVER THE INPUT: true; the input reads as it did. -/
def fnExactListOfSpec : ChangeSpec := { name := "fnExactListOf", fn := fun _ => fun
  | [d] => { results := [.lit (.bool true)], args := [d] }
  | _ => none }
def fnExactListOfRow : OpenClaim := { program := "ytoedenmimcmkoaa", sum := "9769b33e96ce9f9846058919bc9acc938e6af8bcd54912235e0e50e0428e0714", func := "loop.example/sumschool/laws.FnExactListOf", spec := "fnExactListOf", unfollowed := true, recurses := true, apart := false }
def FnExactListOfSaid : Prop := fnExactListOfRow.holds Try.pinned (OpenSpec.ofChange fnExactListOfSpec)

/-- ITS FALSE NEIGHBOUR: 'it returns false'. Refute it at one input. -/
def fnExactListOfWrong : ChangeSpec := { name := "fnExactListOf", fn := fun _ => fun
  | [d] => { results := [.lit (.bool false)], args := [d] }
  | _ => none }
def FnExactListOfWrongFalsely : Prop := fnExactListOfRow.holds Try.pinned (OpenSpec.ofChange fnExactListOfWrong)

/-- 'laws.FnQuestionsUpTo': WHATEVER THE INPUT: true; the input reads as it did. -/
def fnQuestionsUpToSpec : ChangeSpec := { name := "fnQuestionsUpTo", fn := fun _ => fun
  | [d] => { results := [.lit (.bool true)], args := [d] }
  | _ => none }
def fnQuestionsUpToRow : OpenClaim := { program := "ytoedenmimcmkoaa", sum := "9769b33e96ce9f9846058919bc9acc938e6af8bcd54912235e0e50e0428e0714", func := "loop.example/sumschool/laws.FnQuestionsUpTo", spec := "fnQuestionsUpTo", unfollowed := true, recurses := true, apart := false }
def FnQuestionsUpToSaid : Prop := fnQuestionsUpToRow.holds Try.pinned (OpenSpec.ofChange fnQuestionsUpToSpec)

/-- ITS FALSE NEIGHBOUR: 'it returns false'. Refute it at one input. -/
def fnQuestionsUpToWrong : ChangeSpec := { name := "fnQuestionsUpTo", fn := fun _ => fun
  | [d] => { results := [.lit (.bool false)], args := [d] }
  | _ => none }
def FnQuestionsUpToWrongFalsely : Prop := fnQuestionsUpToRow.holds Try.pinned (OpenSpec.ofChange fnQuestionsUpToWrong)

/-- 'laws.FnMiddleMark': WHATEVER THE INPUT: true; the input reads as it did. -/
def fnMiddleMarkSpec : ChangeSpec := { name := "fnMiddleMark", fn := fun _ => fun
  | [d] => { results := [.lit (.bool true)], args := [d] }
  | _ => none }
def fnMiddleMarkRow : OpenClaim := { program := "ytoedenmimcmkoaa", sum := "9769b33e96ce9f9846058919bc9acc938e6af8bcd54912235e0e50e0428e0714", func := "loop.example/sumschool/laws.FnMiddleMark", spec := "fnMiddleMark", unfollowed := true, recurses := true, apart := false }
def FnMiddleMarkSaid : Prop := fnMiddleMarkRow.holds Try.pinned (OpenSpec.ofChange fnMiddleMarkSpec)

/-- ITS FALSE NEIGHBOUR: 'it returns false'. Refute it at one input. -/
def fnMiddleMarkWrong : ChangeSpec := { name := "fnMiddleMark", fn := fun _ => fun
  | [d] => { results := [.lit (.bool false)], args := [d] }
  | _ => none }
def FnMiddleMarkWrongFalsely : Prop := fnMiddleMarkRow.holds Try.pinned (OpenSpec.ofChange fnMiddleMarkWrong)

/-- 'laws.FnListOf': WHATEVER THE INPUT: true; the input reads as it did. -/
def fnListOfSpec : ChangeSpec := { name := "fnListOf", fn := fun _ => fun
  | [d] => { results := [.lit (.bool true)], args := [d] }
  | _ => none }
def fnListOfRow : OpenClaim := { program := "ytoedenmimcmkoaa", sum := "9769b33e96ce9f9846058919bc9acc938e6af8bcd54912235e0e50e0428e0714", func := "loop.example/sumschool/laws.FnListOf", spec := "fnListOf", unfollowed := true, recurses := true, apart := false }
def FnListOfSaid : Prop := fnListOfRow.holds Try.pinned (OpenSpec.ofChange fnListOfSpec)

/-- ITS FALSE NEIGHBOUR: 'it returns false'. Refute it at one input. -/
def fnListOfWrong : ChangeSpec := { name := "fnListOf", fn := fun _ => fun
  | [d] => { results := [.lit (.bool false)], args := [d] }
  | _ => none }
def FnListOfWrongFalsely : Prop := fnListOfRow.holds Try.pinned (OpenSpec.ofChange fnListOfWrong)

/- THE SECOND FORM. 'bulk': how many values and letters a reading holds, each counted each time it is reached (what is shared counts as often as it is met; a slice's spare places count too). A statement '..UptoSaid' is the law's where the arguments, and the package variables that the reading takes, are together of bulk at most 1048576: NARROWER than '..Said'. Prove '..Said' where nothing that the law and all that it calls make is longer than what came in: it says more and counts as full. Else prove '..UptoSaid'. A law counts once. -/
mutual
def uptoBulk {H : Type} : DataW H → Nat
  | .lit (.string bytes) => bytes.length + 1
  | .lit _ => 1
  | .nil => 1
  | .ptr d => uptoBulk d + 1
  | .slice elems spare => uptoBulkAll elems + uptoBulkAll spare + 1
  | .agg parts => uptoBulkAll parts + 1
  | .iface _ d => uptoBulk d + 1
  | .map entries => uptoBulkEntries entries + 1
  | .held _ => 1
def uptoBulkAll {H : Type} : List (DataW H) → Nat
  | [] => 0
  | d :: r => uptoBulk d + uptoBulkAll r
def uptoBulkEntries {H : Type} : List (Lit × DataW H) → Nat
  | [] => 0
  | x :: r => uptoBulkEntry x + uptoBulkEntries r
def uptoBulkEntry {H : Type} : Lit × DataW H → Nat
  | (.string bytes, d) => bytes.length + uptoBulk d + 1
  | (_, d) => uptoBulk d + 1
 end
def uptoSmall : (H : Type) → List (DataW H) → Bool := fun _ ds => decide (uptoBulkAll ds ≤ 1048576)
def OpenSpec.upto (s : _root_.Go.ChangeSpec) : _root_.Go.OpenSpec := { _root_.Go.OpenSpec.ofChange s with cond := some uptoSmall }

/-- 'laws.FnPlacesOf', WHERE WHAT IT READS IS OF BULK AT MOST 1048576: true; the input reads as it did. -/
def fnPlacesOfUptoRow : OpenClaim := { program := "ytoedenmimcmkoaa", sum := "9769b33e96ce9f9846058919bc9acc938e6af8bcd54912235e0e50e0428e0714", func := "loop.example/sumschool/laws.FnPlacesOf", spec := "fnPlacesOf", unfollowed := true, recurses := true, apart := false, narrowed := true }
def FnPlacesOfUptoSaid : Prop := fnPlacesOfUptoRow.holds Try.pinned (OpenSpec.upto fnPlacesOfSpec)

/-- 'laws.FnGradesIn', WHERE WHAT IT READS IS OF BULK AT MOST 1048576: true; the input reads as it did. -/
def fnGradesInUptoRow : OpenClaim := { program := "ytoedenmimcmkoaa", sum := "9769b33e96ce9f9846058919bc9acc938e6af8bcd54912235e0e50e0428e0714", func := "loop.example/sumschool/laws.FnGradesIn", spec := "fnGradesIn", unfollowed := true, recurses := true, apart := false, narrowed := true }
def FnGradesInUptoSaid : Prop := fnGradesInUptoRow.holds Try.pinned (OpenSpec.upto fnGradesInSpec)

/-- 'laws.FnAfterDays', WHERE WHAT IT READS IS OF BULK AT MOST 1048576: true; the input reads as it did. -/
def fnAfterDaysUptoRow : OpenClaim := { program := "ytoedenmimcmkoaa", sum := "9769b33e96ce9f9846058919bc9acc938e6af8bcd54912235e0e50e0428e0714", func := "loop.example/sumschool/laws.FnAfterDays", spec := "fnAfterDays", unfollowed := true, recurses := true, apart := false, narrowed := true }
def FnAfterDaysUptoSaid : Prop := fnAfterDaysUptoRow.holds Try.pinned (OpenSpec.upto fnAfterDaysSpec)

/-- 'laws.FnExactAfterDays', WHERE WHAT IT READS IS OF BULK AT MOST 1048576: true; the input reads as it did. -/
def fnExactAfterDaysUptoRow : OpenClaim := { program := "ytoedenmimcmkoaa", sum := "9769b33e96ce9f9846058919bc9acc938e6af8bcd54912235e0e50e0428e0714", func := "loop.example/sumschool/laws.FnExactAfterDays", spec := "fnExactAfterDays", unfollowed := true, recurses := true, apart := false, narrowed := true }
def FnExactAfterDaysUptoSaid : Prop := fnExactAfterDaysUptoRow.holds Try.pinned (OpenSpec.upto fnExactAfterDaysSpec)

/-- 'laws.FnExactMiddleMark', WHERE WHAT IT READS IS OF BULK AT MOST 1048576: true; the input reads as it did. -/
def fnExactMiddleMarkUptoRow : OpenClaim := { program := "ytoedenmimcmkoaa", sum := "9769b33e96ce9f9846058919bc9acc938e6af8bcd54912235e0e50e0428e0714", func := "loop.example/sumschool/laws.FnExactMiddleMark", spec := "fnExactMiddleMark", unfollowed := true, recurses := true, apart := false, narrowed := true }
def FnExactMiddleMarkUptoSaid : Prop := fnExactMiddleMarkUptoRow.holds Try.pinned (OpenSpec.upto fnExactMiddleMarkSpec)

/-- 'laws.FnExactListOf', WHERE WHAT IT READS IS OF BULK AT MOST 1048576: true; the input reads as it did. -/
def fnExactListOfUptoRow : OpenClaim := { program := "ytoedenmimcmkoaa", sum := "9769b33e96ce9f9846058919bc9acc938e6af8bcd54912235e0e50e0428e0714", func := "loop.example/sumschool/laws.FnExactListOf", spec := "fnExactListOf", unfollowed := true, recurses := true, apart := false, narrowed := true }
def FnExactListOfUptoSaid : Prop := fnExactListOfUptoRow.holds Try.pinned (OpenSpec.upto fnExactListOfSpec)

/-- 'laws.FnQuestionsUpTo', WHERE WHAT IT READS IS OF BULK AT MOST 1048576: true; the input reads as it did. -/
def fnQuestionsUpToUptoRow : OpenClaim := { program := "ytoedenmimcmkoaa", sum := "9769b33e96ce9f9846058919bc9acc938e6af8bcd54912235e0e50e0428e0714", func := "loop.example/sumschool/laws.FnQuestionsUpTo", spec := "fnQuestionsUpTo", unfollowed := true, recurses := true, apart := false, narrowed := true }
def FnQuestionsUpToUptoSaid : Prop := fnQuestionsUpToUptoRow.holds Try.pinned (OpenSpec.upto fnQuestionsUpToSpec)

/-- 'laws.FnMiddleMark', WHERE WHAT IT READS IS OF BULK AT MOST 1048576: true; the input reads as it did. -/
def fnMiddleMarkUptoRow : OpenClaim := { program := "ytoedenmimcmkoaa", sum := "9769b33e96ce9f9846058919bc9acc938e6af8bcd54912235e0e50e0428e0714", func := "loop.example/sumschool/laws.FnMiddleMark", spec := "fnMiddleMark", unfollowed := true, recurses := true, apart := false, narrowed := true }
def FnMiddleMarkUptoSaid : Prop := fnMiddleMarkUptoRow.holds Try.pinned (OpenSpec.upto fnMiddleMarkSpec)

/-- 'laws.FnListOf', WHERE WHAT IT READS IS OF BULK AT MOST 1048576: true; the input reads as it did. -/
def fnListOfUptoRow : OpenClaim := { program := "ytoedenmimcmkoaa", sum := "9769b33e96ce9f9846058919bc9acc938e6af8bcd54912235e0e50e0428e0714", func := "loop.example/sumschool/laws.FnListOf", spec := "fnListOf", unfollowed := true, recurses := true, apart := false, narrowed := true }
def FnListOfUptoSaid : Prop := fnListOfUptoRow.holds Try.pinned (OpenSpec.upto fnListOfSpec)

end Rows
end Go.Proofs.Ytoedenmimcmkoaa
