/-
  No cell of these rows narrows 'for every input' (looked for: loops, veiled, ifaces, maps, wideKeys, modest, calm, conditions, laid).
  DERIVED. THE GIVEN ROWS OF THIS SEAT. 12 by the template 'for every input the law returns true; each argument reads behind the call as it read before'; 0 by the template 'total and deterministic' (their statements: YthlkeblnkfmilaaTotals.lean).
  GIVEN WITH THE SEED: the statements are not yours to turn. If you find one false, say at which input.
  Laid BY PROGRAM, IN A SANDBOX (cutbox-rows.mjs): the forced cells as the released guide's own fill.sh prints them over the translation 7c97821d9c51eac6… (all of the seat's roots in one cut). By AI agents, Wed Nov 11 2026. No macro, syntax, notation, axiom, sorry.
-/
import Derived.Test.YthlkeblnkfmilaaChecked
import GoSem.Claim
import GoSem.ClaimJoined
import GoSem.ClaimMapViews
import Derived.JoinedTies
import Derived.KernelRfl
namespace Go.Proofs.Ythlkeblnkfmilaa
/- THE CELL 'sum', in the pinned program and in every row, IS THE sha256 OF THE DUMP (.gsa) THAT YthlkeblnkfmilaaProg.lean LOADS. Nothing in Lean hashes anything: it is a label: what it is worth is what the hold of that sum in a sandbox is worth. -/
noncomputable def Try.pinned : Pinned := { name := "ythlkeblnkfmilaa", sum := "7c97821d9c51eac6d31bcc20460c4232f921e3ba8c85b5ec646d77c59f817d40", checked := Try.checked }
namespace Rows
def none {H : Type} : Left H := { results := [], args := [] }

/-- 'laws.FnWaitOf': WHATEVER THE INPUT: true; the input reads as it did. -/
def fnWaitOfSpec : ChangeSpec := { name := "fnWaitOf", fn := fun _ => fun
  | [d] => { results := [.lit (.bool true)], args := [d] }
  | _ => none }
def fnWaitOfRow : OpenClaim := { program := "ythlkeblnkfmilaa", sum := "7c97821d9c51eac6d31bcc20460c4232f921e3ba8c85b5ec646d77c59f817d40", func := "loop.example/sumschool/laws.FnWaitOf", spec := "fnWaitOf", apart := false }
def FnWaitOfSaid : Prop := fnWaitOfRow.holds Try.pinned (OpenSpec.ofChange fnWaitOfSpec)

/-- ITS FALSE NEIGHBOUR: 'it returns false'. Refute it at one input. -/
def fnWaitOfWrong : ChangeSpec := { name := "fnWaitOf", fn := fun _ => fun
  | [d] => { results := [.lit (.bool false)], args := [d] }
  | _ => none }
def FnWaitOfWrongFalsely : Prop := fnWaitOfRow.holds Try.pinned (OpenSpec.ofChange fnWaitOfWrong)

/-- 'laws.FnExactDeckOk': WHATEVER THE INPUT: true; the input reads as it did. -/
def fnExactDeckOkSpec : ChangeSpec := { name := "fnExactDeckOk", fn := fun _ => fun
  | [d] => { results := [.lit (.bool true)], args := [d] }
  | _ => none }
def fnExactDeckOkRow : OpenClaim := { program := "ythlkeblnkfmilaa", sum := "7c97821d9c51eac6d31bcc20460c4232f921e3ba8c85b5ec646d77c59f817d40", func := "loop.example/sumschool/laws.FnExactDeckOk", spec := "fnExactDeckOk", unfollowed := true, recurses := true, apart := false }
def FnExactDeckOkSaid : Prop := fnExactDeckOkRow.holds Try.pinned (OpenSpec.ofChange fnExactDeckOkSpec)

/-- ITS FALSE NEIGHBOUR: 'it returns false'. Refute it at one input. -/
def fnExactDeckOkWrong : ChangeSpec := { name := "fnExactDeckOk", fn := fun _ => fun
  | [d] => { results := [.lit (.bool false)], args := [d] }
  | _ => none }
def FnExactDeckOkWrongFalsely : Prop := fnExactDeckOkRow.holds Try.pinned (OpenSpec.ofChange fnExactDeckOkWrong)

/-- 'laws.FnDeckOk': WHATEVER THE INPUT: true; the input reads as it did. -/
def fnDeckOkSpec : ChangeSpec := { name := "fnDeckOk", fn := fun _ => fun
  | [d] => { results := [.lit (.bool true)], args := [d] }
  | _ => none }
def fnDeckOkRow : OpenClaim := { program := "ythlkeblnkfmilaa", sum := "7c97821d9c51eac6d31bcc20460c4232f921e3ba8c85b5ec646d77c59f817d40", func := "loop.example/sumschool/laws.FnDeckOk", spec := "fnDeckOk", unfollowed := true, recurses := true, apart := false }
def FnDeckOkSaid : Prop := fnDeckOkRow.holds Try.pinned (OpenSpec.ofChange fnDeckOkSpec)

/-- ITS FALSE NEIGHBOUR: 'it returns false'. Refute it at one input. -/
def fnDeckOkWrong : ChangeSpec := { name := "fnDeckOk", fn := fun _ => fun
  | [d] => { results := [.lit (.bool false)], args := [d] }
  | _ => none }
def FnDeckOkWrongFalsely : Prop := fnDeckOkRow.holds Try.pinned (OpenSpec.ofChange fnDeckOkWrong)

/-- 'laws.FnExactDeckNew': WHATEVER THE INPUT: true; the input reads as it did. -/
def fnExactDeckNewSpec : ChangeSpec := { name := "fnExactDeckNew", fn := fun _ => fun
  | [d] => { results := [.lit (.bool true)], args := [d] }
  | _ => none }
def fnExactDeckNewRow : OpenClaim := { program := "ythlkeblnkfmilaa", sum := "7c97821d9c51eac6d31bcc20460c4232f921e3ba8c85b5ec646d77c59f817d40", func := "loop.example/sumschool/laws.FnExactDeckNew", spec := "fnExactDeckNew", apart := false }
def FnExactDeckNewSaid : Prop := fnExactDeckNewRow.holds Try.pinned (OpenSpec.ofChange fnExactDeckNewSpec)

/-- ITS FALSE NEIGHBOUR: 'it returns false'. Refute it at one input. -/
def fnExactDeckNewWrong : ChangeSpec := { name := "fnExactDeckNew", fn := fun _ => fun
  | [d] => { results := [.lit (.bool false)], args := [d] }
  | _ => none }
def FnExactDeckNewWrongFalsely : Prop := fnExactDeckNewRow.holds Try.pinned (OpenSpec.ofChange fnExactDeckNewWrong)

/-- 'laws.FnInBoxes': WHATEVER THE INPUT: true; the input reads as it did. -/
def fnInBoxesSpec : ChangeSpec := { name := "fnInBoxes", fn := fun _ => fun
  | [d] => { results := [.lit (.bool true)], args := [d] }
  | _ => none }
def fnInBoxesRow : OpenClaim := { program := "ythlkeblnkfmilaa", sum := "7c97821d9c51eac6d31bcc20460c4232f921e3ba8c85b5ec646d77c59f817d40", func := "loop.example/sumschool/laws.FnInBoxes", spec := "fnInBoxes", unfollowed := true, recurses := true, apart := false }
def FnInBoxesSaid : Prop := fnInBoxesRow.holds Try.pinned (OpenSpec.ofChange fnInBoxesSpec)

/-- ITS FALSE NEIGHBOUR: 'it returns false'. Refute it at one input. -/
def fnInBoxesWrong : ChangeSpec := { name := "fnInBoxes", fn := fun _ => fun
  | [d] => { results := [.lit (.bool false)], args := [d] }
  | _ => none }
def FnInBoxesWrongFalsely : Prop := fnInBoxesRow.holds Try.pinned (OpenSpec.ofChange fnInBoxesWrong)

/-- 'laws.FnExactInBoxes': WHATEVER THE INPUT: true; the input reads as it did. -/
def fnExactInBoxesSpec : ChangeSpec := { name := "fnExactInBoxes", fn := fun _ => fun
  | [d] => { results := [.lit (.bool true)], args := [d] }
  | _ => none }
def fnExactInBoxesRow : OpenClaim := { program := "ythlkeblnkfmilaa", sum := "7c97821d9c51eac6d31bcc20460c4232f921e3ba8c85b5ec646d77c59f817d40", func := "loop.example/sumschool/laws.FnExactInBoxes", spec := "fnExactInBoxes", unfollowed := true, recurses := true, apart := false }
def FnExactInBoxesSaid : Prop := fnExactInBoxesRow.holds Try.pinned (OpenSpec.ofChange fnExactInBoxesSpec)

/-- ITS FALSE NEIGHBOUR: 'it returns false'. Refute it at one input. -/
def fnExactInBoxesWrong : ChangeSpec := { name := "fnExactInBoxes", fn := fun _ => fun
  | [d] => { results := [.lit (.bool false)], args := [d] }
  | _ => none }
def FnExactInBoxesWrongFalsely : Prop := fnExactInBoxesRow.holds Try.pinned (OpenSpec.ofChange fnExactInBoxesWrong)

/-- 'laws.FnExactDueOn': WHATEVER THE INPUT: true; the input reads as it did. -/
def fnExactDueOnSpec : ChangeSpec := { name := "fnExactDueOn", fn := fun _ => fun
  | [d1, d2] => { results := [.lit (.bool true)], args := [d1, d2] }
  | _ => none }
def fnExactDueOnRow : OpenClaim := { program := "ythlkeblnkfmilaa", sum := "7c97821d9c51eac6d31bcc20460c4232f921e3ba8c85b5ec646d77c59f817d40", func := "loop.example/sumschool/laws.FnExactDueOn", spec := "fnExactDueOn", unfollowed := true, recurses := true, apart := false }
def FnExactDueOnSaid : Prop := fnExactDueOnRow.holds Try.pinned (OpenSpec.ofChange fnExactDueOnSpec)

/-- ITS FALSE NEIGHBOUR: 'it returns false'. Refute it at one input. -/
def fnExactDueOnWrong : ChangeSpec := { name := "fnExactDueOn", fn := fun _ => fun
  | [d1, d2] => { results := [.lit (.bool false)], args := [d1, d2] }
  | _ => none }
def FnExactDueOnWrongFalsely : Prop := fnExactDueOnRow.holds Try.pinned (OpenSpec.ofChange fnExactDueOnWrong)

/-- 'laws.FnDueOn': WHATEVER THE INPUT: true; the input reads as it did. -/
def fnDueOnSpec : ChangeSpec := { name := "fnDueOn", fn := fun _ => fun
  | [d] => { results := [.lit (.bool true)], args := [d] }
  | _ => none }
def fnDueOnRow : OpenClaim := { program := "ythlkeblnkfmilaa", sum := "7c97821d9c51eac6d31bcc20460c4232f921e3ba8c85b5ec646d77c59f817d40", func := "loop.example/sumschool/laws.FnDueOn", spec := "fnDueOn", unfollowed := true, recurses := true, apart := false }
def FnDueOnSaid : Prop := fnDueOnRow.holds Try.pinned (OpenSpec.ofChange fnDueOnSpec)

/-- ITS FALSE NEIGHBOUR: 'it returns false'. Refute it at one input. -/
def fnDueOnWrong : ChangeSpec := { name := "fnDueOn", fn := fun _ => fun
  | [d] => { results := [.lit (.bool false)], args := [d] }
  | _ => none }
def FnDueOnWrongFalsely : Prop := fnDueOnRow.holds Try.pinned (OpenSpec.ofChange fnDueOnWrong)

/-- 'laws.FnDeckNew': WHATEVER THE INPUT: true; the input reads as it did. -/
def fnDeckNewSpec : ChangeSpec := { name := "fnDeckNew", fn := fun _ => fun
  | [d] => { results := [.lit (.bool true)], args := [d] }
  | _ => none }
def fnDeckNewRow : OpenClaim := { program := "ythlkeblnkfmilaa", sum := "7c97821d9c51eac6d31bcc20460c4232f921e3ba8c85b5ec646d77c59f817d40", func := "loop.example/sumschool/laws.FnDeckNew", spec := "fnDeckNew", unfollowed := true, recurses := true, apart := false }
def FnDeckNewSaid : Prop := fnDeckNewRow.holds Try.pinned (OpenSpec.ofChange fnDeckNewSpec)

/-- ITS FALSE NEIGHBOUR: 'it returns false'. Refute it at one input. -/
def fnDeckNewWrong : ChangeSpec := { name := "fnDeckNew", fn := fun _ => fun
  | [d] => { results := [.lit (.bool false)], args := [d] }
  | _ => none }
def FnDeckNewWrongFalsely : Prop := fnDeckNewRow.holds Try.pinned (OpenSpec.ofChange fnDeckNewWrong)

/-- 'laws.FnAfterDay': WHATEVER THE INPUT: true; the input reads as it did. -/
def fnAfterDaySpec : ChangeSpec := { name := "fnAfterDay", fn := fun _ => fun
  | [d] => { results := [.lit (.bool true)], args := [d] }
  | _ => none }
def fnAfterDayRow : OpenClaim := { program := "ythlkeblnkfmilaa", sum := "7c97821d9c51eac6d31bcc20460c4232f921e3ba8c85b5ec646d77c59f817d40", func := "loop.example/sumschool/laws.FnAfterDay", spec := "fnAfterDay", unfollowed := true, recurses := true, apart := false }
def FnAfterDaySaid : Prop := fnAfterDayRow.holds Try.pinned (OpenSpec.ofChange fnAfterDaySpec)

/-- ITS FALSE NEIGHBOUR: 'it returns false'. Refute it at one input. -/
def fnAfterDayWrong : ChangeSpec := { name := "fnAfterDay", fn := fun _ => fun
  | [d] => { results := [.lit (.bool false)], args := [d] }
  | _ => none }
def FnAfterDayWrongFalsely : Prop := fnAfterDayRow.holds Try.pinned (OpenSpec.ofChange fnAfterDayWrong)

/-- 'laws.FnExactAfterDay': WHATEVER THE INPUT: true; the input reads as it did. -/
def fnExactAfterDaySpec : ChangeSpec := { name := "fnExactAfterDay", fn := fun _ => fun
  | [d1, d2, d3] => { results := [.lit (.bool true)], args := [d1, d2, d3] }
  | _ => none }
def fnExactAfterDayRow : OpenClaim := { program := "ythlkeblnkfmilaa", sum := "7c97821d9c51eac6d31bcc20460c4232f921e3ba8c85b5ec646d77c59f817d40", func := "loop.example/sumschool/laws.FnExactAfterDay", spec := "fnExactAfterDay", unfollowed := true, recurses := true, apart := false }
def FnExactAfterDaySaid : Prop := fnExactAfterDayRow.holds Try.pinned (OpenSpec.ofChange fnExactAfterDaySpec)

/-- ITS FALSE NEIGHBOUR: 'it returns false'. Refute it at one input. -/
def fnExactAfterDayWrong : ChangeSpec := { name := "fnExactAfterDay", fn := fun _ => fun
  | [d1, d2, d3] => { results := [.lit (.bool false)], args := [d1, d2, d3] }
  | _ => none }
def FnExactAfterDayWrongFalsely : Prop := fnExactAfterDayRow.holds Try.pinned (OpenSpec.ofChange fnExactAfterDayWrong)

/-- 'laws.FnExactQuestionsUpTo': WHATEVER THE INPUT: true; the input reads as it did. -/
def fnExactQuestionsUpToSpec : ChangeSpec := { name := "fnExactQuestionsUpTo", fn := fun _ => fun
  | [d1, d2] => { results := [.lit (.bool true)], args := [d1, d2] }
  | _ => none }
def fnExactQuestionsUpToRow : OpenClaim := { program := "ythlkeblnkfmilaa", sum := "7c97821d9c51eac6d31bcc20460c4232f921e3ba8c85b5ec646d77c59f817d40", func := "loop.example/sumschool/laws.FnExactQuestionsUpTo", spec := "fnExactQuestionsUpTo", unfollowed := true, recurses := true, apart := false }
def FnExactQuestionsUpToSaid : Prop := fnExactQuestionsUpToRow.holds Try.pinned (OpenSpec.ofChange fnExactQuestionsUpToSpec)

/-- ITS FALSE NEIGHBOUR: 'it returns false'. Refute it at one input. -/
def fnExactQuestionsUpToWrong : ChangeSpec := { name := "fnExactQuestionsUpTo", fn := fun _ => fun
  | [d1, d2] => { results := [.lit (.bool false)], args := [d1, d2] }
  | _ => none }
def FnExactQuestionsUpToWrongFalsely : Prop := fnExactQuestionsUpToRow.holds Try.pinned (OpenSpec.ofChange fnExactQuestionsUpToWrong)

/- THE SECOND FORM. 'bulk': how many values and letters a reading holds, each counted each time it is reached (what is shared counts as often as it is met; a slice's spare places count too). A statement '..UptoSaid' is the law's where the arguments, and the package variables that the reading takes, are together of bulk at most 1048576: NARROWER than '..Said'. Prove '..Said' where nothing that the law and all that it calls make is longer than what came in: it says more and counts as full. Else prove '..UptoSaid'. A law counts once. -/
mutual
def uptoBulk {H : Type} : DataW H → Nat
  | .lit (.string bytes) => bytes.length + 1
  | .lit _ => 1
  | .nil => 1
  | .ptr d => uptoBulk d + 1
  | .slice elems spare => uptoBulkAll elems + uptoBulkAll spare + 1
  | .agg parts => uptoBulkAll parts + 1
  | .iface _ d => uptoBulk d + 1
  | .map entries => uptoBulkEntries entries + 1
  | .held _ => 1
def uptoBulkAll {H : Type} : List (DataW H) → Nat
  | [] => 0
  | d :: r => uptoBulk d + uptoBulkAll r
def uptoBulkEntries {H : Type} : List (Lit × DataW H) → Nat
  | [] => 0
  | x :: r => uptoBulkEntry x + uptoBulkEntries r
def uptoBulkEntry {H : Type} : Lit × DataW H → Nat
  | (.string bytes, d) => bytes.length + uptoBulk d + 1
  | (_, d) => uptoBulk d + 1
 end
def uptoSmall : (H : Type) → List (DataW H) → Bool := fun _ ds => decide (uptoBulkAll ds ≤ 1048576)
def OpenSpec.upto (s : _root_.Go.ChangeSpec) : _root_.Go.OpenSpec := { _root_.Go.OpenSpec.ofChange s with cond := some uptoSmall }

/-- 'laws.FnWaitOf', WHERE WHAT IT READS IS OF BULK AT MOST 1048576: true; the input reads as it did. -/
def fnWaitOfUptoRow : OpenClaim := { program := "ythlkeblnkfmilaa", sum := "7c97821d9c51eac6d31bcc20460c4232f921e3ba8c85b5ec646d77c59f817d40", func := "loop.example/sumschool/laws.FnWaitOf", spec := "fnWaitOf", apart := false, narrowed := true }
def FnWaitOfUptoSaid : Prop := fnWaitOfUptoRow.holds Try.pinned (OpenSpec.upto fnWaitOfSpec)

/-- 'laws.FnExactDeckOk', WHERE WHAT IT READS IS OF BULK AT MOST 1048576: true; the input reads as it did. -/
def fnExactDeckOkUptoRow : OpenClaim := { program := "ythlkeblnkfmilaa", sum := "7c97821d9c51eac6d31bcc20460c4232f921e3ba8c85b5ec646d77c59f817d40", func := "loop.example/sumschool/laws.FnExactDeckOk", spec := "fnExactDeckOk", unfollowed := true, recurses := true, apart := false, narrowed := true }
def FnExactDeckOkUptoSaid : Prop := fnExactDeckOkUptoRow.holds Try.pinned (OpenSpec.upto fnExactDeckOkSpec)

/-- 'laws.FnDeckOk', WHERE WHAT IT READS IS OF BULK AT MOST 1048576: true; the input reads as it did. -/
def fnDeckOkUptoRow : OpenClaim := { program := "ythlkeblnkfmilaa", sum := "7c97821d9c51eac6d31bcc20460c4232f921e3ba8c85b5ec646d77c59f817d40", func := "loop.example/sumschool/laws.FnDeckOk", spec := "fnDeckOk", unfollowed := true, recurses := true, apart := false, narrowed := true }
def FnDeckOkUptoSaid : Prop := fnDeckOkUptoRow.holds Try.pinned (OpenSpec.upto fnDeckOkSpec)

/-- 'laws.FnExactDeckNew', WHERE WHAT IT READS IS OF BULK AT MOST 1048576: true; the input reads as it did. -/
def fnExactDeckNewUptoRow : OpenClaim := { program := "ythlkeblnkfmilaa", sum := "7c97821d9c51eac6d31bcc20460c4232f921e3ba8c85b5ec646d77c59f817d40", func := "loop.example/sumschool/laws.FnExactDeckNew", spec := "fnExactDeckNew", apart := false, narrowed := true }
def FnExactDeckNewUptoSaid : Prop := fnExactDeckNewUptoRow.holds Try.pinned (OpenSpec.upto fnExactDeckNewSpec)

/-- 'laws.FnInBoxes', WHERE WHAT IT READS IS OF BULK AT MOST 1048576: true; the input reads as it did. -/
def fnInBoxesUptoRow : OpenClaim := { program := "ythlkeblnkfmilaa", sum := "7c97821d9c51eac6d31bcc20460c4232f921e3ba8c85b5ec646d77c59f817d40", func := "loop.example/sumschool/laws.FnInBoxes", spec := "fnInBoxes", unfollowed := true, recurses := true, apart := false, narrowed := true }
def FnInBoxesUptoSaid : Prop := fnInBoxesUptoRow.holds Try.pinned (OpenSpec.upto fnInBoxesSpec)

/-- 'laws.FnExactInBoxes', WHERE WHAT IT READS IS OF BULK AT MOST 1048576: true; the input reads as it did. -/
def fnExactInBoxesUptoRow : OpenClaim := { program := "ythlkeblnkfmilaa", sum := "7c97821d9c51eac6d31bcc20460c4232f921e3ba8c85b5ec646d77c59f817d40", func := "loop.example/sumschool/laws.FnExactInBoxes", spec := "fnExactInBoxes", unfollowed := true, recurses := true, apart := false, narrowed := true }
def FnExactInBoxesUptoSaid : Prop := fnExactInBoxesUptoRow.holds Try.pinned (OpenSpec.upto fnExactInBoxesSpec)

/-- 'laws.FnExactDueOn', WHERE WHAT IT READS IS OF BULK AT MOST 1048576: true; the input reads as it did. -/
def fnExactDueOnUptoRow : OpenClaim := { program := "ythlkeblnkfmilaa", sum := "7c97821d9c51eac6d31bcc20460c4232f921e3ba8c85b5ec646d77c59f817d40", func := "loop.example/sumschool/laws.FnExactDueOn", spec := "fnExactDueOn", unfollowed := true, recurses := true, apart := false, narrowed := true }
def FnExactDueOnUptoSaid : Prop := fnExactDueOnUptoRow.holds Try.pinned (OpenSpec.upto fnExactDueOnSpec)

/-- 'laws.FnDueOn', WHERE WHAT IT READS IS OF BULK AT MOST 1048576: true; the input reads as it did. -/
def fnDueOnUptoRow : OpenClaim := { program := "ythlkeblnkfmilaa", sum := "7c97821d9c51eac6d31bcc20460c4232f921e3ba8c85b5ec646d77c59f817d40", func := "loop.example/sumschool/laws.FnDueOn", spec := "fnDueOn", unfollowed := true, recurses := true, apart := false, narrowed := true }
def FnDueOnUptoSaid : Prop := fnDueOnUptoRow.holds Try.pinned (OpenSpec.upto fnDueOnSpec)

/-- 'laws.FnDeckNew', WHERE WHAT IT READS IS OF BULK AT MOST 1048576: true; the input reads as it did. -/
def fnDeckNewUptoRow : OpenClaim := { program := "ythlkeblnkfmilaa", sum := "7c97821d9c51eac6d31bcc20460c4232f921e3ba8c85b5ec646d77c59f817d40", func := "loop.example/sumschool/laws.FnDeckNew", spec := "fnDeckNew", unfollowed := true, recurses := true, apart := false, narrowed := true }
def FnDeckNewUptoSaid : Prop := fnDeckNewUptoRow.holds Try.pinned (OpenSpec.upto fnDeckNewSpec)

/-- 'laws.FnAfterDay', WHERE WHAT IT READS IS OF BULK AT MOST 1048576: true; the input reads as it did. -/
def fnAfterDayUptoRow : OpenClaim := { program := "ythlkeblnkfmilaa", sum := "7c97821d9c51eac6d31bcc20460c4232f921e3ba8c85b5ec646d77c59f817d40", func := "loop.example/sumschool/laws.FnAfterDay", spec := "fnAfterDay", unfollowed := true, recurses := true, apart := false, narrowed := true }
def FnAfterDayUptoSaid : Prop := fnAfterDayUptoRow.holds Try.pinned (OpenSpec.upto fnAfterDaySpec)

/-- 'laws.FnExactAfterDay', WHERE WHAT IT READS IS OF BULK AT MOST 1048576: true; the input reads as it did. -/
def fnExactAfterDayUptoRow : OpenClaim := { program := "ythlkeblnkfmilaa", sum := "7c97821d9c51eac6d31bcc20460c4232f921e3ba8c85b5ec646d77c59f817d40", func := "loop.example/sumschool/laws.FnExactAfterDay", spec := "fnExactAfterDay", unfollowed := true, recurses := true, apart := false, narrowed := true }
def FnExactAfterDayUptoSaid : Prop := fnExactAfterDayUptoRow.holds Try.pinned (OpenSpec.upto fnExactAfterDaySpec)

/-- 'laws.FnExactQuestionsUpTo', WHERE WHAT IT READS IS OF BULK AT MOST 1048576: true; the input reads as it did. -/
def fnExactQuestionsUpToUptoRow : OpenClaim := { program := "ythlkeblnkfmilaa", sum := "7c97821d9c51eac6d31bcc20460c4232f921e3ba8c85b5ec646d77c59f817d40", func := "loop.example/sumschool/laws.FnExactQuestionsUpTo", spec := "fnExactQuestionsUpTo", unfollowed := true, recurses := true, apart := false, narrowed := true }
def FnExactQuestionsUpToUptoSaid : Prop := fnExactQuestionsUpToUptoRow.holds Try.pinned (OpenSpec.upto fnExactQuestionsUpToSpec)

end Rows
end Go.Proofs.Ythlkeblnkfmilaa
