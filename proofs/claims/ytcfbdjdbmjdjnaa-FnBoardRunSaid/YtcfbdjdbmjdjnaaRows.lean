/-
  No cell of these rows narrows 'for every input' (looked for: loops, veiled, ifaces, maps, wideKeys, modest, calm, conditions, laid).
  DERIVED. THE GIVEN ROWS OF THIS SEAT. 7 by the template 'for every input the law returns true; each argument reads behind the call as it read before'; 0 by the template 'total and deterministic' (their statements: YtcfbdjdbmjdjnaaTotals.lean).
  GIVEN WITH THE SEED: the statements are not yours to turn. If you find one false, say at which input.
  Laid BY PROGRAM, IN A SANDBOX (cutbox-rows.mjs): the forced cells as the released guide's own fill.sh prints them over the translation bbf6d3f478da5f3e… (all of the seat's roots in one cut). By AI agents, Wed Nov 11 2026. No macro, syntax, notation, axiom, sorry.
-/
import Derived.Test.YtcfbdjdbmjdjnaaChecked
import GoSem.Claim
import GoSem.ClaimJoined
import GoSem.ClaimMapViews
import Derived.JoinedTies
import Derived.KernelRfl
namespace Go.Proofs.Ytcfbdjdbmjdjnaa
/- THE CELL 'sum', in the pinned program and in every row, IS THE sha256 OF THE DUMP (.gsa) THAT YtcfbdjdbmjdjnaaProg.lean LOADS. Nothing in Lean hashes anything: it is a label: what it is worth is what the hold of that sum in a sandbox is worth. -/
noncomputable def Try.pinned : Pinned := { name := "ytcfbdjdbmjdjnaa", sum := "bbf6d3f478da5f3ed9db25f9f7b057c97a6b8eb6ec029af5cb38e782dab689cc", checked := Try.checked }
namespace Rows
def none {H : Type} : Left H := { results := [], args := [] }

/-- 'laws.FnExactDeedText': WHATEVER THE INPUT: true; the input reads as it did. -/
def fnExactDeedTextSpec : ChangeSpec := { name := "fnExactDeedText", fn := fun _ => fun
  | [d] => { results := [.lit (.bool true)], args := [d] }
  | _ => none }
def fnExactDeedTextRow : OpenClaim := { program := "ytcfbdjdbmjdjnaa", sum := "bbf6d3f478da5f3ed9db25f9f7b057c97a6b8eb6ec029af5cb38e782dab689cc", func := "loop.example/sumschool/laws.FnExactDeedText", spec := "fnExactDeedText", apart := false }
def FnExactDeedTextSaid : Prop := fnExactDeedTextRow.holds Try.pinned (OpenSpec.ofChange fnExactDeedTextSpec)

/-- ITS FALSE NEIGHBOUR: 'it returns false'. Refute it at one input. -/
def fnExactDeedTextWrong : ChangeSpec := { name := "fnExactDeedText", fn := fun _ => fun
  | [d] => { results := [.lit (.bool false)], args := [d] }
  | _ => none }
def FnExactDeedTextWrongFalsely : Prop := fnExactDeedTextRow.holds Try.pinned (OpenSpec.ofChange fnExactDeedTextWrong)

/-- 'laws.FnExactBoardOk': WHATEVER THE INPUT: true; the input reads as it did. -/
def fnExactBoardOkSpec : ChangeSpec := { name := "fnExactBoardOk", fn := fun _ => fun
  | [d] => { results := [.lit (.bool true)], args := [d] }
  | _ => none }
def fnExactBoardOkRow : OpenClaim := { program := "ytcfbdjdbmjdjnaa", sum := "bbf6d3f478da5f3ed9db25f9f7b057c97a6b8eb6ec029af5cb38e782dab689cc", func := "loop.example/sumschool/laws.FnExactBoardOk", spec := "fnExactBoardOk", inPlace := ["internal/bytealg.abigen_runtime_cmpstring"], unfollowed := true, recurses := true, apart := false }
def FnExactBoardOkSaid : Prop := fnExactBoardOkRow.holds Try.pinned (OpenSpec.ofChange fnExactBoardOkSpec)

/-- ITS FALSE NEIGHBOUR: 'it returns false'. Refute it at one input. -/
def fnExactBoardOkWrong : ChangeSpec := { name := "fnExactBoardOk", fn := fun _ => fun
  | [d] => { results := [.lit (.bool false)], args := [d] }
  | _ => none }
def FnExactBoardOkWrongFalsely : Prop := fnExactBoardOkRow.holds Try.pinned (OpenSpec.ofChange fnExactBoardOkWrong)

/-- 'laws.FnExactJournalText': WHATEVER THE INPUT: true; the input reads as it did. -/
def fnExactJournalTextSpec : ChangeSpec := { name := "fnExactJournalText", fn := fun _ => fun
  | [d] => { results := [.lit (.bool true)], args := [d] }
  | _ => none }
def fnExactJournalTextRow : OpenClaim := { program := "ytcfbdjdbmjdjnaa", sum := "bbf6d3f478da5f3ed9db25f9f7b057c97a6b8eb6ec029af5cb38e782dab689cc", func := "loop.example/sumschool/laws.FnExactJournalText", spec := "fnExactJournalText", inPlace := ["internal/abi.NoEscape"], apart := false }
def FnExactJournalTextSaid : Prop := fnExactJournalTextRow.holds Try.pinned (OpenSpec.ofChange fnExactJournalTextSpec)

/-- ITS FALSE NEIGHBOUR: 'it returns false'. Refute it at one input. -/
def fnExactJournalTextWrong : ChangeSpec := { name := "fnExactJournalText", fn := fun _ => fun
  | [d] => { results := [.lit (.bool false)], args := [d] }
  | _ => none }
def FnExactJournalTextWrongFalsely : Prop := fnExactJournalTextRow.holds Try.pinned (OpenSpec.ofChange fnExactJournalTextWrong)

/-- 'laws.FnBoardOk': WHATEVER THE INPUT: true; the input reads as it did. -/
def fnBoardOkSpec : ChangeSpec := { name := "fnBoardOk", fn := fun _ => fun
  | [d] => { results := [.lit (.bool true)], args := [d] }
  | _ => none }
def fnBoardOkRow : OpenClaim := { program := "ytcfbdjdbmjdjnaa", sum := "bbf6d3f478da5f3ed9db25f9f7b057c97a6b8eb6ec029af5cb38e782dab689cc", func := "loop.example/sumschool/laws.FnBoardOk", spec := "fnBoardOk", inPlace := ["internal/bytealg.abigen_runtime_cmpstring"], unfollowed := true, recurses := true, apart := false }
def FnBoardOkSaid : Prop := fnBoardOkRow.holds Try.pinned (OpenSpec.ofChange fnBoardOkSpec)

/-- ITS FALSE NEIGHBOUR: 'it returns false'. Refute it at one input. -/
def fnBoardOkWrong : ChangeSpec := { name := "fnBoardOk", fn := fun _ => fun
  | [d] => { results := [.lit (.bool false)], args := [d] }
  | _ => none }
def FnBoardOkWrongFalsely : Prop := fnBoardOkRow.holds Try.pinned (OpenSpec.ofChange fnBoardOkWrong)

/-- 'laws.FnExactBoardDo': WHATEVER THE INPUT: true; the input reads as it did. -/
def fnExactBoardDoSpec : ChangeSpec := { name := "fnExactBoardDo", fn := fun _ => fun
  | [d1, d2] => { results := [.lit (.bool true)], args := [d1, d2] }
  | _ => none }
def fnExactBoardDoRow : OpenClaim := { program := "ytcfbdjdbmjdjnaa", sum := "bbf6d3f478da5f3ed9db25f9f7b057c97a6b8eb6ec029af5cb38e782dab689cc", func := "loop.example/sumschool/laws.FnExactBoardDo", spec := "fnExactBoardDo", inPlace := ["internal/bytealg.abigen_runtime_cmpstring"], unfollowed := true, recurses := true, apart := false }
def FnExactBoardDoSaid : Prop := fnExactBoardDoRow.holds Try.pinned (OpenSpec.ofChange fnExactBoardDoSpec)

/-- ITS FALSE NEIGHBOUR: 'it returns false'. Refute it at one input. -/
def fnExactBoardDoWrong : ChangeSpec := { name := "fnExactBoardDo", fn := fun _ => fun
  | [d1, d2] => { results := [.lit (.bool false)], args := [d1, d2] }
  | _ => none }
def FnExactBoardDoWrongFalsely : Prop := fnExactBoardDoRow.holds Try.pinned (OpenSpec.ofChange fnExactBoardDoWrong)

/-- 'laws.FnExactBoardRun': WHATEVER THE INPUT: true; the input reads as it did. -/
def fnExactBoardRunSpec : ChangeSpec := { name := "fnExactBoardRun", fn := fun _ => fun
  | [d1, d2] => { results := [.lit (.bool true)], args := [d1, d2] }
  | _ => none }
def fnExactBoardRunRow : OpenClaim := { program := "ytcfbdjdbmjdjnaa", sum := "bbf6d3f478da5f3ed9db25f9f7b057c97a6b8eb6ec029af5cb38e782dab689cc", func := "loop.example/sumschool/laws.FnExactBoardRun", spec := "fnExactBoardRun", inPlace := ["internal/bytealg.abigen_runtime_cmpstring"], unfollowed := true, recurses := true, apart := false }
def FnExactBoardRunSaid : Prop := fnExactBoardRunRow.holds Try.pinned (OpenSpec.ofChange fnExactBoardRunSpec)

/-- ITS FALSE NEIGHBOUR: 'it returns false'. Refute it at one input. -/
def fnExactBoardRunWrong : ChangeSpec := { name := "fnExactBoardRun", fn := fun _ => fun
  | [d1, d2] => { results := [.lit (.bool false)], args := [d1, d2] }
  | _ => none }
def FnExactBoardRunWrongFalsely : Prop := fnExactBoardRunRow.holds Try.pinned (OpenSpec.ofChange fnExactBoardRunWrong)

/-- 'laws.FnBoardRun': WHATEVER THE INPUT: true; the input reads as it did. -/
def fnBoardRunSpec : ChangeSpec := { name := "fnBoardRun", fn := fun _ => fun
  | [d] => { results := [.lit (.bool true)], args := [d] }
  | _ => none }
def fnBoardRunRow : OpenClaim := { program := "ytcfbdjdbmjdjnaa", sum := "bbf6d3f478da5f3ed9db25f9f7b057c97a6b8eb6ec029af5cb38e782dab689cc", func := "loop.example/sumschool/laws.FnBoardRun", spec := "fnBoardRun", inPlace := ["internal/bytealg.abigen_runtime_cmpstring"], unfollowed := true, recurses := true, apart := false }
def FnBoardRunSaid : Prop := fnBoardRunRow.holds Try.pinned (OpenSpec.ofChange fnBoardRunSpec)

/-- ITS FALSE NEIGHBOUR: 'it returns false'. Refute it at one input. -/
def fnBoardRunWrong : ChangeSpec := { name := "fnBoardRun", fn := fun _ => fun
  | [d] => { results := [.lit (.bool false)], args := [d] }
  | _ => none }
def FnBoardRunWrongFalsely : Prop := fnBoardRunRow.holds Try.pinned (OpenSpec.ofChange fnBoardRunWrong)

/- THE SECOND FORM. 'bulk': how many values and letters a reading holds, each counted each time it is reached (what is shared counts as often as it is met; a slice's spare places count too). A statement '..UptoSaid' is the law's where the arguments, and the package variables that the reading takes, are together of bulk at most 1048576: NARROWER than '..Said'. Prove '..Said' where nothing that the law and all that it calls make is longer than what came in: it says more and counts as full. Else prove '..UptoSaid'. A law counts once. -/
mutual
def uptoBulk {H : Type} : DataW H → Nat
  | .lit (.string bytes) => bytes.length + 1
  | .lit _ => 1
  | .nil => 1
  | .ptr d => uptoBulk d + 1
  | .slice elems spare => uptoBulkAll elems + uptoBulkAll spare + 1
  | .agg parts => uptoBulkAll parts + 1
  | .iface _ d => uptoBulk d + 1
  | .map entries => uptoBulkEntries entries + 1
  | .held _ => 1
def uptoBulkAll {H : Type} : List (DataW H) → Nat
  | [] => 0
  | d :: r => uptoBulk d + uptoBulkAll r
def uptoBulkEntries {H : Type} : List (Lit × DataW H) → Nat
  | [] => 0
  | x :: r => uptoBulkEntry x + uptoBulkEntries r
def uptoBulkEntry {H : Type} : Lit × DataW H → Nat
  | (.string bytes, d) => bytes.length + uptoBulk d + 1
  | (_, d) => uptoBulk d + 1
 end
def uptoSmall : (H : Type) → List (DataW H) → Bool := fun _ ds => decide (uptoBulkAll ds ≤ 1048576)
def OpenSpec.upto (s : _root_.Go.ChangeSpec) : _root_.Go.OpenSpec := { _root_.Go.OpenSpec.ofChange s with cond := some uptoSmall }

/-- 'laws.FnExactDeedText', WHERE WHAT IT READS IS OF BULK AT MOST 1048576: true; the input reads as it did. -/
def fnExactDeedTextUptoRow : OpenClaim := { program := "ytcfbdjdbmjdjnaa", sum := "bbf6d3f478da5f3ed9db25f9f7b057c97a6b8eb6ec029af5cb38e782dab689cc", func := "loop.example/sumschool/laws.FnExactDeedText", spec := "fnExactDeedText", apart := false, narrowed := true }
def FnExactDeedTextUptoSaid : Prop := fnExactDeedTextUptoRow.holds Try.pinned (OpenSpec.upto fnExactDeedTextSpec)

/-- 'laws.FnExactBoardOk', WHERE WHAT IT READS IS OF BULK AT MOST 1048576: true; the input reads as it did. -/
def fnExactBoardOkUptoRow : OpenClaim := { program := "ytcfbdjdbmjdjnaa", sum := "bbf6d3f478da5f3ed9db25f9f7b057c97a6b8eb6ec029af5cb38e782dab689cc", func := "loop.example/sumschool/laws.FnExactBoardOk", spec := "fnExactBoardOk", inPlace := ["internal/bytealg.abigen_runtime_cmpstring"], unfollowed := true, recurses := true, apart := false, narrowed := true }
def FnExactBoardOkUptoSaid : Prop := fnExactBoardOkUptoRow.holds Try.pinned (OpenSpec.upto fnExactBoardOkSpec)

/-- 'laws.FnExactJournalText', WHERE WHAT IT READS IS OF BULK AT MOST 1048576: true; the input reads as it did. -/
def fnExactJournalTextUptoRow : OpenClaim := { program := "ytcfbdjdbmjdjnaa", sum := "bbf6d3f478da5f3ed9db25f9f7b057c97a6b8eb6ec029af5cb38e782dab689cc", func := "loop.example/sumschool/laws.FnExactJournalText", spec := "fnExactJournalText", inPlace := ["internal/abi.NoEscape"], apart := false, narrowed := true }
def FnExactJournalTextUptoSaid : Prop := fnExactJournalTextUptoRow.holds Try.pinned (OpenSpec.upto fnExactJournalTextSpec)

/-- 'laws.FnBoardOk', WHERE WHAT IT READS IS OF BULK AT MOST 1048576: true; the input reads as it did. -/
def fnBoardOkUptoRow : OpenClaim := { program := "ytcfbdjdbmjdjnaa", sum := "bbf6d3f478da5f3ed9db25f9f7b057c97a6b8eb6ec029af5cb38e782dab689cc", func := "loop.example/sumschool/laws.FnBoardOk", spec := "fnBoardOk", inPlace := ["internal/bytealg.abigen_runtime_cmpstring"], unfollowed := true, recurses := true, apart := false, narrowed := true }
def FnBoardOkUptoSaid : Prop := fnBoardOkUptoRow.holds Try.pinned (OpenSpec.upto fnBoardOkSpec)

/-- 'laws.FnExactBoardDo', WHERE WHAT IT READS IS OF BULK AT MOST 1048576: true; the input reads as it did. -/
def fnExactBoardDoUptoRow : OpenClaim := { program := "ytcfbdjdbmjdjnaa", sum := "bbf6d3f478da5f3ed9db25f9f7b057c97a6b8eb6ec029af5cb38e782dab689cc", func := "loop.example/sumschool/laws.FnExactBoardDo", spec := "fnExactBoardDo", inPlace := ["internal/bytealg.abigen_runtime_cmpstring"], unfollowed := true, recurses := true, apart := false, narrowed := true }
def FnExactBoardDoUptoSaid : Prop := fnExactBoardDoUptoRow.holds Try.pinned (OpenSpec.upto fnExactBoardDoSpec)

/-- 'laws.FnExactBoardRun', WHERE WHAT IT READS IS OF BULK AT MOST 1048576: true; the input reads as it did. -/
def fnExactBoardRunUptoRow : OpenClaim := { program := "ytcfbdjdbmjdjnaa", sum := "bbf6d3f478da5f3ed9db25f9f7b057c97a6b8eb6ec029af5cb38e782dab689cc", func := "loop.example/sumschool/laws.FnExactBoardRun", spec := "fnExactBoardRun", inPlace := ["internal/bytealg.abigen_runtime_cmpstring"], unfollowed := true, recurses := true, apart := false, narrowed := true }
def FnExactBoardRunUptoSaid : Prop := fnExactBoardRunUptoRow.holds Try.pinned (OpenSpec.upto fnExactBoardRunSpec)

/-- 'laws.FnBoardRun', WHERE WHAT IT READS IS OF BULK AT MOST 1048576: true; the input reads as it did. -/
def fnBoardRunUptoRow : OpenClaim := { program := "ytcfbdjdbmjdjnaa", sum := "bbf6d3f478da5f3ed9db25f9f7b057c97a6b8eb6ec029af5cb38e782dab689cc", func := "loop.example/sumschool/laws.FnBoardRun", spec := "fnBoardRun", inPlace := ["internal/bytealg.abigen_runtime_cmpstring"], unfollowed := true, recurses := true, apart := false, narrowed := true }
def FnBoardRunUptoSaid : Prop := fnBoardRunUptoRow.holds Try.pinned (OpenSpec.upto fnBoardRunSpec)

end Rows
end Go.Proofs.Ytcfbdjdbmjdjnaa
