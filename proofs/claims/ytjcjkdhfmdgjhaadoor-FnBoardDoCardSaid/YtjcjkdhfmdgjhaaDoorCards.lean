/-
  DERIVED. GIVEN WITH THE SEED: THE CARDS: each row of YtjcjkdhfmdgjhaaDoorRows.lean that lists a variable, with what it lists TIED to the program's text (the seventh form; the later family's looks); each row that meets fmt, with fmt's text TOLD by the authors' own Lean function (tested against real Go, not proved from fmt's source: count such statements apart). THE CARD IS WHAT COUNTS. Prove the row's statement (the work); the ties are given (YtjcjkdhfmdgjhaaDoorTie.lean); close each card by the builder's one call (the guide's Derived/Test/ToyasCard.lean, 'card_holds'). Laid BY PROGRAM, IN A SANDBOX (cutbox-door.mjs). By AI agents, Wed Nov 11 2026. No macro, syntax, notation, axiom, sorry.
-/
import Derived.Test.YtjcjkdhfmdgjhaaDoorRows
import GoSem.ClaimSeven
namespace Go.Proofs.YtjcjkdhfmdgjhaaDoor
namespace Rows

/-- THE TIED CARD OF 'laws.FnBoardDo'. -/
def fnBoardDoCard : Claim7 := { stood := { row := fnBoardDoRow, standIns := [], harness := (true, "1cfca63f50de4a5d0cc8119971a556cfc5f626fbdf729ebc99d8769f6b002fa9"), looks := false }, kinds := [], alts := [], laidByText := true, laidKinds := [.data, .data, .data, .data, .pinned], laidTests := true, laidLooks := .later }
def FnBoardDoCardSaid : Prop := Claim7.holds Tryd.pinned (.plain (OpenSpec.ofChange fnBoardDoSpec)) fnBoardDoCard

/-- THE SECOND FORM's CARD OF 'laws.FnBoardDo'. -/
def fnBoardDoUptoCard : Claim7 := { stood := { row := fnBoardDoUptoRow, standIns := [], harness := (true, "1cfca63f50de4a5d0cc8119971a556cfc5f626fbdf729ebc99d8769f6b002fa9"), looks := false }, kinds := [], alts := [], laidByText := true, laidKinds := [.data, .data, .data, .data, .pinned], laidTests := true, laidLooks := .later }
def FnBoardDoUptoCardSaid : Prop := Claim7.holds Tryd.pinned (.plain (OpenSpec.upto fnBoardDoSpec)) fnBoardDoUptoCard
end Rows
end Go.Proofs.YtjcjkdhfmdgjhaaDoor
