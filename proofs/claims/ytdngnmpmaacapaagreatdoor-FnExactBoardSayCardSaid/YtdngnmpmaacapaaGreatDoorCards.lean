/-
  DERIVED. GIVEN WITH THE SEED: THE CARDS: each row of YtdngnmpmaacapaaGreatDoorRows.lean that lists a variable, with what it lists TIED to the program's text (the seventh form; the later family's looks); each row that meets fmt, with fmt's text TOLD by the authors' own Lean function (tested against real Go, not proved from fmt's source: count such statements apart). THE CARD IS WHAT COUNTS. Prove the row's statement (the work); the ties are given (YtdngnmpmaacapaaGreatDoorTie.lean); close each card by the builder's one call (the guide's Derived/Test/ToyasCard.lean, 'card_holds'). Laid BY PROGRAM, IN A SANDBOX (cutbox-door.mjs). By AI agents, Wed Nov 11 2026. No macro, syntax, notation, axiom, sorry.
-/
import Derived.Test.YtdngnmpmaacapaaGreatDoorRows
import GoSem.ClaimSeven
namespace Go.Proofs.YtdngnmpmaacapaaGreatDoor
namespace Rows

/-- THE TIED CARD OF 'laws.FnBoardLine'. -/
def fnBoardLineCard : Claim7 := { stood := { row := fnBoardLineRow, standIns := [], harness := (true, "a3e826ac300a5c3f1f0ad601bb0c6d6a29d07eae781334a56e88df55ac94c665"), looks := true }, kinds := [], alts := [], laidByText := true, laidKinds := [.data, .data, .data, .data, .sentinel, .sentinel, .pinned], laidTests := true, laidLooks := .later }
def FnBoardLineCardSaid : Prop := Claim7.holds Tryz.pinned (.plain (OpenSpec.ofChange fnBoardLineSpec)) fnBoardLineCard

/-- THE TIED CARD OF 'laws.FnExactBoardSay'. -/
def fnExactBoardSayCard : Claim7 := { stood := { row := fnExactBoardSayRow, standIns := [], harness := (true, "a3e826ac300a5c3f1f0ad601bb0c6d6a29d07eae781334a56e88df55ac94c665"), looks := true }, kinds := [], alts := [], laidByText := true, laidKinds := [.data, .data, .data, .data, .sentinel, .sentinel, .pinned], laidTests := true, laidLooks := .later }
def FnExactBoardSayCardSaid : Prop := Claim7.holds Tryz.pinned (.plain (OpenSpec.ofChange fnExactBoardSaySpec)) fnExactBoardSayCard

/-- THE TIED CARD OF 'laws.FnBoardSay'. -/
def fnBoardSayCard : Claim7 := { stood := { row := fnBoardSayRow, standIns := [], harness := (true, "a3e826ac300a5c3f1f0ad601bb0c6d6a29d07eae781334a56e88df55ac94c665"), looks := true }, kinds := [], alts := [], laidByText := true, laidKinds := [.data, .data, .data, .data, .sentinel, .sentinel, .pinned], laidTests := true, laidLooks := .later }
def FnBoardSayCardSaid : Prop := Claim7.holds Tryz.pinned (.plain (OpenSpec.ofChange fnBoardSaySpec)) fnBoardSayCard

/-- THE TIED CARD OF 'laws.FnReadJournal'. -/
def fnReadJournalCard : Claim7 := { stood := { row := fnReadJournalRow, standIns := [], harness := (true, "a3e826ac300a5c3f1f0ad601bb0c6d6a29d07eae781334a56e88df55ac94c665"), looks := true }, kinds := [], alts := [], laidByText := true, laidKinds := [.data, .data, .data, .data, .sentinel, .sentinel, .pinned], laidTests := true, laidLooks := .later }
def FnReadJournalCardSaid : Prop := Claim7.holds Tryz.pinned (.plain (OpenSpec.ofChange fnReadJournalSpec)) fnReadJournalCard

/-- THE TIED CARD OF 'laws.FnExactBoardLine'. -/
def fnExactBoardLineCard : Claim7 := { stood := { row := fnExactBoardLineRow, standIns := [], harness := (true, "a3e826ac300a5c3f1f0ad601bb0c6d6a29d07eae781334a56e88df55ac94c665"), looks := true }, kinds := [], alts := [], laidByText := true, laidKinds := [.data, .data, .data, .data, .sentinel, .sentinel, .pinned], laidTests := true, laidLooks := .later }
def FnExactBoardLineCardSaid : Prop := Claim7.holds Tryz.pinned (.plain (OpenSpec.ofChange fnExactBoardLineSpec)) fnExactBoardLineCard

/-- THE SECOND FORM's CARD OF 'laws.FnBoardLine'. -/
def fnBoardLineUptoCard : Claim7 := { stood := { row := fnBoardLineUptoRow, standIns := [], harness := (true, "a3e826ac300a5c3f1f0ad601bb0c6d6a29d07eae781334a56e88df55ac94c665"), looks := true }, kinds := [], alts := [], laidByText := true, laidKinds := [.data, .data, .data, .data, .sentinel, .sentinel, .pinned], laidTests := true, laidLooks := .later }
def FnBoardLineUptoCardSaid : Prop := Claim7.holds Tryz.pinned (.plain (OpenSpec.upto fnBoardLineSpec)) fnBoardLineUptoCard

/-- THE SECOND FORM's CARD OF 'laws.FnExactBoardSay'. -/
def fnExactBoardSayUptoCard : Claim7 := { stood := { row := fnExactBoardSayUptoRow, standIns := [], harness := (true, "a3e826ac300a5c3f1f0ad601bb0c6d6a29d07eae781334a56e88df55ac94c665"), looks := true }, kinds := [], alts := [], laidByText := true, laidKinds := [.data, .data, .data, .data, .sentinel, .sentinel, .pinned], laidTests := true, laidLooks := .later }
def FnExactBoardSayUptoCardSaid : Prop := Claim7.holds Tryz.pinned (.plain (OpenSpec.upto fnExactBoardSaySpec)) fnExactBoardSayUptoCard

/-- THE SECOND FORM's CARD OF 'laws.FnBoardSay'. -/
def fnBoardSayUptoCard : Claim7 := { stood := { row := fnBoardSayUptoRow, standIns := [], harness := (true, "a3e826ac300a5c3f1f0ad601bb0c6d6a29d07eae781334a56e88df55ac94c665"), looks := true }, kinds := [], alts := [], laidByText := true, laidKinds := [.data, .data, .data, .data, .sentinel, .sentinel, .pinned], laidTests := true, laidLooks := .later }
def FnBoardSayUptoCardSaid : Prop := Claim7.holds Tryz.pinned (.plain (OpenSpec.upto fnBoardSaySpec)) fnBoardSayUptoCard

/-- THE SECOND FORM's CARD OF 'laws.FnReadJournal'. -/
def fnReadJournalUptoCard : Claim7 := { stood := { row := fnReadJournalUptoRow, standIns := [], harness := (true, "a3e826ac300a5c3f1f0ad601bb0c6d6a29d07eae781334a56e88df55ac94c665"), looks := true }, kinds := [], alts := [], laidByText := true, laidKinds := [.data, .data, .data, .data, .sentinel, .sentinel, .pinned], laidTests := true, laidLooks := .later }
def FnReadJournalUptoCardSaid : Prop := Claim7.holds Tryz.pinned (.plain (OpenSpec.upto fnReadJournalSpec)) fnReadJournalUptoCard

/-- THE SECOND FORM's CARD OF 'laws.FnExactBoardLine'. -/
def fnExactBoardLineUptoCard : Claim7 := { stood := { row := fnExactBoardLineUptoRow, standIns := [], harness := (true, "a3e826ac300a5c3f1f0ad601bb0c6d6a29d07eae781334a56e88df55ac94c665"), looks := true }, kinds := [], alts := [], laidByText := true, laidKinds := [.data, .data, .data, .data, .sentinel, .sentinel, .pinned], laidTests := true, laidLooks := .later }
def FnExactBoardLineUptoCardSaid : Prop := Claim7.holds Tryz.pinned (.plain (OpenSpec.upto fnExactBoardLineSpec)) fnExactBoardLineUptoCard
end Rows
end Go.Proofs.YtdngnmpmaacapaaGreatDoor
