/-
  DERIVED. GIVEN WITH THE SEED: THE CARDS: each row of YtpdldbapagchfaaGreatDoorRows.lean that lists a variable, with what it lists TIED to the program's text (the seventh form; the later family's looks); each row that meets fmt, with fmt's text TOLD by the authors' own Lean function (tested against real Go, not proved from fmt's source: count such statements apart). THE CARD IS WHAT COUNTS. Prove the row's statement (the work); the ties are given (YtpdldbapagchfaaGreatDoorTie.lean); close each card by the builder's one call (the guide's Derived/Test/ToyasCard.lean, 'card_holds'). Laid BY PROGRAM, IN A SANDBOX (cutbox-door.mjs). By AI agents, Wed Nov 11 2026. No macro, syntax, notation, axiom, sorry.
-/
import Derived.Test.YtpdldbapagchfaaGreatDoorRows
import GoSem.ClaimSeven
namespace Go.Proofs.YtpdldbapagchfaaGreatDoor
namespace Rows

/-- THE TIED CARD OF 'pinakeslaw07.MergeMakes'. -/
def mergeMakesCard : Claim7 := { stood := { row := mergeMakesRow, standIns := [], harness := (true, "b7cd93b192fc4b684eb58b7b4c1edb0a598131ab58545b33aa6eef6702398560"), looks := false }, kinds := [], alts := [], laidByText := true, laidKinds := [.data, .data, .data], laidTests := true, laidLooks := .later }
def MergeMakesCardSaid : Prop := Claim7.holds Tryz.pinned (.plain (OpenSpec.ofChange mergeMakesSpec)) mergeMakesCard

/-- THE TIED CARD OF 'pinakeslaw07.MergeLatest'. -/
def mergeLatestCard : Claim7 := { stood := { row := mergeLatestRow, standIns := [], harness := (true, "b7cd93b192fc4b684eb58b7b4c1edb0a598131ab58545b33aa6eef6702398560"), looks := false }, kinds := [], alts := [], laidByText := true, laidKinds := [.data, .data, .data], laidTests := true, laidLooks := .later }
def MergeLatestCardSaid : Prop := Claim7.holds Tryz.pinned (.plain (OpenSpec.ofChange mergeLatestSpec)) mergeLatestCard

/-- THE TIED CARD OF 'pinakeslaw07.MergeOrder'. -/
def mergeOrderCard : Claim7 := { stood := { row := mergeOrderRow, standIns := [], harness := (true, "b7cd93b192fc4b684eb58b7b4c1edb0a598131ab58545b33aa6eef6702398560"), looks := false }, kinds := [], alts := [], laidByText := true, laidKinds := [.data, .data, .data], laidTests := true, laidLooks := .later }
def MergeOrderCardSaid : Prop := Claim7.holds Tryz.pinned (.plain (OpenSpec.ofChange mergeOrderSpec)) mergeOrderCard

/-- THE TIED CARD OF 'pinakeslaw07.MergeTaken'. -/
def mergeTakenCard : Claim7 := { stood := { row := mergeTakenRow, standIns := [], harness := (true, "b7cd93b192fc4b684eb58b7b4c1edb0a598131ab58545b33aa6eef6702398560"), looks := false }, kinds := [], alts := [], laidByText := true, laidKinds := [.data, .data, .data], laidTests := true, laidLooks := .later }
def MergeTakenCardSaid : Prop := Claim7.holds Tryz.pinned (.plain (OpenSpec.ofChange mergeTakenSpec)) mergeTakenCard

/-- THE TIED CARD OF 'pinakeslaw07.MergeSays'. -/
def mergeSaysCard : Claim7 := { stood := { row := mergeSaysRow, standIns := [], harness := (true, "b7cd93b192fc4b684eb58b7b4c1edb0a598131ab58545b33aa6eef6702398560"), looks := false }, kinds := [], alts := [], laidByText := true, laidKinds := [.data, .data, .data], laidTests := true, laidLooks := .later }
def MergeSaysCardSaid : Prop := Claim7.holds Tryz.pinned (.plain (OpenSpec.ofChange mergeSaysSpec)) mergeSaysCard

/-- THE TIED CARD OF 'pinakeslaw07.MergeCovers'. -/
def mergeCoversCard : Claim7 := { stood := { row := mergeCoversRow, standIns := [], harness := (true, "b7cd93b192fc4b684eb58b7b4c1edb0a598131ab58545b33aa6eef6702398560"), looks := false }, kinds := [], alts := [], laidByText := true, laidKinds := [.data, .data, .data], laidTests := true, laidLooks := .later }
def MergeCoversCardSaid : Prop := Claim7.holds Tryz.pinned (.plain (OpenSpec.ofChange mergeCoversSpec)) mergeCoversCard

/-- THE TIED CARD OF 'pinakeslaw07.MergeAgain'. -/
def mergeAgainCard : Claim7 := { stood := { row := mergeAgainRow, standIns := [], harness := (true, "b7cd93b192fc4b684eb58b7b4c1edb0a598131ab58545b33aa6eef6702398560"), looks := false }, kinds := [], alts := [], laidByText := true, laidKinds := [.data, .data, .data], laidTests := true, laidLooks := .later }
def MergeAgainCardSaid : Prop := Claim7.holds Tryz.pinned (.plain (OpenSpec.ofChange mergeAgainSpec)) mergeAgainCard

/-- THE TIED CARD OF 'pinakeslaw07.MergeKeeps'. -/
def mergeKeepsCard : Claim7 := { stood := { row := mergeKeepsRow, standIns := [], harness := (true, "b7cd93b192fc4b684eb58b7b4c1edb0a598131ab58545b33aa6eef6702398560"), looks := false }, kinds := [], alts := [], laidByText := true, laidKinds := [.data, .data, .data], laidTests := true, laidLooks := .later }
def MergeKeepsCardSaid : Prop := Claim7.holds Tryz.pinned (.plain (OpenSpec.ofChange mergeKeepsSpec)) mergeKeepsCard

/-- THE SECOND FORM's CARD OF 'pinakeslaw07.MergeMakes'. -/
def mergeMakesUptoCard : Claim7 := { stood := { row := mergeMakesUptoRow, standIns := [], harness := (true, "b7cd93b192fc4b684eb58b7b4c1edb0a598131ab58545b33aa6eef6702398560"), looks := false }, kinds := [], alts := [], laidByText := true, laidKinds := [.data, .data, .data], laidTests := true, laidLooks := .later }
def MergeMakesUptoCardSaid : Prop := Claim7.holds Tryz.pinned (.plain (OpenSpec.upto mergeMakesSpec)) mergeMakesUptoCard

/-- THE SECOND FORM's CARD OF 'pinakeslaw07.MergeLatest'. -/
def mergeLatestUptoCard : Claim7 := { stood := { row := mergeLatestUptoRow, standIns := [], harness := (true, "b7cd93b192fc4b684eb58b7b4c1edb0a598131ab58545b33aa6eef6702398560"), looks := false }, kinds := [], alts := [], laidByText := true, laidKinds := [.data, .data, .data], laidTests := true, laidLooks := .later }
def MergeLatestUptoCardSaid : Prop := Claim7.holds Tryz.pinned (.plain (OpenSpec.upto mergeLatestSpec)) mergeLatestUptoCard

/-- THE SECOND FORM's CARD OF 'pinakeslaw07.MergeOrder'. -/
def mergeOrderUptoCard : Claim7 := { stood := { row := mergeOrderUptoRow, standIns := [], harness := (true, "b7cd93b192fc4b684eb58b7b4c1edb0a598131ab58545b33aa6eef6702398560"), looks := false }, kinds := [], alts := [], laidByText := true, laidKinds := [.data, .data, .data], laidTests := true, laidLooks := .later }
def MergeOrderUptoCardSaid : Prop := Claim7.holds Tryz.pinned (.plain (OpenSpec.upto mergeOrderSpec)) mergeOrderUptoCard

/-- THE SECOND FORM's CARD OF 'pinakeslaw07.MergeTaken'. -/
def mergeTakenUptoCard : Claim7 := { stood := { row := mergeTakenUptoRow, standIns := [], harness := (true, "b7cd93b192fc4b684eb58b7b4c1edb0a598131ab58545b33aa6eef6702398560"), looks := false }, kinds := [], alts := [], laidByText := true, laidKinds := [.data, .data, .data], laidTests := true, laidLooks := .later }
def MergeTakenUptoCardSaid : Prop := Claim7.holds Tryz.pinned (.plain (OpenSpec.upto mergeTakenSpec)) mergeTakenUptoCard

/-- THE SECOND FORM's CARD OF 'pinakeslaw07.MergeSays'. -/
def mergeSaysUptoCard : Claim7 := { stood := { row := mergeSaysUptoRow, standIns := [], harness := (true, "b7cd93b192fc4b684eb58b7b4c1edb0a598131ab58545b33aa6eef6702398560"), looks := false }, kinds := [], alts := [], laidByText := true, laidKinds := [.data, .data, .data], laidTests := true, laidLooks := .later }
def MergeSaysUptoCardSaid : Prop := Claim7.holds Tryz.pinned (.plain (OpenSpec.upto mergeSaysSpec)) mergeSaysUptoCard

/-- THE SECOND FORM's CARD OF 'pinakeslaw07.MergeCovers'. -/
def mergeCoversUptoCard : Claim7 := { stood := { row := mergeCoversUptoRow, standIns := [], harness := (true, "b7cd93b192fc4b684eb58b7b4c1edb0a598131ab58545b33aa6eef6702398560"), looks := false }, kinds := [], alts := [], laidByText := true, laidKinds := [.data, .data, .data], laidTests := true, laidLooks := .later }
def MergeCoversUptoCardSaid : Prop := Claim7.holds Tryz.pinned (.plain (OpenSpec.upto mergeCoversSpec)) mergeCoversUptoCard

/-- THE SECOND FORM's CARD OF 'pinakeslaw07.MergeAgain'. -/
def mergeAgainUptoCard : Claim7 := { stood := { row := mergeAgainUptoRow, standIns := [], harness := (true, "b7cd93b192fc4b684eb58b7b4c1edb0a598131ab58545b33aa6eef6702398560"), looks := false }, kinds := [], alts := [], laidByText := true, laidKinds := [.data, .data, .data], laidTests := true, laidLooks := .later }
def MergeAgainUptoCardSaid : Prop := Claim7.holds Tryz.pinned (.plain (OpenSpec.upto mergeAgainSpec)) mergeAgainUptoCard

/-- THE SECOND FORM's CARD OF 'pinakeslaw07.MergeKeeps'. -/
def mergeKeepsUptoCard : Claim7 := { stood := { row := mergeKeepsUptoRow, standIns := [], harness := (true, "b7cd93b192fc4b684eb58b7b4c1edb0a598131ab58545b33aa6eef6702398560"), looks := false }, kinds := [], alts := [], laidByText := true, laidKinds := [.data, .data, .data], laidTests := true, laidLooks := .later }
def MergeKeepsUptoCardSaid : Prop := Claim7.holds Tryz.pinned (.plain (OpenSpec.upto mergeKeepsSpec)) mergeKeepsUptoCard
end Rows
end Go.Proofs.YtpdldbapagchfaaGreatDoor
