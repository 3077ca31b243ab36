/-
  DERIVED. GIVEN WITH THE SEED: THE CARDS: each row of YtekkhnjepcebkaaGreatDoorRows.lean that lists a variable, with what it lists TIED to the program's text (the seventh form; the later family's looks); each row that meets fmt, with fmt's text TOLD by the authors' own Lean function (tested against real Go, not proved from fmt's source: count such statements apart). THE CARD IS WHAT COUNTS. Prove the row's statement (the work); the ties are given (YtekkhnjepcebkaaGreatDoorTie.lean); close each card by the builder's one call (the guide's Derived/Test/ToyasCard.lean, 'card_holds'). Laid BY PROGRAM, IN A SANDBOX (cutbox-door.mjs). By AI agents, Wed Nov 11 2026. No macro, syntax, notation, axiom, sorry.
-/
import Derived.Test.YtekkhnjepcebkaaGreatDoorRows
import GoSem.ClaimSeven
namespace Go.Proofs.YtekkhnjepcebkaaGreatDoor
namespace Rows

/-- THE TIED CARD OF 'petershamlaw11.FileCopies'. -/
def fileCopiesCard : Claim7 := { stood := { row := fileCopiesRow, standIns := [], harness := (true, "5be97d77af55c434aed0fe262da14abe54128a292e9225c5d564d0001ecd6a1c"), looks := false }, kinds := [], alts := [], laidByText := true, laidKinds := [.data, .data, .data], laidTests := true, laidLooks := .later }
def FileCopiesCardSaid : Prop := Claim7.holds Tryz.pinned (.plain (OpenSpec.ofChange fileCopiesSpec)) fileCopiesCard

/-- THE TIED CARD OF 'petershamlaw11.FileChanges'. -/
def fileChangesCard : Claim7 := { stood := { row := fileChangesRow, standIns := [], harness := (true, "5be97d77af55c434aed0fe262da14abe54128a292e9225c5d564d0001ecd6a1c"), looks := false }, kinds := [], alts := [], laidByText := true, laidKinds := [.data, .data, .data], laidTests := true, laidLooks := .later }
def FileChangesCardSaid : Prop := Claim7.holds Tryz.pinned (.plain (OpenSpec.ofChange fileChangesSpec)) fileChangesCard

/-- THE TIED CARD OF 'petershamlaw11.FilePriced'. -/
def filePricedCard : Claim7 := { stood := { row := filePricedRow, standIns := [], harness := (true, "5be97d77af55c434aed0fe262da14abe54128a292e9225c5d564d0001ecd6a1c"), looks := false }, kinds := [], alts := [], laidByText := true, laidKinds := [.data, .data, .data], laidTests := true, laidLooks := .later }
def FilePricedCardSaid : Prop := Claim7.holds Tryz.pinned (.plain (OpenSpec.ofChange filePricedSpec)) filePricedCard

/-- THE TIED CARD OF 'petershamlaw11.FileTold'. -/
def fileToldCard : Claim7 := { stood := { row := fileToldRow, standIns := [], harness := (true, "5be97d77af55c434aed0fe262da14abe54128a292e9225c5d564d0001ecd6a1c"), looks := false }, kinds := [], alts := [], laidByText := true, laidKinds := [.data, .data, .data], laidTests := true, laidLooks := .later }
def FileToldCardSaid : Prop := Claim7.holds Tryz.pinned (.plain (OpenSpec.ofChange fileToldSpec)) fileToldCard

/-- THE TIED CARD OF 'petershamlaw11.FileShortest'. -/
def fileShortestCard : Claim7 := { stood := { row := fileShortestRow, standIns := [], harness := (true, "5be97d77af55c434aed0fe262da14abe54128a292e9225c5d564d0001ecd6a1c"), looks := false }, kinds := [], alts := [], laidByText := true, laidKinds := [.data, .data, .data], laidTests := true, laidLooks := .later }
def FileShortestCardSaid : Prop := Claim7.holds Tryz.pinned (.plain (OpenSpec.ofChange fileShortestSpec)) fileShortestCard

/-- THE TIED CARD OF 'petershamlaw11.FileSmall'. -/
def fileSmallCard : Claim7 := { stood := { row := fileSmallRow, standIns := [], harness := (true, "5be97d77af55c434aed0fe262da14abe54128a292e9225c5d564d0001ecd6a1c"), looks := false }, kinds := [], alts := [], laidByText := true, laidKinds := [.data, .data, .data], laidTests := true, laidLooks := .later }
def FileSmallCardSaid : Prop := Claim7.holds Tryz.pinned (.plain (OpenSpec.ofChange fileSmallSpec)) fileSmallCard

/-- THE SECOND FORM's CARD OF 'petershamlaw11.FileCopies'. -/
def fileCopiesUptoCard : Claim7 := { stood := { row := fileCopiesUptoRow, standIns := [], harness := (true, "5be97d77af55c434aed0fe262da14abe54128a292e9225c5d564d0001ecd6a1c"), looks := false }, kinds := [], alts := [], laidByText := true, laidKinds := [.data, .data, .data], laidTests := true, laidLooks := .later }
def FileCopiesUptoCardSaid : Prop := Claim7.holds Tryz.pinned (.plain (OpenSpec.upto fileCopiesSpec)) fileCopiesUptoCard

/-- THE SECOND FORM's CARD OF 'petershamlaw11.FileChanges'. -/
def fileChangesUptoCard : Claim7 := { stood := { row := fileChangesUptoRow, standIns := [], harness := (true, "5be97d77af55c434aed0fe262da14abe54128a292e9225c5d564d0001ecd6a1c"), looks := false }, kinds := [], alts := [], laidByText := true, laidKinds := [.data, .data, .data], laidTests := true, laidLooks := .later }
def FileChangesUptoCardSaid : Prop := Claim7.holds Tryz.pinned (.plain (OpenSpec.upto fileChangesSpec)) fileChangesUptoCard

/-- THE SECOND FORM's CARD OF 'petershamlaw11.FilePriced'. -/
def filePricedUptoCard : Claim7 := { stood := { row := filePricedUptoRow, standIns := [], harness := (true, "5be97d77af55c434aed0fe262da14abe54128a292e9225c5d564d0001ecd6a1c"), looks := false }, kinds := [], alts := [], laidByText := true, laidKinds := [.data, .data, .data], laidTests := true, laidLooks := .later }
def FilePricedUptoCardSaid : Prop := Claim7.holds Tryz.pinned (.plain (OpenSpec.upto filePricedSpec)) filePricedUptoCard

/-- THE SECOND FORM's CARD OF 'petershamlaw11.FileTold'. -/
def fileToldUptoCard : Claim7 := { stood := { row := fileToldUptoRow, standIns := [], harness := (true, "5be97d77af55c434aed0fe262da14abe54128a292e9225c5d564d0001ecd6a1c"), looks := false }, kinds := [], alts := [], laidByText := true, laidKinds := [.data, .data, .data], laidTests := true, laidLooks := .later }
def FileToldUptoCardSaid : Prop := Claim7.holds Tryz.pinned (.plain (OpenSpec.upto fileToldSpec)) fileToldUptoCard

/-- THE SECOND FORM's CARD OF 'petershamlaw11.FileShortest'. -/
def fileShortestUptoCard : Claim7 := { stood := { row := fileShortestUptoRow, standIns := [], harness := (true, "5be97d77af55c434aed0fe262da14abe54128a292e9225c5d564d0001ecd6a1c"), looks := false }, kinds := [], alts := [], laidByText := true, laidKinds := [.data, .data, .data], laidTests := true, laidLooks := .later }
def FileShortestUptoCardSaid : Prop := Claim7.holds Tryz.pinned (.plain (OpenSpec.upto fileShortestSpec)) fileShortestUptoCard

/-- THE SECOND FORM's CARD OF 'petershamlaw11.FileSmall'. -/
def fileSmallUptoCard : Claim7 := { stood := { row := fileSmallUptoRow, standIns := [], harness := (true, "5be97d77af55c434aed0fe262da14abe54128a292e9225c5d564d0001ecd6a1c"), looks := false }, kinds := [], alts := [], laidByText := true, laidKinds := [.data, .data, .data], laidTests := true, laidLooks := .later }
def FileSmallUptoCardSaid : Prop := Claim7.holds Tryz.pinned (.plain (OpenSpec.upto fileSmallSpec)) fileSmallUptoCard
end Rows
end Go.Proofs.YtekkhnjepcebkaaGreatDoor
