/-
  DERIVED. GIVEN WITH THE SEED: THE CARDS: each row of YtkhmkpcihphkcaaDoorRows.lean that lists a variable, with what it lists TIED to the program's text (the seventh form; the later family's looks); each row that meets fmt, with fmt's text TOLD by the authors' own Lean function (tested against real Go, not proved from fmt's source: count such statements apart). THE CARD IS WHAT COUNTS. Prove the row's statement (the work); the ties are given (YtkhmkpcihphkcaaDoorTie.lean); close each card by the builder's one call (the guide's Derived/Test/ToyasCard.lean, 'card_holds'). Laid BY PROGRAM, IN A SANDBOX (cutbox-door.mjs). By AI agents, Wed Nov 11 2026. No macro, syntax, notation, axiom, sorry.
-/
import Derived.Test.YtkhmkpcihphkcaaDoorRows
import GoSem.ClaimSeven
namespace Go.Proofs.YtkhmkpcihphkcaaDoor
namespace Rows

/-- THE TIED CARD OF 'petershamlaw11.FileParses'. -/
def fileParsesCard : Claim7 := { stood := { row := fileParsesRow, standIns := [], harness := (true, "4de36b6ff5227f659bc04292eefc718325734e3ef8a795d0a251da9833322934"), looks := false }, kinds := [], alts := [], laidByText := true, laidKinds := [.data, .data, .data], laidTests := true, laidLooks := .later }
def FileParsesCardSaid : Prop := Claim7.holds Tryd.pinned (.plain (OpenSpec.ofChange fileParsesSpec)) fileParsesCard

/-- THE TIED CARD OF 'petershamlaw11.FileTorn'. -/
def fileTornCard : Claim7 := { stood := { row := fileTornRow, standIns := [], harness := (true, "4de36b6ff5227f659bc04292eefc718325734e3ef8a795d0a251da9833322934"), looks := false }, kinds := [], alts := [], laidByText := true, laidKinds := [.data, .data, .data], laidTests := true, laidLooks := .later }
def FileTornCardSaid : Prop := Claim7.holds Tryd.pinned (.plain (OpenSpec.ofChange fileTornSpec)) fileTornCard

/-- THE TIED CARD OF 'petershamlaw11.FileJoined'. -/
def fileJoinedCard : Claim7 := { stood := { row := fileJoinedRow, standIns := [], harness := (true, "4de36b6ff5227f659bc04292eefc718325734e3ef8a795d0a251da9833322934"), looks := false }, kinds := [], alts := [], laidByText := true, laidKinds := [.data, .data, .data], laidTests := true, laidLooks := .later }
def FileJoinedCardSaid : Prop := Claim7.holds Tryd.pinned (.plain (OpenSpec.ofChange fileJoinedSpec)) fileJoinedCard

/-- THE TIED CARD OF 'petershamlaw11.FileTexts'. -/
def fileTextsCard : Claim7 := { stood := { row := fileTextsRow, standIns := [], harness := (true, "4de36b6ff5227f659bc04292eefc718325734e3ef8a795d0a251da9833322934"), looks := false }, kinds := [], alts := [], laidByText := true, laidKinds := [.data, .data, .data], laidTests := true, laidLooks := .later }
def FileTextsCardSaid : Prop := Claim7.holds Tryd.pinned (.plain (OpenSpec.ofChange fileTextsSpec)) fileTextsCard

/-- THE TIED CARD OF 'petershamlaw11.FileAlike'. -/
def fileAlikeCard : Claim7 := { stood := { row := fileAlikeRow, standIns := [], harness := (true, "4de36b6ff5227f659bc04292eefc718325734e3ef8a795d0a251da9833322934"), looks := false }, kinds := [], alts := [], laidByText := true, laidKinds := [.data, .data, .data], laidTests := true, laidLooks := .later }
def FileAlikeCardSaid : Prop := Claim7.holds Tryd.pinned (.plain (OpenSpec.ofChange fileAlikeSpec)) fileAlikeCard

/-- THE TIED CARD OF 'petershamlaw11.FilePairs'. -/
def filePairsCard : Claim7 := { stood := { row := filePairsRow, standIns := [], harness := (true, "4de36b6ff5227f659bc04292eefc718325734e3ef8a795d0a251da9833322934"), looks := false }, kinds := [], alts := [], laidByText := true, laidKinds := [.data, .data, .data], laidTests := true, laidLooks := .later }
def FilePairsCardSaid : Prop := Claim7.holds Tryd.pinned (.plain (OpenSpec.ofChange filePairsSpec)) filePairsCard

/-- THE TIED CARD OF 'petershamlaw11.FileParted'. -/
def filePartedCard : Claim7 := { stood := { row := filePartedRow, standIns := [], harness := (true, "4de36b6ff5227f659bc04292eefc718325734e3ef8a795d0a251da9833322934"), looks := false }, kinds := [], alts := [], laidByText := true, laidKinds := [.data, .data, .data], laidTests := true, laidLooks := .later }
def FilePartedCardSaid : Prop := Claim7.holds Tryd.pinned (.plain (OpenSpec.ofChange filePartedSpec)) filePartedCard

/-- THE TIED CARD OF 'petershamlaw11.FileSince'. -/
def fileSinceCard : Claim7 := { stood := { row := fileSinceRow, standIns := [], harness := (true, "4de36b6ff5227f659bc04292eefc718325734e3ef8a795d0a251da9833322934"), looks := false }, kinds := [], alts := [], laidByText := true, laidKinds := [.data, .data, .data], laidTests := true, laidLooks := .later }
def FileSinceCardSaid : Prop := Claim7.holds Tryd.pinned (.plain (OpenSpec.ofChange fileSinceSpec)) fileSinceCard

/-- THE TIED CARD OF 'petershamlaw11.FileMade'. -/
def fileMadeCard : Claim7 := { stood := { row := fileMadeRow, standIns := [], harness := (true, "4de36b6ff5227f659bc04292eefc718325734e3ef8a795d0a251da9833322934"), looks := false }, kinds := [], alts := [], laidByText := true, laidKinds := [.data, .data, .data], laidTests := true, laidLooks := .later }
def FileMadeCardSaid : Prop := Claim7.holds Tryd.pinned (.plain (OpenSpec.ofChange fileMadeSpec)) fileMadeCard

/-- THE SECOND FORM's CARD OF 'petershamlaw11.FileParses'. -/
def fileParsesUptoCard : Claim7 := { stood := { row := fileParsesUptoRow, standIns := [], harness := (true, "4de36b6ff5227f659bc04292eefc718325734e3ef8a795d0a251da9833322934"), looks := false }, kinds := [], alts := [], laidByText := true, laidKinds := [.data, .data, .data], laidTests := true, laidLooks := .later }
def FileParsesUptoCardSaid : Prop := Claim7.holds Tryd.pinned (.plain (OpenSpec.upto fileParsesSpec)) fileParsesUptoCard

/-- THE SECOND FORM's CARD OF 'petershamlaw11.FileTorn'. -/
def fileTornUptoCard : Claim7 := { stood := { row := fileTornUptoRow, standIns := [], harness := (true, "4de36b6ff5227f659bc04292eefc718325734e3ef8a795d0a251da9833322934"), looks := false }, kinds := [], alts := [], laidByText := true, laidKinds := [.data, .data, .data], laidTests := true, laidLooks := .later }
def FileTornUptoCardSaid : Prop := Claim7.holds Tryd.pinned (.plain (OpenSpec.upto fileTornSpec)) fileTornUptoCard

/-- THE SECOND FORM's CARD OF 'petershamlaw11.FileJoined'. -/
def fileJoinedUptoCard : Claim7 := { stood := { row := fileJoinedUptoRow, standIns := [], harness := (true, "4de36b6ff5227f659bc04292eefc718325734e3ef8a795d0a251da9833322934"), looks := false }, kinds := [], alts := [], laidByText := true, laidKinds := [.data, .data, .data], laidTests := true, laidLooks := .later }
def FileJoinedUptoCardSaid : Prop := Claim7.holds Tryd.pinned (.plain (OpenSpec.upto fileJoinedSpec)) fileJoinedUptoCard

/-- THE SECOND FORM's CARD OF 'petershamlaw11.FileTexts'. -/
def fileTextsUptoCard : Claim7 := { stood := { row := fileTextsUptoRow, standIns := [], harness := (true, "4de36b6ff5227f659bc04292eefc718325734e3ef8a795d0a251da9833322934"), looks := false }, kinds := [], alts := [], laidByText := true, laidKinds := [.data, .data, .data], laidTests := true, laidLooks := .later }
def FileTextsUptoCardSaid : Prop := Claim7.holds Tryd.pinned (.plain (OpenSpec.upto fileTextsSpec)) fileTextsUptoCard

/-- THE SECOND FORM's CARD OF 'petershamlaw11.FileAlike'. -/
def fileAlikeUptoCard : Claim7 := { stood := { row := fileAlikeUptoRow, standIns := [], harness := (true, "4de36b6ff5227f659bc04292eefc718325734e3ef8a795d0a251da9833322934"), looks := false }, kinds := [], alts := [], laidByText := true, laidKinds := [.data, .data, .data], laidTests := true, laidLooks := .later }
def FileAlikeUptoCardSaid : Prop := Claim7.holds Tryd.pinned (.plain (OpenSpec.upto fileAlikeSpec)) fileAlikeUptoCard

/-- THE SECOND FORM's CARD OF 'petershamlaw11.FilePairs'. -/
def filePairsUptoCard : Claim7 := { stood := { row := filePairsUptoRow, standIns := [], harness := (true, "4de36b6ff5227f659bc04292eefc718325734e3ef8a795d0a251da9833322934"), looks := false }, kinds := [], alts := [], laidByText := true, laidKinds := [.data, .data, .data], laidTests := true, laidLooks := .later }
def FilePairsUptoCardSaid : Prop := Claim7.holds Tryd.pinned (.plain (OpenSpec.upto filePairsSpec)) filePairsUptoCard

/-- THE SECOND FORM's CARD OF 'petershamlaw11.FileParted'. -/
def filePartedUptoCard : Claim7 := { stood := { row := filePartedUptoRow, standIns := [], harness := (true, "4de36b6ff5227f659bc04292eefc718325734e3ef8a795d0a251da9833322934"), looks := false }, kinds := [], alts := [], laidByText := true, laidKinds := [.data, .data, .data], laidTests := true, laidLooks := .later }
def FilePartedUptoCardSaid : Prop := Claim7.holds Tryd.pinned (.plain (OpenSpec.upto filePartedSpec)) filePartedUptoCard

/-- THE SECOND FORM's CARD OF 'petershamlaw11.FileSince'. -/
def fileSinceUptoCard : Claim7 := { stood := { row := fileSinceUptoRow, standIns := [], harness := (true, "4de36b6ff5227f659bc04292eefc718325734e3ef8a795d0a251da9833322934"), looks := false }, kinds := [], alts := [], laidByText := true, laidKinds := [.data, .data, .data], laidTests := true, laidLooks := .later }
def FileSinceUptoCardSaid : Prop := Claim7.holds Tryd.pinned (.plain (OpenSpec.upto fileSinceSpec)) fileSinceUptoCard

/-- THE SECOND FORM's CARD OF 'petershamlaw11.FileMade'. -/
def fileMadeUptoCard : Claim7 := { stood := { row := fileMadeUptoRow, standIns := [], harness := (true, "4de36b6ff5227f659bc04292eefc718325734e3ef8a795d0a251da9833322934"), looks := false }, kinds := [], alts := [], laidByText := true, laidKinds := [.data, .data, .data], laidTests := true, laidLooks := .later }
def FileMadeUptoCardSaid : Prop := Claim7.holds Tryd.pinned (.plain (OpenSpec.upto fileMadeSpec)) fileMadeUptoCard
end Rows
end Go.Proofs.YtkhmkpcihphkcaaDoor
