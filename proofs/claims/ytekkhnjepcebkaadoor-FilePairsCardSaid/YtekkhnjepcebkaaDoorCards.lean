/-
  DERIVED. GIVEN WITH THE SEED: THE CARDS: each row of YtekkhnjepcebkaaDoorRows.lean that lists a variable, with what it lists TIED to the program's text (the seventh form; the later family's looks); each row that meets fmt, with fmt's text TOLD by the authors' own Lean function (tested against real Go, not proved from fmt's source: count such statements apart). THE CARD IS WHAT COUNTS. Prove the row's statement (the work); the ties are given (YtekkhnjepcebkaaDoorTie.lean); close each card by the builder's one call (the guide's Derived/Test/ToyasCard.lean, 'card_holds'). Laid BY PROGRAM, IN A SANDBOX (cutbox-door.mjs). By AI agents, Wed Nov 11 2026. No macro, syntax, notation, axiom, sorry.
-/
import Derived.Test.YtekkhnjepcebkaaDoorRows
import GoSem.ClaimSeven
namespace Go.Proofs.YtekkhnjepcebkaaDoor
namespace Rows

/-- THE TIED CARD OF 'petershamlaw11.FilePairs'. -/
def filePairsCard : Claim7 := { stood := { row := filePairsRow, standIns := [], harness := (true, "8e29055c1fe4529ce8b419acd2b85f512909fd360127d7ae04a4ae263f949120"), looks := false }, kinds := [], alts := [], laidByText := true, laidKinds := [.data, .data, .data], laidTests := true, laidLooks := .later }
def FilePairsCardSaid : Prop := Claim7.holds Tryd.pinned (.plain (OpenSpec.ofChange filePairsSpec)) filePairsCard

/-- THE SECOND FORM's CARD OF 'petershamlaw11.FilePairs'. -/
def filePairsUptoCard : Claim7 := { stood := { row := filePairsUptoRow, standIns := [], harness := (true, "8e29055c1fe4529ce8b419acd2b85f512909fd360127d7ae04a4ae263f949120"), looks := false }, kinds := [], alts := [], laidByText := true, laidKinds := [.data, .data, .data], laidTests := true, laidLooks := .later }
def FilePairsUptoCardSaid : Prop := Claim7.holds Tryd.pinned (.plain (OpenSpec.upto filePairsSpec)) filePairsUptoCard
end Rows
end Go.Proofs.YtekkhnjepcebkaaDoor
