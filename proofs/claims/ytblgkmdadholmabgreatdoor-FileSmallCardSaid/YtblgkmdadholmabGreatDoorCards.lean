/-
  DERIVED. GIVEN WITH THE SEED: THE CARDS: each row of YtblgkmdadholmabGreatDoorRows.lean that lists a variable, with what it lists TIED to the program's text (the seventh form; the later family's looks); each row that meets fmt, with fmt's text TOLD by the authors' own Lean function (tested against real Go, not proved from fmt's source: count such statements apart). THE CARD IS WHAT COUNTS. Prove the row's statement (the work); the ties are given (YtblgkmdadholmabGreatDoorTie.lean); close each card by the builder's one call (the guide's Derived/Test/ToyasCard.lean, 'card_holds'). Laid BY PROGRAM, IN A SANDBOX (cutbox-door.mjs). By AI agents, Wed Nov 11 2026. No macro, syntax, notation, axiom, sorry.
-/
import Derived.Test.YtblgkmdadholmabGreatDoorRows
import GoSem.ClaimSeven
namespace Go.Proofs.YtblgkmdadholmabGreatDoor
namespace Rows

/-- THE TIED CARD OF 'petershamlaw11.FileSmall'. -/
def fileSmallCard : Claim7 := { stood := { row := fileSmallRow, standIns := [], harness := (true, "b6338ef219da41f4eb2354285530fe0bcfc05ef053bacbaf3d424e057162748b"), looks := false }, kinds := [], alts := [], laidByText := true, laidKinds := [.data, .data, .data], laidTests := true, laidLooks := .later }
def FileSmallCardSaid : Prop := Claim7.holds Tryz.pinned (.plain (OpenSpec.ofChange fileSmallSpec)) fileSmallCard

/-- THE SECOND FORM's CARD OF 'petershamlaw11.FileSmall'. -/
def fileSmallUptoCard : Claim7 := { stood := { row := fileSmallUptoRow, standIns := [], harness := (true, "b6338ef219da41f4eb2354285530fe0bcfc05ef053bacbaf3d424e057162748b"), looks := false }, kinds := [], alts := [], laidByText := true, laidKinds := [.data, .data, .data], laidTests := true, laidLooks := .later }
def FileSmallUptoCardSaid : Prop := Claim7.holds Tryz.pinned (.plain (OpenSpec.upto fileSmallSpec)) fileSmallUptoCard
end Rows
end Go.Proofs.YtblgkmdadholmabGreatDoor
