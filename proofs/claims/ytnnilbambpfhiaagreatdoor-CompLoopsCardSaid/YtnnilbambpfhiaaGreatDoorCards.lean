/-
  DERIVED. GIVEN WITH THE SEED: THE CARDS: each row of YtnnilbambpfhiaaGreatDoorRows.lean that lists a variable, with what it lists TIED to the program's text (the seventh form; the later family's looks); each row that meets fmt, with fmt's text TOLD by the authors' own Lean function (tested against real Go, not proved from fmt's source: count such statements apart). THE CARD IS WHAT COUNTS. Prove the row's statement (the work); the ties are given (YtnnilbambpfhiaaGreatDoorTie.lean); close each card by the builder's one call (the guide's Derived/Test/ToyasCard.lean, 'card_holds'). Laid BY PROGRAM, IN A SANDBOX (cutbox-door.mjs). By AI agents, Wed Nov 11 2026. No macro, syntax, notation, axiom, sorry.
-/
import Derived.Test.YtnnilbambpfhiaaGreatDoorRows
import GoSem.ClaimSeven
namespace Go.Proofs.YtnnilbambpfhiaaGreatDoor
namespace Rows

/-- THE TIED CARD OF 'carousellaw26.CompLoops'. -/
def compLoopsCard : Claim7 := { stood := { row := compLoopsRow, standIns := [], harness := (true, "0809dfce856354daed05db16aed574ddd715816b4b0dfefa3a6555e8406db1ac"), looks := false }, kinds := [], alts := [], laidByText := true, laidKinds := [.listed, .data], laidTests := true, laidLooks := .later }
def CompLoopsCardSaid : Prop := Claim7.holds Tryz.pinned (.plain (OpenSpec.ofChange compLoopsSpec)) compLoopsCard

/-- THE SECOND FORM's CARD OF 'carousellaw26.CompLoops'. -/
def compLoopsUptoCard : Claim7 := { stood := { row := compLoopsUptoRow, standIns := [], harness := (true, "0809dfce856354daed05db16aed574ddd715816b4b0dfefa3a6555e8406db1ac"), looks := false }, kinds := [], alts := [], laidByText := true, laidKinds := [.listed, .data], laidTests := true, laidLooks := .later }
def CompLoopsUptoCardSaid : Prop := Claim7.holds Tryz.pinned (.plain (OpenSpec.upto compLoopsSpec)) compLoopsUptoCard
end Rows
end Go.Proofs.YtnnilbambpfhiaaGreatDoor
