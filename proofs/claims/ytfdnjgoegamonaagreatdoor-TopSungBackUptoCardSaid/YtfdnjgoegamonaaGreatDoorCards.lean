/-
  DERIVED. GIVEN WITH THE SEED: THE CARDS: each row of YtfdnjgoegamonaaGreatDoorRows.lean that lists a variable, with what it lists TIED to the program's text (the seventh form; the later family's looks); each row that meets fmt, with fmt's text TOLD by the authors' own Lean function (tested against real Go, not proved from fmt's source: count such statements apart). THE CARD IS WHAT COUNTS. Prove the row's statement (the work); the ties are given (YtfdnjgoegamonaaGreatDoorTie.lean); close each card by the builder's one call (the guide's Derived/Test/ToyasCard.lean, 'card_holds'). Laid BY PROGRAM, IN A SANDBOX (cutbox-door.mjs). By AI agents, Wed Nov 11 2026. No macro, syntax, notation, axiom, sorry.
-/
import Derived.Test.YtfdnjgoegamonaaGreatDoorRows
import GoSem.ClaimSeven
namespace Go.Proofs.YtfdnjgoegamonaaGreatDoor
namespace Rows

/-- THE TIED CARD OF 'theorbotop.TopSungBack'. -/
def topSungBackCard : Claim7 := { stood := { row := topSungBackRow, standIns := [], harness := (true, "fe1aa19109780530f952761bcfb57e3a4fd23eb5ef14eefbbd6968dc18a7b5af"), looks := false }, kinds := [], alts := [], laidByText := true, laidKinds := [.data, .data, .pinned], laidTests := true, laidLooks := .later }
def TopSungBackCardSaid : Prop := Claim7.holds Tryz.pinned (.plain (OpenSpec.ofChange topSungBackSpec)) topSungBackCard

/-- THE SECOND FORM's CARD OF 'theorbotop.TopSungBack'. -/
def topSungBackUptoCard : Claim7 := { stood := { row := topSungBackUptoRow, standIns := [], harness := (true, "fe1aa19109780530f952761bcfb57e3a4fd23eb5ef14eefbbd6968dc18a7b5af"), looks := false }, kinds := [], alts := [], laidByText := true, laidKinds := [.data, .data, .pinned], laidTests := true, laidLooks := .later }
def TopSungBackUptoCardSaid : Prop := Claim7.holds Tryz.pinned (.plain (OpenSpec.upto topSungBackSpec)) topSungBackUptoCard
end Rows
end Go.Proofs.YtfdnjgoegamonaaGreatDoor
