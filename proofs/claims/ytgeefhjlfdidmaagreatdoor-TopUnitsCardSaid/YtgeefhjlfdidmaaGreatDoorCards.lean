/-
  DERIVED. GIVEN WITH THE SEED: THE CARDS: each row of YtgeefhjlfdidmaaGreatDoorRows.lean that lists a variable, with what it lists TIED to the program's text (the seventh form; the later family's looks); each row that meets fmt, with fmt's text TOLD by the authors' own Lean function (tested against real Go, not proved from fmt's source: count such statements apart). THE CARD IS WHAT COUNTS. Prove the row's statement (the work); the ties are given (YtgeefhjlfdidmaaGreatDoorTie.lean); close each card by the builder's one call (the guide's Derived/Test/ToyasCard.lean, 'card_holds'). Laid BY PROGRAM, IN A SANDBOX (cutbox-door.mjs). By AI agents, Wed Nov 11 2026. No macro, syntax, notation, axiom, sorry.
-/
import Derived.Test.YtgeefhjlfdidmaaGreatDoorRows
import GoSem.ClaimSeven
namespace Go.Proofs.YtgeefhjlfdidmaaGreatDoor
namespace Rows

/-- THE TIED CARD OF 'lustrumtop.TopUnits'. -/
def topUnitsCard : Claim7 := { stood := { row := topUnitsRow, standIns := [], harness := (true, "1e0bd10dbe26d7758375bb526d394d7bb61e40b1fe553fcdbce64684e526f9a4"), looks := true }, kinds := [], alts := [], laidByText := true, laidKinds := [.data, .data, .data, .data, .data, .data, .pinned], laidTests := true, laidLooks := .later }
def TopUnitsCardSaid : Prop := Claim7.holds Tryz.pinned (.plain (OpenSpec.ofChange topUnitsSpec)) topUnitsCard

/-- THE SECOND FORM's CARD OF 'lustrumtop.TopUnits'. -/
def topUnitsUptoCard : Claim7 := { stood := { row := topUnitsUptoRow, standIns := [], harness := (true, "1e0bd10dbe26d7758375bb526d394d7bb61e40b1fe553fcdbce64684e526f9a4"), looks := true }, kinds := [], alts := [], laidByText := true, laidKinds := [.data, .data, .data, .data, .data, .data, .pinned], laidTests := true, laidLooks := .later }
def TopUnitsUptoCardSaid : Prop := Claim7.holds Tryz.pinned (.plain (OpenSpec.upto topUnitsSpec)) topUnitsUptoCard
end Rows
end Go.Proofs.YtgeefhjlfdidmaaGreatDoor
