/-
  DERIVED. GIVEN WITH THE SEED: THE CARDS: each row of YtjeoelajkncpcaaGreatDoorRows.lean that lists a variable, with what it lists TIED to the program's text (the seventh form; the later family's looks); each row that meets fmt, with fmt's text TOLD by the authors' own Lean function (tested against real Go, not proved from fmt's source: count such statements apart). THE CARD IS WHAT COUNTS. Prove the row's statement (the work); the ties are given (YtjeoelajkncpcaaGreatDoorTie.lean); close each card by the builder's one call (the guide's Derived/Test/ToyasCard.lean, 'card_holds'). Laid BY PROGRAM, IN A SANDBOX (cutbox-door.mjs). By AI agents, Wed Nov 11 2026. No macro, syntax, notation, axiom, sorry.
-/
import Derived.Test.YtjeoelajkncpcaaGreatDoorRows
import GoSem.ClaimSeven
namespace Go.Proofs.YtjeoelajkncpcaaGreatDoor
namespace Rows

/-- THE TIED CARD OF 'lustrumlaw14.LeafIs'. -/
def leafIsCard : Claim7 := { stood := { row := leafIsRow, standIns := [], harness := (true, "86ba26819b390f2b0258e6e0fdabd4abe00003277419aefcb9cd5c0e216c31a7"), looks := true }, kinds := [], alts := [], laidByText := true, laidKinds := [.data], laidTests := true, laidLooks := .later }
def LeafIsCardSaid : Prop := Claim7.holds Tryz.pinned (.plain (OpenSpec.ofChange leafIsSpec)) leafIsCard

/-- THE TIED CARD OF 'lustrumlaw17.CoverIs'. -/
def coverIsCard : Claim7 := { stood := { row := coverIsRow, standIns := [], harness := (true, "86ba26819b390f2b0258e6e0fdabd4abe00003277419aefcb9cd5c0e216c31a7"), looks := true }, kinds := [], alts := [], laidByText := true, laidKinds := [.data], laidTests := true, laidLooks := .later }
def CoverIsCardSaid : Prop := Claim7.holds Tryz.pinned (.plain (OpenSpec.ofChange coverIsSpec)) coverIsCard

/-- THE SECOND FORM's CARD OF 'lustrumlaw14.LeafIs'. -/
def leafIsUptoCard : Claim7 := { stood := { row := leafIsUptoRow, standIns := [], harness := (true, "86ba26819b390f2b0258e6e0fdabd4abe00003277419aefcb9cd5c0e216c31a7"), looks := true }, kinds := [], alts := [], laidByText := true, laidKinds := [.data], laidTests := true, laidLooks := .later }
def LeafIsUptoCardSaid : Prop := Claim7.holds Tryz.pinned (.plain (OpenSpec.upto leafIsSpec)) leafIsUptoCard

/-- THE SECOND FORM's CARD OF 'lustrumlaw17.CoverIs'. -/
def coverIsUptoCard : Claim7 := { stood := { row := coverIsUptoRow, standIns := [], harness := (true, "86ba26819b390f2b0258e6e0fdabd4abe00003277419aefcb9cd5c0e216c31a7"), looks := true }, kinds := [], alts := [], laidByText := true, laidKinds := [.data], laidTests := true, laidLooks := .later }
def CoverIsUptoCardSaid : Prop := Claim7.holds Tryz.pinned (.plain (OpenSpec.upto coverIsSpec)) coverIsUptoCard
end Rows
end Go.Proofs.YtjeoelajkncpcaaGreatDoor
