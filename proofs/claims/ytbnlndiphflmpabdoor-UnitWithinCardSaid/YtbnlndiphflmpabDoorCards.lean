/-
  DERIVED. GIVEN WITH THE SEED: THE CARDS: each row of YtbnlndiphflmpabDoorRows.lean that lists a variable, with what it lists TIED to the program's text (the seventh form; the later family's looks); each row that meets fmt, with fmt's text TOLD by the authors' own Lean function (tested against real Go, not proved from fmt's source: count such statements apart). THE CARD IS WHAT COUNTS. Prove the row's statement (the work); the ties are given (YtbnlndiphflmpabDoorTie.lean); close each card by the builder's one call (the guide's Derived/Test/ToyasCard.lean, 'card_holds'). Laid BY PROGRAM, IN A SANDBOX (cutbox-door.mjs). By AI agents, Wed Nov 11 2026. No macro, syntax, notation, axiom, sorry.
-/
import Derived.Test.YtbnlndiphflmpabDoorRows
import GoSem.ClaimSeven
namespace Go.Proofs.YtbnlndiphflmpabDoor
namespace Rows

/-- THE TIED CARD OF 'lustrumlaw03.UnitRows'. -/
def unitRowsCard : Claim7 := { stood := { row := unitRowsRow, standIns := [], harness := (true, "fc45f15d84f4b45b53579fa56105bfcab35b4d64604f9ae796527540d3173f23"), looks := false }, kinds := [], alts := [], laidByText := true, laidKinds := [.data], laidTests := true, laidLooks := .later }
def UnitRowsCardSaid : Prop := Claim7.holds Tryd.pinned (.plain (OpenSpec.ofChange unitRowsSpec)) unitRowsCard

/-- THE TIED CARD OF 'lustrumlaw03.UnitOf'. -/
def unitOfCard : Claim7 := { stood := { row := unitOfRow, standIns := [], harness := (true, "fc45f15d84f4b45b53579fa56105bfcab35b4d64604f9ae796527540d3173f23"), looks := false }, kinds := [], alts := [], laidByText := true, laidKinds := [.data], laidTests := true, laidLooks := .later }
def UnitOfCardSaid : Prop := Claim7.holds Tryd.pinned (.plain (OpenSpec.ofChange unitOfSpec)) unitOfCard

/-- THE TIED CARD OF 'lustrumlaw03.UnitWithin'. -/
def unitWithinCard : Claim7 := { stood := { row := unitWithinRow, standIns := [], harness := (true, "fc45f15d84f4b45b53579fa56105bfcab35b4d64604f9ae796527540d3173f23"), looks := false }, kinds := [], alts := [], laidByText := true, laidKinds := [.data], laidTests := true, laidLooks := .later }
def UnitWithinCardSaid : Prop := Claim7.holds Tryd.pinned (.plain (OpenSpec.ofChange unitWithinSpec)) unitWithinCard

/-- THE TIED CARD OF 'lustrumlaw03.UnitSizes'. -/
def unitSizesCard : Claim7 := { stood := { row := unitSizesRow, standIns := [], harness := (true, "fc45f15d84f4b45b53579fa56105bfcab35b4d64604f9ae796527540d3173f23"), looks := false }, kinds := [], alts := [], laidByText := true, laidKinds := [.data], laidTests := true, laidLooks := .later }
def UnitSizesCardSaid : Prop := Claim7.holds Tryd.pinned (.plain (OpenSpec.ofChange unitSizesSpec)) unitSizesCard

/-- THE TIED CARD OF 'lustrumlaw03.UnitMade'. -/
def unitMadeCard : Claim7 := { stood := { row := unitMadeRow, standIns := [], harness := (true, "fc45f15d84f4b45b53579fa56105bfcab35b4d64604f9ae796527540d3173f23"), looks := false }, kinds := [], alts := [], laidByText := true, laidKinds := [.data], laidTests := true, laidLooks := .later }
def UnitMadeCardSaid : Prop := Claim7.holds Tryd.pinned (.plain (OpenSpec.ofChange unitMadeSpec)) unitMadeCard

/-- THE SECOND FORM's CARD OF 'lustrumlaw03.UnitRows'. -/
def unitRowsUptoCard : Claim7 := { stood := { row := unitRowsUptoRow, standIns := [], harness := (true, "fc45f15d84f4b45b53579fa56105bfcab35b4d64604f9ae796527540d3173f23"), looks := false }, kinds := [], alts := [], laidByText := true, laidKinds := [.data], laidTests := true, laidLooks := .later }
def UnitRowsUptoCardSaid : Prop := Claim7.holds Tryd.pinned (.plain (OpenSpec.upto unitRowsSpec)) unitRowsUptoCard

/-- THE SECOND FORM's CARD OF 'lustrumlaw03.UnitOf'. -/
def unitOfUptoCard : Claim7 := { stood := { row := unitOfUptoRow, standIns := [], harness := (true, "fc45f15d84f4b45b53579fa56105bfcab35b4d64604f9ae796527540d3173f23"), looks := false }, kinds := [], alts := [], laidByText := true, laidKinds := [.data], laidTests := true, laidLooks := .later }
def UnitOfUptoCardSaid : Prop := Claim7.holds Tryd.pinned (.plain (OpenSpec.upto unitOfSpec)) unitOfUptoCard

/-- THE SECOND FORM's CARD OF 'lustrumlaw03.UnitWithin'. -/
def unitWithinUptoCard : Claim7 := { stood := { row := unitWithinUptoRow, standIns := [], harness := (true, "fc45f15d84f4b45b53579fa56105bfcab35b4d64604f9ae796527540d3173f23"), looks := false }, kinds := [], alts := [], laidByText := true, laidKinds := [.data], laidTests := true, laidLooks := .later }
def UnitWithinUptoCardSaid : Prop := Claim7.holds Tryd.pinned (.plain (OpenSpec.upto unitWithinSpec)) unitWithinUptoCard

/-- THE SECOND FORM's CARD OF 'lustrumlaw03.UnitSizes'. -/
def unitSizesUptoCard : Claim7 := { stood := { row := unitSizesUptoRow, standIns := [], harness := (true, "fc45f15d84f4b45b53579fa56105bfcab35b4d64604f9ae796527540d3173f23"), looks := false }, kinds := [], alts := [], laidByText := true, laidKinds := [.data], laidTests := true, laidLooks := .later }
def UnitSizesUptoCardSaid : Prop := Claim7.holds Tryd.pinned (.plain (OpenSpec.upto unitSizesSpec)) unitSizesUptoCard

/-- THE SECOND FORM's CARD OF 'lustrumlaw03.UnitMade'. -/
def unitMadeUptoCard : Claim7 := { stood := { row := unitMadeUptoRow, standIns := [], harness := (true, "fc45f15d84f4b45b53579fa56105bfcab35b4d64604f9ae796527540d3173f23"), looks := false }, kinds := [], alts := [], laidByText := true, laidKinds := [.data], laidTests := true, laidLooks := .later }
def UnitMadeUptoCardSaid : Prop := Claim7.holds Tryd.pinned (.plain (OpenSpec.upto unitMadeSpec)) unitMadeUptoCard
end Rows
end Go.Proofs.YtbnlndiphflmpabDoor
