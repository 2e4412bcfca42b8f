/-
  DERIVED. GIVEN WITH THE SEED: THE CARDS: each row of YtocmlcpcnjaaeaaDoorRows.lean that lists a variable, with what it lists TIED to the program's text (the seventh form; the later family's looks); each row that meets fmt, with fmt's text TOLD by the authors' own Lean function (tested against real Go, not proved from fmt's source: count such statements apart). THE CARD IS WHAT COUNTS. Prove the row's statement (the work); the ties are given (YtocmlcpcnjaaeaaDoorTie.lean); close each card by the builder's one call (the guide's Derived/Test/ToyasCard.lean, 'card_holds'). Laid BY PROGRAM, IN A SANDBOX (cutbox-door.mjs). By AI agents, Wed Nov 11 2026. No macro, syntax, notation, axiom, sorry.
-/
import Derived.Test.YtocmlcpcnjaaeaaDoorRows
import GoSem.ClaimSeven
namespace Go.Proofs.YtocmlcpcnjaaeaaDoor
namespace Rows

/-- THE TIED CARD OF 'lustrumlaw21.OrderKeys'. -/
def orderKeysCard : Claim7 := { stood := { row := orderKeysRow, standIns := [], harness := (true, "05c76a7f94a8dc2cac4d3aa2fbd1d395106b7f894ddbd40eda08a2015899f74d"), looks := true }, kinds := [], alts := [], laidByText := true, laidKinds := [.data], laidTests := true, laidLooks := .later }
def OrderKeysCardSaid : Prop := Claim7.holds Tryd.pinned (.plain (OpenSpec.ofChange orderKeysSpec)) orderKeysCard

/-- THE TIED CARD OF 'lustrumlaw21.OrderCompare'. -/
def orderCompareCard : Claim7 := { stood := { row := orderCompareRow, standIns := [], harness := (true, "05c76a7f94a8dc2cac4d3aa2fbd1d395106b7f894ddbd40eda08a2015899f74d"), looks := true }, kinds := [], alts := [], laidByText := true, laidKinds := [.data], laidTests := true, laidLooks := .later }
def OrderCompareCardSaid : Prop := Claim7.holds Tryd.pinned (.plain (OpenSpec.ofChange orderCompareSpec)) orderCompareCard

/-- THE TIED CARD OF 'lustrumlaw21.OrderRises'. -/
def orderRisesCard : Claim7 := { stood := { row := orderRisesRow, standIns := [], harness := (true, "05c76a7f94a8dc2cac4d3aa2fbd1d395106b7f894ddbd40eda08a2015899f74d"), looks := true }, kinds := [], alts := [], laidByText := true, laidKinds := [.data], laidTests := true, laidLooks := .later }
def OrderRisesCardSaid : Prop := Claim7.holds Tryd.pinned (.plain (OpenSpec.ofChange orderRisesSpec)) orderRisesCard

/-- THE TIED CARD OF 'lustrumlaw21.OrderThree'. -/
def orderThreeCard : Claim7 := { stood := { row := orderThreeRow, standIns := [], harness := (true, "05c76a7f94a8dc2cac4d3aa2fbd1d395106b7f894ddbd40eda08a2015899f74d"), looks := true }, kinds := [], alts := [], laidByText := true, laidKinds := [.data], laidTests := true, laidLooks := .later }
def OrderThreeCardSaid : Prop := Claim7.holds Tryd.pinned (.plain (OpenSpec.ofChange orderThreeSpec)) orderThreeCard

/-- THE TIED CARD OF 'lustrumlaw21.OrderPairs'. -/
def orderPairsCard : Claim7 := { stood := { row := orderPairsRow, standIns := [], harness := (true, "05c76a7f94a8dc2cac4d3aa2fbd1d395106b7f894ddbd40eda08a2015899f74d"), looks := true }, kinds := [], alts := [], laidByText := true, laidKinds := [.data], laidTests := true, laidLooks := .later }
def OrderPairsCardSaid : Prop := Claim7.holds Tryd.pinned (.plain (OpenSpec.ofChange orderPairsSpec)) orderPairsCard

/-- THE SECOND FORM's CARD OF 'lustrumlaw21.OrderKeys'. -/
def orderKeysUptoCard : Claim7 := { stood := { row := orderKeysUptoRow, standIns := [], harness := (true, "05c76a7f94a8dc2cac4d3aa2fbd1d395106b7f894ddbd40eda08a2015899f74d"), looks := true }, kinds := [], alts := [], laidByText := true, laidKinds := [.data], laidTests := true, laidLooks := .later }
def OrderKeysUptoCardSaid : Prop := Claim7.holds Tryd.pinned (.plain (OpenSpec.upto orderKeysSpec)) orderKeysUptoCard

/-- THE SECOND FORM's CARD OF 'lustrumlaw21.OrderCompare'. -/
def orderCompareUptoCard : Claim7 := { stood := { row := orderCompareUptoRow, standIns := [], harness := (true, "05c76a7f94a8dc2cac4d3aa2fbd1d395106b7f894ddbd40eda08a2015899f74d"), looks := true }, kinds := [], alts := [], laidByText := true, laidKinds := [.data], laidTests := true, laidLooks := .later }
def OrderCompareUptoCardSaid : Prop := Claim7.holds Tryd.pinned (.plain (OpenSpec.upto orderCompareSpec)) orderCompareUptoCard

/-- THE SECOND FORM's CARD OF 'lustrumlaw21.OrderRises'. -/
def orderRisesUptoCard : Claim7 := { stood := { row := orderRisesUptoRow, standIns := [], harness := (true, "05c76a7f94a8dc2cac4d3aa2fbd1d395106b7f894ddbd40eda08a2015899f74d"), looks := true }, kinds := [], alts := [], laidByText := true, laidKinds := [.data], laidTests := true, laidLooks := .later }
def OrderRisesUptoCardSaid : Prop := Claim7.holds Tryd.pinned (.plain (OpenSpec.upto orderRisesSpec)) orderRisesUptoCard

/-- THE SECOND FORM's CARD OF 'lustrumlaw21.OrderThree'. -/
def orderThreeUptoCard : Claim7 := { stood := { row := orderThreeUptoRow, standIns := [], harness := (true, "05c76a7f94a8dc2cac4d3aa2fbd1d395106b7f894ddbd40eda08a2015899f74d"), looks := true }, kinds := [], alts := [], laidByText := true, laidKinds := [.data], laidTests := true, laidLooks := .later }
def OrderThreeUptoCardSaid : Prop := Claim7.holds Tryd.pinned (.plain (OpenSpec.upto orderThreeSpec)) orderThreeUptoCard

/-- THE SECOND FORM's CARD OF 'lustrumlaw21.OrderPairs'. -/
def orderPairsUptoCard : Claim7 := { stood := { row := orderPairsUptoRow, standIns := [], harness := (true, "05c76a7f94a8dc2cac4d3aa2fbd1d395106b7f894ddbd40eda08a2015899f74d"), looks := true }, kinds := [], alts := [], laidByText := true, laidKinds := [.data], laidTests := true, laidLooks := .later }
def OrderPairsUptoCardSaid : Prop := Claim7.holds Tryd.pinned (.plain (OpenSpec.upto orderPairsSpec)) orderPairsUptoCard
end Rows
end Go.Proofs.YtocmlcpcnjaaeaaDoor
