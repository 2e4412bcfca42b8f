/-
  DERIVED. GIVEN WITH THE SEED: THE CARDS: each row of YtjeoelajkncpcaaDoorRows.lean that lists a variable, with what it lists TIED to the program's text (the seventh form; the later family's looks); each row that meets fmt, with fmt's text TOLD by the authors' own Lean function (tested against real Go, not proved from fmt's source: count such statements apart). THE CARD IS WHAT COUNTS. Prove the row's statement (the work); the ties are given (YtjeoelajkncpcaaDoorTie.lean); close each card by the builder's one call (the guide's Derived/Test/ToyasCard.lean, 'card_holds'). Laid BY PROGRAM, IN A SANDBOX (cutbox-door.mjs). By AI agents, Wed Nov 11 2026. No macro, syntax, notation, axiom, sorry.
-/
import Derived.Test.YtjeoelajkncpcaaDoorRows
import GoSem.ClaimSeven
namespace Go.Proofs.YtjeoelajkncpcaaDoor
namespace Rows

/-- THE TIED CARD OF 'lustrumlaw07.ImageIs'. -/
def imageIsCard : Claim7 := { stood := { row := imageIsRow, standIns := [], harness := (true, "7cabbba56d989af55fc16c7ae9088821b5c01975348814669b7c6ef32afcf9a2"), looks := true }, kinds := [], alts := [], laidByText := true, laidKinds := [.data], laidTests := true, laidLooks := .later }
def ImageIsCardSaid : Prop := Claim7.holds Tryd.pinned (.plain (OpenSpec.ofChange imageIsSpec)) imageIsCard

/-- THE TIED CARD OF 'lustrumlaw07.ImageInside'. -/
def imageInsideCard : Claim7 := { stood := { row := imageInsideRow, standIns := [], harness := (true, "7cabbba56d989af55fc16c7ae9088821b5c01975348814669b7c6ef32afcf9a2"), looks := true }, kinds := [], alts := [], laidByText := true, laidKinds := [.data], laidTests := true, laidLooks := .later }
def ImageInsideCardSaid : Prop := Claim7.holds Tryd.pinned (.plain (OpenSpec.ofChange imageInsideSpec)) imageInsideCard

/-- THE TIED CARD OF 'lustrumlaw07.ImageMore'. -/
def imageMoreCard : Claim7 := { stood := { row := imageMoreRow, standIns := [], harness := (true, "7cabbba56d989af55fc16c7ae9088821b5c01975348814669b7c6ef32afcf9a2"), looks := true }, kinds := [], alts := [], laidByText := true, laidKinds := [.data], laidTests := true, laidLooks := .later }
def ImageMoreCardSaid : Prop := Claim7.holds Tryd.pinned (.plain (OpenSpec.ofChange imageMoreSpec)) imageMoreCard

/-- THE TIED CARD OF 'lustrumlaw07.ImageEnds'. -/
def imageEndsCard : Claim7 := { stood := { row := imageEndsRow, standIns := [], harness := (true, "7cabbba56d989af55fc16c7ae9088821b5c01975348814669b7c6ef32afcf9a2"), looks := true }, kinds := [], alts := [], laidByText := true, laidKinds := [.data], laidTests := true, laidLooks := .later }
def ImageEndsCardSaid : Prop := Claim7.holds Tryd.pinned (.plain (OpenSpec.ofChange imageEndsSpec)) imageEndsCard

/-- THE TIED CARD OF 'lustrumlaw07.ImageCover'. -/
def imageCoverCard : Claim7 := { stood := { row := imageCoverRow, standIns := [], harness := (true, "7cabbba56d989af55fc16c7ae9088821b5c01975348814669b7c6ef32afcf9a2"), looks := true }, kinds := [], alts := [], laidByText := true, laidKinds := [.data], laidTests := true, laidLooks := .later }
def ImageCoverCardSaid : Prop := Claim7.holds Tryd.pinned (.plain (OpenSpec.ofChange imageCoverSpec)) imageCoverCard

/-- THE TIED CARD OF 'lustrumlaw14.LeafCovers'. -/
def leafCoversCard : Claim7 := { stood := { row := leafCoversRow, standIns := [], harness := (true, "7cabbba56d989af55fc16c7ae9088821b5c01975348814669b7c6ef32afcf9a2"), looks := true }, kinds := [], alts := [], laidByText := true, laidKinds := [.data], laidTests := true, laidLooks := .later }
def LeafCoversCardSaid : Prop := Claim7.holds Tryd.pinned (.plain (OpenSpec.ofChange leafCoversSpec)) leafCoversCard

/-- THE TIED CARD OF 'lustrumlaw14.LeafPairs'. -/
def leafPairsCard : Claim7 := { stood := { row := leafPairsRow, standIns := [], harness := (true, "7cabbba56d989af55fc16c7ae9088821b5c01975348814669b7c6ef32afcf9a2"), looks := true }, kinds := [], alts := [], laidByText := true, laidKinds := [.data], laidTests := true, laidLooks := .later }
def LeafPairsCardSaid : Prop := Claim7.holds Tryd.pinned (.plain (OpenSpec.ofChange leafPairsSpec)) leafPairsCard

/-- THE TIED CARD OF 'lustrumlaw14.LeafMeans'. -/
def leafMeansCard : Claim7 := { stood := { row := leafMeansRow, standIns := [], harness := (true, "7cabbba56d989af55fc16c7ae9088821b5c01975348814669b7c6ef32afcf9a2"), looks := true }, kinds := [], alts := [], laidByText := true, laidKinds := [.data], laidTests := true, laidLooks := .later }
def LeafMeansCardSaid : Prop := Claim7.holds Tryd.pinned (.plain (OpenSpec.ofChange leafMeansSpec)) leafMeansCard

/-- THE TIED CARD OF 'lustrumlaw14.LeafTidy'. -/
def leafTidyCard : Claim7 := { stood := { row := leafTidyRow, standIns := [], harness := (true, "7cabbba56d989af55fc16c7ae9088821b5c01975348814669b7c6ef32afcf9a2"), looks := true }, kinds := [], alts := [], laidByText := true, laidKinds := [.data], laidTests := true, laidLooks := .later }
def LeafTidyCardSaid : Prop := Claim7.holds Tryd.pinned (.plain (OpenSpec.ofChange leafTidySpec)) leafTidyCard

/-- THE TIED CARD OF 'lustrumlaw14.LeafMore'. -/
def leafMoreCard : Claim7 := { stood := { row := leafMoreRow, standIns := [], harness := (true, "7cabbba56d989af55fc16c7ae9088821b5c01975348814669b7c6ef32afcf9a2"), looks := true }, kinds := [], alts := [], laidByText := true, laidKinds := [.data], laidTests := true, laidLooks := .later }
def LeafMoreCardSaid : Prop := Claim7.holds Tryd.pinned (.plain (OpenSpec.ofChange leafMoreSpec)) leafMoreCard

/-- THE TIED CARD OF 'lustrumlaw14.LeafEnds'. -/
def leafEndsCard : Claim7 := { stood := { row := leafEndsRow, standIns := [], harness := (true, "7cabbba56d989af55fc16c7ae9088821b5c01975348814669b7c6ef32afcf9a2"), looks := true }, kinds := [], alts := [], laidByText := true, laidKinds := [.data], laidTests := true, laidLooks := .later }
def LeafEndsCardSaid : Prop := Claim7.holds Tryd.pinned (.plain (OpenSpec.ofChange leafEndsSpec)) leafEndsCard

/-- THE TIED CARD OF 'lustrumlaw16.EnvIs'. -/
def envIsCard : Claim7 := { stood := { row := envIsRow, standIns := [], harness := (true, "7cabbba56d989af55fc16c7ae9088821b5c01975348814669b7c6ef32afcf9a2"), looks := true }, kinds := [], alts := [], laidByText := true, laidKinds := [.data], laidTests := true, laidLooks := .later }
def EnvIsCardSaid : Prop := Claim7.holds Tryd.pinned (.plain (OpenSpec.ofChange envIsSpec)) envIsCard

/-- THE TIED CARD OF 'lustrumlaw16.EnvMore'. -/
def envMoreCard : Claim7 := { stood := { row := envMoreRow, standIns := [], harness := (true, "7cabbba56d989af55fc16c7ae9088821b5c01975348814669b7c6ef32afcf9a2"), looks := true }, kinds := [], alts := [], laidByText := true, laidKinds := [.data], laidTests := true, laidLooks := .later }
def EnvMoreCardSaid : Prop := Claim7.holds Tryd.pinned (.plain (OpenSpec.ofChange envMoreSpec)) envMoreCard

/-- THE TIED CARD OF 'lustrumlaw16.EnvMet'. -/
def envMetCard : Claim7 := { stood := { row := envMetRow, standIns := [], harness := (true, "7cabbba56d989af55fc16c7ae9088821b5c01975348814669b7c6ef32afcf9a2"), looks := true }, kinds := [], alts := [], laidByText := true, laidKinds := [.data], laidTests := true, laidLooks := .later }
def EnvMetCardSaid : Prop := Claim7.holds Tryd.pinned (.plain (OpenSpec.ofChange envMetSpec)) envMetCard

/-- THE TIED CARD OF 'lustrumlaw16.EnvPairs'. -/
def envPairsCard : Claim7 := { stood := { row := envPairsRow, standIns := [], harness := (true, "7cabbba56d989af55fc16c7ae9088821b5c01975348814669b7c6ef32afcf9a2"), looks := true }, kinds := [], alts := [], laidByText := true, laidKinds := [.data], laidTests := true, laidLooks := .later }
def EnvPairsCardSaid : Prop := Claim7.holds Tryd.pinned (.plain (OpenSpec.ofChange envPairsSpec)) envPairsCard

/-- THE TIED CARD OF 'lustrumlaw17.CoverSets'. -/
def coverSetsCard : Claim7 := { stood := { row := coverSetsRow, standIns := [], harness := (true, "7cabbba56d989af55fc16c7ae9088821b5c01975348814669b7c6ef32afcf9a2"), looks := true }, kinds := [], alts := [], laidByText := true, laidKinds := [.data], laidTests := true, laidLooks := .later }
def CoverSetsCardSaid : Prop := Claim7.holds Tryd.pinned (.plain (OpenSpec.ofChange coverSetsSpec)) coverSetsCard

/-- THE TIED CARD OF 'lustrumlaw17.CoverMore'. -/
def coverMoreCard : Claim7 := { stood := { row := coverMoreRow, standIns := [], harness := (true, "7cabbba56d989af55fc16c7ae9088821b5c01975348814669b7c6ef32afcf9a2"), looks := true }, kinds := [], alts := [], laidByText := true, laidKinds := [.data], laidTests := true, laidLooks := .later }
def CoverMoreCardSaid : Prop := Claim7.holds Tryd.pinned (.plain (OpenSpec.ofChange coverMoreSpec)) coverMoreCard

/-- THE TIED CARD OF 'lustrumlaw17.CoverEnds'. -/
def coverEndsCard : Claim7 := { stood := { row := coverEndsRow, standIns := [], harness := (true, "7cabbba56d989af55fc16c7ae9088821b5c01975348814669b7c6ef32afcf9a2"), looks := true }, kinds := [], alts := [], laidByText := true, laidKinds := [.data], laidTests := true, laidLooks := .later }
def CoverEndsCardSaid : Prop := Claim7.holds Tryd.pinned (.plain (OpenSpec.ofChange coverEndsSpec)) coverEndsCard

/-- THE TIED CARD OF 'lustrumlaw17.CoverPairs'. -/
def coverPairsCard : Claim7 := { stood := { row := coverPairsRow, standIns := [], harness := (true, "7cabbba56d989af55fc16c7ae9088821b5c01975348814669b7c6ef32afcf9a2"), looks := true }, kinds := [], alts := [], laidByText := true, laidKinds := [.data], laidTests := true, laidLooks := .later }
def CoverPairsCardSaid : Prop := Claim7.holds Tryd.pinned (.plain (OpenSpec.ofChange coverPairsSpec)) coverPairsCard

/-- THE SECOND FORM's CARD OF 'lustrumlaw07.ImageIs'. -/
def imageIsUptoCard : Claim7 := { stood := { row := imageIsUptoRow, standIns := [], harness := (true, "7cabbba56d989af55fc16c7ae9088821b5c01975348814669b7c6ef32afcf9a2"), looks := true }, kinds := [], alts := [], laidByText := true, laidKinds := [.data], laidTests := true, laidLooks := .later }
def ImageIsUptoCardSaid : Prop := Claim7.holds Tryd.pinned (.plain (OpenSpec.upto imageIsSpec)) imageIsUptoCard

/-- THE SECOND FORM's CARD OF 'lustrumlaw07.ImageInside'. -/
def imageInsideUptoCard : Claim7 := { stood := { row := imageInsideUptoRow, standIns := [], harness := (true, "7cabbba56d989af55fc16c7ae9088821b5c01975348814669b7c6ef32afcf9a2"), looks := true }, kinds := [], alts := [], laidByText := true, laidKinds := [.data], laidTests := true, laidLooks := .later }
def ImageInsideUptoCardSaid : Prop := Claim7.holds Tryd.pinned (.plain (OpenSpec.upto imageInsideSpec)) imageInsideUptoCard

/-- THE SECOND FORM's CARD OF 'lustrumlaw07.ImageMore'. -/
def imageMoreUptoCard : Claim7 := { stood := { row := imageMoreUptoRow, standIns := [], harness := (true, "7cabbba56d989af55fc16c7ae9088821b5c01975348814669b7c6ef32afcf9a2"), looks := true }, kinds := [], alts := [], laidByText := true, laidKinds := [.data], laidTests := true, laidLooks := .later }
def ImageMoreUptoCardSaid : Prop := Claim7.holds Tryd.pinned (.plain (OpenSpec.upto imageMoreSpec)) imageMoreUptoCard

/-- THE SECOND FORM's CARD OF 'lustrumlaw07.ImageEnds'. -/
def imageEndsUptoCard : Claim7 := { stood := { row := imageEndsUptoRow, standIns := [], harness := (true, "7cabbba56d989af55fc16c7ae9088821b5c01975348814669b7c6ef32afcf9a2"), looks := true }, kinds := [], alts := [], laidByText := true, laidKinds := [.data], laidTests := true, laidLooks := .later }
def ImageEndsUptoCardSaid : Prop := Claim7.holds Tryd.pinned (.plain (OpenSpec.upto imageEndsSpec)) imageEndsUptoCard

/-- THE SECOND FORM's CARD OF 'lustrumlaw07.ImageCover'. -/
def imageCoverUptoCard : Claim7 := { stood := { row := imageCoverUptoRow, standIns := [], harness := (true, "7cabbba56d989af55fc16c7ae9088821b5c01975348814669b7c6ef32afcf9a2"), looks := true }, kinds := [], alts := [], laidByText := true, laidKinds := [.data], laidTests := true, laidLooks := .later }
def ImageCoverUptoCardSaid : Prop := Claim7.holds Tryd.pinned (.plain (OpenSpec.upto imageCoverSpec)) imageCoverUptoCard

/-- THE SECOND FORM's CARD OF 'lustrumlaw14.LeafCovers'. -/
def leafCoversUptoCard : Claim7 := { stood := { row := leafCoversUptoRow, standIns := [], harness := (true, "7cabbba56d989af55fc16c7ae9088821b5c01975348814669b7c6ef32afcf9a2"), looks := true }, kinds := [], alts := [], laidByText := true, laidKinds := [.data], laidTests := true, laidLooks := .later }
def LeafCoversUptoCardSaid : Prop := Claim7.holds Tryd.pinned (.plain (OpenSpec.upto leafCoversSpec)) leafCoversUptoCard

/-- THE SECOND FORM's CARD OF 'lustrumlaw14.LeafPairs'. -/
def leafPairsUptoCard : Claim7 := { stood := { row := leafPairsUptoRow, standIns := [], harness := (true, "7cabbba56d989af55fc16c7ae9088821b5c01975348814669b7c6ef32afcf9a2"), looks := true }, kinds := [], alts := [], laidByText := true, laidKinds := [.data], laidTests := true, laidLooks := .later }
def LeafPairsUptoCardSaid : Prop := Claim7.holds Tryd.pinned (.plain (OpenSpec.upto leafPairsSpec)) leafPairsUptoCard

/-- THE SECOND FORM's CARD OF 'lustrumlaw14.LeafMeans'. -/
def leafMeansUptoCard : Claim7 := { stood := { row := leafMeansUptoRow, standIns := [], harness := (true, "7cabbba56d989af55fc16c7ae9088821b5c01975348814669b7c6ef32afcf9a2"), looks := true }, kinds := [], alts := [], laidByText := true, laidKinds := [.data], laidTests := true, laidLooks := .later }
def LeafMeansUptoCardSaid : Prop := Claim7.holds Tryd.pinned (.plain (OpenSpec.upto leafMeansSpec)) leafMeansUptoCard

/-- THE SECOND FORM's CARD OF 'lustrumlaw14.LeafTidy'. -/
def leafTidyUptoCard : Claim7 := { stood := { row := leafTidyUptoRow, standIns := [], harness := (true, "7cabbba56d989af55fc16c7ae9088821b5c01975348814669b7c6ef32afcf9a2"), looks := true }, kinds := [], alts := [], laidByText := true, laidKinds := [.data], laidTests := true, laidLooks := .later }
def LeafTidyUptoCardSaid : Prop := Claim7.holds Tryd.pinned (.plain (OpenSpec.upto leafTidySpec)) leafTidyUptoCard

/-- THE SECOND FORM's CARD OF 'lustrumlaw14.LeafMore'. -/
def leafMoreUptoCard : Claim7 := { stood := { row := leafMoreUptoRow, standIns := [], harness := (true, "7cabbba56d989af55fc16c7ae9088821b5c01975348814669b7c6ef32afcf9a2"), looks := true }, kinds := [], alts := [], laidByText := true, laidKinds := [.data], laidTests := true, laidLooks := .later }
def LeafMoreUptoCardSaid : Prop := Claim7.holds Tryd.pinned (.plain (OpenSpec.upto leafMoreSpec)) leafMoreUptoCard

/-- THE SECOND FORM's CARD OF 'lustrumlaw14.LeafEnds'. -/
def leafEndsUptoCard : Claim7 := { stood := { row := leafEndsUptoRow, standIns := [], harness := (true, "7cabbba56d989af55fc16c7ae9088821b5c01975348814669b7c6ef32afcf9a2"), looks := true }, kinds := [], alts := [], laidByText := true, laidKinds := [.data], laidTests := true, laidLooks := .later }
def LeafEndsUptoCardSaid : Prop := Claim7.holds Tryd.pinned (.plain (OpenSpec.upto leafEndsSpec)) leafEndsUptoCard

/-- THE SECOND FORM's CARD OF 'lustrumlaw16.EnvIs'. -/
def envIsUptoCard : Claim7 := { stood := { row := envIsUptoRow, standIns := [], harness := (true, "7cabbba56d989af55fc16c7ae9088821b5c01975348814669b7c6ef32afcf9a2"), looks := true }, kinds := [], alts := [], laidByText := true, laidKinds := [.data], laidTests := true, laidLooks := .later }
def EnvIsUptoCardSaid : Prop := Claim7.holds Tryd.pinned (.plain (OpenSpec.upto envIsSpec)) envIsUptoCard

/-- THE SECOND FORM's CARD OF 'lustrumlaw16.EnvMore'. -/
def envMoreUptoCard : Claim7 := { stood := { row := envMoreUptoRow, standIns := [], harness := (true, "7cabbba56d989af55fc16c7ae9088821b5c01975348814669b7c6ef32afcf9a2"), looks := true }, kinds := [], alts := [], laidByText := true, laidKinds := [.data], laidTests := true, laidLooks := .later }
def EnvMoreUptoCardSaid : Prop := Claim7.holds Tryd.pinned (.plain (OpenSpec.upto envMoreSpec)) envMoreUptoCard

/-- THE SECOND FORM's CARD OF 'lustrumlaw16.EnvMet'. -/
def envMetUptoCard : Claim7 := { stood := { row := envMetUptoRow, standIns := [], harness := (true, "7cabbba56d989af55fc16c7ae9088821b5c01975348814669b7c6ef32afcf9a2"), looks := true }, kinds := [], alts := [], laidByText := true, laidKinds := [.data], laidTests := true, laidLooks := .later }
def EnvMetUptoCardSaid : Prop := Claim7.holds Tryd.pinned (.plain (OpenSpec.upto envMetSpec)) envMetUptoCard

/-- THE SECOND FORM's CARD OF 'lustrumlaw16.EnvPairs'. -/
def envPairsUptoCard : Claim7 := { stood := { row := envPairsUptoRow, standIns := [], harness := (true, "7cabbba56d989af55fc16c7ae9088821b5c01975348814669b7c6ef32afcf9a2"), looks := true }, kinds := [], alts := [], laidByText := true, laidKinds := [.data], laidTests := true, laidLooks := .later }
def EnvPairsUptoCardSaid : Prop := Claim7.holds Tryd.pinned (.plain (OpenSpec.upto envPairsSpec)) envPairsUptoCard

/-- THE SECOND FORM's CARD OF 'lustrumlaw17.CoverSets'. -/
def coverSetsUptoCard : Claim7 := { stood := { row := coverSetsUptoRow, standIns := [], harness := (true, "7cabbba56d989af55fc16c7ae9088821b5c01975348814669b7c6ef32afcf9a2"), looks := true }, kinds := [], alts := [], laidByText := true, laidKinds := [.data], laidTests := true, laidLooks := .later }
def CoverSetsUptoCardSaid : Prop := Claim7.holds Tryd.pinned (.plain (OpenSpec.upto coverSetsSpec)) coverSetsUptoCard

/-- THE SECOND FORM's CARD OF 'lustrumlaw17.CoverMore'. -/
def coverMoreUptoCard : Claim7 := { stood := { row := coverMoreUptoRow, standIns := [], harness := (true, "7cabbba56d989af55fc16c7ae9088821b5c01975348814669b7c6ef32afcf9a2"), looks := true }, kinds := [], alts := [], laidByText := true, laidKinds := [.data], laidTests := true, laidLooks := .later }
def CoverMoreUptoCardSaid : Prop := Claim7.holds Tryd.pinned (.plain (OpenSpec.upto coverMoreSpec)) coverMoreUptoCard

/-- THE SECOND FORM's CARD OF 'lustrumlaw17.CoverEnds'. -/
def coverEndsUptoCard : Claim7 := { stood := { row := coverEndsUptoRow, standIns := [], harness := (true, "7cabbba56d989af55fc16c7ae9088821b5c01975348814669b7c6ef32afcf9a2"), looks := true }, kinds := [], alts := [], laidByText := true, laidKinds := [.data], laidTests := true, laidLooks := .later }
def CoverEndsUptoCardSaid : Prop := Claim7.holds Tryd.pinned (.plain (OpenSpec.upto coverEndsSpec)) coverEndsUptoCard

/-- THE SECOND FORM's CARD OF 'lustrumlaw17.CoverPairs'. -/
def coverPairsUptoCard : Claim7 := { stood := { row := coverPairsUptoRow, standIns := [], harness := (true, "7cabbba56d989af55fc16c7ae9088821b5c01975348814669b7c6ef32afcf9a2"), looks := true }, kinds := [], alts := [], laidByText := true, laidKinds := [.data], laidTests := true, laidLooks := .later }
def CoverPairsUptoCardSaid : Prop := Claim7.holds Tryd.pinned (.plain (OpenSpec.upto coverPairsSpec)) coverPairsUptoCard
end Rows
end Go.Proofs.YtjeoelajkncpcaaDoor
