/-
  DERIVED. GIVEN WITH THE SEED: THE CARDS: each row of YtbnlndiphflmpaaDoorRows.lean that lists a variable, with what it lists TIED to the program's text (the seventh form; the later family's looks); each row that meets fmt, with fmt's text TOLD by the authors' own Lean function (tested against real Go, not proved from fmt's source: count such statements apart). THE CARD IS WHAT COUNTS. Prove the row's statement (the work); the ties are given (YtbnlndiphflmpaaDoorTie.lean); close each card by the builder's one call (the guide's Derived/Test/ToyasCard.lean, 'card_holds'). Laid BY PROGRAM, IN A SANDBOX (cutbox-door.mjs). By AI agents, Wed Nov 11 2026. No macro, syntax, notation, axiom, sorry.
-/
import Derived.Test.YtbnlndiphflmpaaDoorRows
import GoSem.ClaimSeven
namespace Go.Proofs.YtbnlndiphflmpaaDoor
namespace Rows

/-- THE TIED CARD OF 'lustrumlaw02.CivilIs'. -/
def civilIsCard : Claim7 := { stood := { row := civilIsRow, standIns := [], harness := (true, "f29338cff42d38bea1e0755394a46bef423840a38c4d5e9691879591b7ef6c54"), looks := false }, kinds := [], alts := [], laidByText := true, laidKinds := [.data], laidTests := true, laidLooks := .later }
def CivilIsCardSaid : Prop := Claim7.holds Tryd.pinned (.plain (OpenSpec.ofChange civilIsSpec)) civilIsCard

/-- THE TIED CARD OF 'lustrumlaw02.CivilBack'. -/
def civilBackCard : Claim7 := { stood := { row := civilBackRow, standIns := [], harness := (true, "f29338cff42d38bea1e0755394a46bef423840a38c4d5e9691879591b7ef6c54"), looks := false }, kinds := [], alts := [], laidByText := true, laidKinds := [.data], laidTests := true, laidLooks := .later }
def CivilBackCardSaid : Prop := Claim7.holds Tryd.pinned (.plain (OpenSpec.ofChange civilBackSpec)) civilBackCard

/-- THE TIED CARD OF 'lustrumlaw02.CivilNext'. -/
def civilNextCard : Claim7 := { stood := { row := civilNextRow, standIns := [], harness := (true, "f29338cff42d38bea1e0755394a46bef423840a38c4d5e9691879591b7ef6c54"), looks := false }, kinds := [], alts := [], laidByText := true, laidKinds := [.data], laidTests := true, laidLooks := .later }
def CivilNextCardSaid : Prop := Claim7.holds Tryd.pinned (.plain (OpenSpec.ofChange civilNextSpec)) civilNextCard

/-- THE TIED CARD OF 'lustrumlaw02.CivilYears'. -/
def civilYearsCard : Claim7 := { stood := { row := civilYearsRow, standIns := [], harness := (true, "f29338cff42d38bea1e0755394a46bef423840a38c4d5e9691879591b7ef6c54"), looks := false }, kinds := [], alts := [], laidByText := true, laidKinds := [.data], laidTests := true, laidLooks := .later }
def CivilYearsCardSaid : Prop := Claim7.holds Tryd.pinned (.plain (OpenSpec.ofChange civilYearsSpec)) civilYearsCard

/-- THE TIED CARD OF 'lustrumlaw02.CivilOrder'. -/
def civilOrderCard : Claim7 := { stood := { row := civilOrderRow, standIns := [], harness := (true, "f29338cff42d38bea1e0755394a46bef423840a38c4d5e9691879591b7ef6c54"), looks := false }, kinds := [], alts := [], laidByText := true, laidKinds := [.data], laidTests := true, laidLooks := .later }
def CivilOrderCardSaid : Prop := Claim7.holds Tryd.pinned (.plain (OpenSpec.ofChange civilOrderSpec)) civilOrderCard

/-- THE TIED CARD OF 'lustrumlaw03.UnitIs'. -/
def unitIsCard : Claim7 := { stood := { row := unitIsRow, standIns := [], harness := (true, "f29338cff42d38bea1e0755394a46bef423840a38c4d5e9691879591b7ef6c54"), looks := false }, kinds := [], alts := [], laidByText := true, laidKinds := [.data], laidTests := true, laidLooks := .later }
def UnitIsCardSaid : Prop := Claim7.holds Tryd.pinned (.plain (OpenSpec.ofChange unitIsSpec)) unitIsCard

/-- THE SECOND FORM's CARD OF 'lustrumlaw02.CivilIs'. -/
def civilIsUptoCard : Claim7 := { stood := { row := civilIsUptoRow, standIns := [], harness := (true, "f29338cff42d38bea1e0755394a46bef423840a38c4d5e9691879591b7ef6c54"), looks := false }, kinds := [], alts := [], laidByText := true, laidKinds := [.data], laidTests := true, laidLooks := .later }
def CivilIsUptoCardSaid : Prop := Claim7.holds Tryd.pinned (.plain (OpenSpec.upto civilIsSpec)) civilIsUptoCard

/-- THE SECOND FORM's CARD OF 'lustrumlaw02.CivilBack'. -/
def civilBackUptoCard : Claim7 := { stood := { row := civilBackUptoRow, standIns := [], harness := (true, "f29338cff42d38bea1e0755394a46bef423840a38c4d5e9691879591b7ef6c54"), looks := false }, kinds := [], alts := [], laidByText := true, laidKinds := [.data], laidTests := true, laidLooks := .later }
def CivilBackUptoCardSaid : Prop := Claim7.holds Tryd.pinned (.plain (OpenSpec.upto civilBackSpec)) civilBackUptoCard

/-- THE SECOND FORM's CARD OF 'lustrumlaw02.CivilNext'. -/
def civilNextUptoCard : Claim7 := { stood := { row := civilNextUptoRow, standIns := [], harness := (true, "f29338cff42d38bea1e0755394a46bef423840a38c4d5e9691879591b7ef6c54"), looks := false }, kinds := [], alts := [], laidByText := true, laidKinds := [.data], laidTests := true, laidLooks := .later }
def CivilNextUptoCardSaid : Prop := Claim7.holds Tryd.pinned (.plain (OpenSpec.upto civilNextSpec)) civilNextUptoCard

/-- THE SECOND FORM's CARD OF 'lustrumlaw02.CivilYears'. -/
def civilYearsUptoCard : Claim7 := { stood := { row := civilYearsUptoRow, standIns := [], harness := (true, "f29338cff42d38bea1e0755394a46bef423840a38c4d5e9691879591b7ef6c54"), looks := false }, kinds := [], alts := [], laidByText := true, laidKinds := [.data], laidTests := true, laidLooks := .later }
def CivilYearsUptoCardSaid : Prop := Claim7.holds Tryd.pinned (.plain (OpenSpec.upto civilYearsSpec)) civilYearsUptoCard

/-- THE SECOND FORM's CARD OF 'lustrumlaw02.CivilOrder'. -/
def civilOrderUptoCard : Claim7 := { stood := { row := civilOrderUptoRow, standIns := [], harness := (true, "f29338cff42d38bea1e0755394a46bef423840a38c4d5e9691879591b7ef6c54"), looks := false }, kinds := [], alts := [], laidByText := true, laidKinds := [.data], laidTests := true, laidLooks := .later }
def CivilOrderUptoCardSaid : Prop := Claim7.holds Tryd.pinned (.plain (OpenSpec.upto civilOrderSpec)) civilOrderUptoCard

/-- THE SECOND FORM's CARD OF 'lustrumlaw03.UnitIs'. -/
def unitIsUptoCard : Claim7 := { stood := { row := unitIsUptoRow, standIns := [], harness := (true, "f29338cff42d38bea1e0755394a46bef423840a38c4d5e9691879591b7ef6c54"), looks := false }, kinds := [], alts := [], laidByText := true, laidKinds := [.data], laidTests := true, laidLooks := .later }
def UnitIsUptoCardSaid : Prop := Claim7.holds Tryd.pinned (.plain (OpenSpec.upto unitIsSpec)) unitIsUptoCard
end Rows
end Go.Proofs.YtbnlndiphflmpaaDoor
