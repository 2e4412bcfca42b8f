/-
  DERIVED. GIVEN WITH THE SEED: THE CARDS: each row of YtocmlcpcnjaaeaaGreatDoorRows.lean that lists a variable, with what it lists TIED to the program's text (the seventh form; the later family's looks); each row that meets fmt, with fmt's text TOLD by the authors' own Lean function (tested against real Go, not proved from fmt's source: count such statements apart). THE CARD IS WHAT COUNTS. Prove the row's statement (the work); the ties are given (YtocmlcpcnjaaeaaGreatDoorTie.lean); close each card by the builder's one call (the guide's Derived/Test/ToyasCard.lean, 'card_holds'). Laid BY PROGRAM, IN A SANDBOX (cutbox-door.mjs). By AI agents, Wed Nov 11 2026. No macro, syntax, notation, axiom, sorry.
-/
import Derived.Test.YtocmlcpcnjaaeaaGreatDoorRows
import GoSem.ClaimSeven
namespace Go.Proofs.YtocmlcpcnjaaeaaGreatDoor
namespace Rows

/-- THE TIED CARD OF 'lustrumlaw20.RelateIs'. -/
def relateIsCard : Claim7 := { stood := { row := relateIsRow, standIns := [], harness := (true, "b5dcc57c542a9e409afe88b6d385c0aac24ca6f60b56fd4fdf07880dfdd037f7"), looks := true }, kinds := [], alts := [], laidByText := true, laidKinds := [.data], laidTests := true, laidLooks := .later }
def RelateIsCardSaid : Prop := Claim7.holds Tryz.pinned (.plain (OpenSpec.ofChange relateIsSpec)) relateIsCard

/-- THE TIED CARD OF 'lustrumlaw20.RelateMore'. -/
def relateMoreCard : Claim7 := { stood := { row := relateMoreRow, standIns := [], harness := (true, "b5dcc57c542a9e409afe88b6d385c0aac24ca6f60b56fd4fdf07880dfdd037f7"), looks := true }, kinds := [], alts := [], laidByText := true, laidKinds := [.data], laidTests := true, laidLooks := .later }
def RelateMoreCardSaid : Prop := Claim7.holds Tryz.pinned (.plain (OpenSpec.ofChange relateMoreSpec)) relateMoreCard

/-- THE TIED CARD OF 'lustrumlaw20.RelateMust'. -/
def relateMustCard : Claim7 := { stood := { row := relateMustRow, standIns := [], harness := (true, "b5dcc57c542a9e409afe88b6d385c0aac24ca6f60b56fd4fdf07880dfdd037f7"), looks := true }, kinds := [], alts := [], laidByText := true, laidKinds := [.data], laidTests := true, laidLooks := .later }
def RelateMustCardSaid : Prop := Claim7.holds Tryz.pinned (.plain (OpenSpec.ofChange relateMustSpec)) relateMustCard

/-- THE TIED CARD OF 'lustrumlaw20.RelateWide'. -/
def relateWideCard : Claim7 := { stood := { row := relateWideRow, standIns := [], harness := (true, "b5dcc57c542a9e409afe88b6d385c0aac24ca6f60b56fd4fdf07880dfdd037f7"), looks := true }, kinds := [], alts := [], laidByText := true, laidKinds := [.data], laidTests := true, laidLooks := .later }
def RelateWideCardSaid : Prop := Claim7.holds Tryz.pinned (.plain (OpenSpec.ofChange relateWideSpec)) relateWideCard

/-- THE TIED CARD OF 'lustrumlaw20.RelateInverse'. -/
def relateInverseCard : Claim7 := { stood := { row := relateInverseRow, standIns := [], harness := (true, "b5dcc57c542a9e409afe88b6d385c0aac24ca6f60b56fd4fdf07880dfdd037f7"), looks := true }, kinds := [], alts := [], laidByText := true, laidKinds := [.data], laidTests := true, laidLooks := .later }
def RelateInverseCardSaid : Prop := Claim7.holds Tryz.pinned (.plain (OpenSpec.ofChange relateInverseSpec)) relateInverseCard

/-- THE TIED CARD OF 'lustrumlaw20.RelateAll'. -/
def relateAllCard : Claim7 := { stood := { row := relateAllRow, standIns := [], harness := (true, "b5dcc57c542a9e409afe88b6d385c0aac24ca6f60b56fd4fdf07880dfdd037f7"), looks := true }, kinds := [], alts := [], laidByText := true, laidKinds := [.data, .data], laidTests := true, laidLooks := .later }
def RelateAllCardSaid : Prop := Claim7.holds Tryz.pinned (.plain (OpenSpec.ofChange relateAllSpec)) relateAllCard

/-- THE TIED CARD OF 'lustrumlaw20.RelateSound'. -/
def relateSoundCard : Claim7 := { stood := { row := relateSoundRow, standIns := [], harness := (true, "b5dcc57c542a9e409afe88b6d385c0aac24ca6f60b56fd4fdf07880dfdd037f7"), looks := true }, kinds := [], alts := [], laidByText := true, laidKinds := [.data, .data], laidTests := true, laidLooks := .later }
def RelateSoundCardSaid : Prop := Claim7.holds Tryz.pinned (.plain (OpenSpec.ofChange relateSoundSpec)) relateSoundCard

/-- THE TIED CARD OF 'lustrumlaw21.OrderIs'. -/
def orderIsCard : Claim7 := { stood := { row := orderIsRow, standIns := [], harness := (true, "b5dcc57c542a9e409afe88b6d385c0aac24ca6f60b56fd4fdf07880dfdd037f7"), looks := true }, kinds := [], alts := [], laidByText := true, laidKinds := [.data], laidTests := true, laidLooks := .later }
def OrderIsCardSaid : Prop := Claim7.holds Tryz.pinned (.plain (OpenSpec.ofChange orderIsSpec)) orderIsCard

/-- THE TIED CARD OF 'lustrumlaw21.OrderSorts'. -/
def orderSortsCard : Claim7 := { stood := { row := orderSortsRow, standIns := [], harness := (true, "b5dcc57c542a9e409afe88b6d385c0aac24ca6f60b56fd4fdf07880dfdd037f7"), looks := true }, kinds := [], alts := [], laidByText := true, laidKinds := [.data], laidTests := true, laidLooks := .later }
def OrderSortsCardSaid : Prop := Claim7.holds Tryz.pinned (.plain (OpenSpec.ofChange orderSortsSpec)) orderSortsCard

/-- THE TIED CARD OF 'lustrumlaw21.OrderRelates'. -/
def orderRelatesCard : Claim7 := { stood := { row := orderRelatesRow, standIns := [], harness := (true, "b5dcc57c542a9e409afe88b6d385c0aac24ca6f60b56fd4fdf07880dfdd037f7"), looks := true }, kinds := [], alts := [], laidByText := true, laidKinds := [.data], laidTests := true, laidLooks := .later }
def OrderRelatesCardSaid : Prop := Claim7.holds Tryz.pinned (.plain (OpenSpec.ofChange orderRelatesSpec)) orderRelatesCard

/-- THE TIED CARD OF 'lustrumlaw22.NarrowIs'. -/
def narrowIsCard : Claim7 := { stood := { row := narrowIsRow, standIns := [], harness := (true, "b5dcc57c542a9e409afe88b6d385c0aac24ca6f60b56fd4fdf07880dfdd037f7"), looks := true }, kinds := [], alts := [], laidByText := true, laidKinds := [.data], laidTests := true, laidLooks := .later }
def NarrowIsCardSaid : Prop := Claim7.holds Tryz.pinned (.plain (OpenSpec.ofChange narrowIsSpec)) narrowIsCard

/-- THE TIED CARD OF 'lustrumlaw22.NarrowOnce'. -/
def narrowOnceCard : Claim7 := { stood := { row := narrowOnceRow, standIns := [], harness := (true, "b5dcc57c542a9e409afe88b6d385c0aac24ca6f60b56fd4fdf07880dfdd037f7"), looks := true }, kinds := [], alts := [], laidByText := true, laidKinds := [.data], laidTests := true, laidLooks := .later }
def NarrowOnceCardSaid : Prop := Claim7.holds Tryz.pinned (.plain (OpenSpec.ofChange narrowOnceSpec)) narrowOnceCard

/-- THE TIED CARD OF 'lustrumlaw22.NarrowMore'. -/
def narrowMoreCard : Claim7 := { stood := { row := narrowMoreRow, standIns := [], harness := (true, "b5dcc57c542a9e409afe88b6d385c0aac24ca6f60b56fd4fdf07880dfdd037f7"), looks := true }, kinds := [], alts := [], laidByText := true, laidKinds := [.data], laidTests := true, laidLooks := .later }
def NarrowMoreCardSaid : Prop := Claim7.holds Tryz.pinned (.plain (OpenSpec.ofChange narrowMoreSpec)) narrowMoreCard

/-- THE TIED CARD OF 'lustrumlaw22.NarrowHas'. -/
def narrowHasCard : Claim7 := { stood := { row := narrowHasRow, standIns := [], harness := (true, "b5dcc57c542a9e409afe88b6d385c0aac24ca6f60b56fd4fdf07880dfdd037f7"), looks := true }, kinds := [], alts := [], laidByText := true, laidKinds := [.data], laidTests := true, laidLooks := .later }
def NarrowHasCardSaid : Prop := Claim7.holds Tryz.pinned (.plain (OpenSpec.ofChange narrowHasSpec)) narrowHasCard

/-- THE TIED CARD OF 'lustrumlaw22.NarrowFree'. -/
def narrowFreeCard : Claim7 := { stood := { row := narrowFreeRow, standIns := [], harness := (true, "b5dcc57c542a9e409afe88b6d385c0aac24ca6f60b56fd4fdf07880dfdd037f7"), looks := true }, kinds := [], alts := [], laidByText := true, laidKinds := [.data], laidTests := true, laidLooks := .later }
def NarrowFreeCardSaid : Prop := Claim7.holds Tryz.pinned (.plain (OpenSpec.ofChange narrowFreeSpec)) narrowFreeCard

/-- THE TIED CARD OF 'lustrumlaw22.NarrowShrinks'. -/
def narrowShrinksCard : Claim7 := { stood := { row := narrowShrinksRow, standIns := [], harness := (true, "b5dcc57c542a9e409afe88b6d385c0aac24ca6f60b56fd4fdf07880dfdd037f7"), looks := true }, kinds := [], alts := [], laidByText := true, laidKinds := [.data], laidTests := true, laidLooks := .later }
def NarrowShrinksCardSaid : Prop := Claim7.holds Tryz.pinned (.plain (OpenSpec.ofChange narrowShrinksSpec)) narrowShrinksCard

/-- THE TIED CARD OF 'lustrumlaw22.NarrowAll'. -/
def narrowAllCard : Claim7 := { stood := { row := narrowAllRow, standIns := [], harness := (true, "b5dcc57c542a9e409afe88b6d385c0aac24ca6f60b56fd4fdf07880dfdd037f7"), looks := true }, kinds := [], alts := [], laidByText := true, laidKinds := [.data], laidTests := true, laidLooks := .later }
def NarrowAllCardSaid : Prop := Claim7.holds Tryz.pinned (.plain (OpenSpec.ofChange narrowAllSpec)) narrowAllCard

/-- THE SECOND FORM's CARD OF 'lustrumlaw20.RelateIs'. -/
def relateIsUptoCard : Claim7 := { stood := { row := relateIsUptoRow, standIns := [], harness := (true, "b5dcc57c542a9e409afe88b6d385c0aac24ca6f60b56fd4fdf07880dfdd037f7"), looks := true }, kinds := [], alts := [], laidByText := true, laidKinds := [.data], laidTests := true, laidLooks := .later }
def RelateIsUptoCardSaid : Prop := Claim7.holds Tryz.pinned (.plain (OpenSpec.upto relateIsSpec)) relateIsUptoCard

/-- THE SECOND FORM's CARD OF 'lustrumlaw20.RelateMore'. -/
def relateMoreUptoCard : Claim7 := { stood := { row := relateMoreUptoRow, standIns := [], harness := (true, "b5dcc57c542a9e409afe88b6d385c0aac24ca6f60b56fd4fdf07880dfdd037f7"), looks := true }, kinds := [], alts := [], laidByText := true, laidKinds := [.data], laidTests := true, laidLooks := .later }
def RelateMoreUptoCardSaid : Prop := Claim7.holds Tryz.pinned (.plain (OpenSpec.upto relateMoreSpec)) relateMoreUptoCard

/-- THE SECOND FORM's CARD OF 'lustrumlaw20.RelateMust'. -/
def relateMustUptoCard : Claim7 := { stood := { row := relateMustUptoRow, standIns := [], harness := (true, "b5dcc57c542a9e409afe88b6d385c0aac24ca6f60b56fd4fdf07880dfdd037f7"), looks := true }, kinds := [], alts := [], laidByText := true, laidKinds := [.data], laidTests := true, laidLooks := .later }
def RelateMustUptoCardSaid : Prop := Claim7.holds Tryz.pinned (.plain (OpenSpec.upto relateMustSpec)) relateMustUptoCard

/-- THE SECOND FORM's CARD OF 'lustrumlaw20.RelateWide'. -/
def relateWideUptoCard : Claim7 := { stood := { row := relateWideUptoRow, standIns := [], harness := (true, "b5dcc57c542a9e409afe88b6d385c0aac24ca6f60b56fd4fdf07880dfdd037f7"), looks := true }, kinds := [], alts := [], laidByText := true, laidKinds := [.data], laidTests := true, laidLooks := .later }
def RelateWideUptoCardSaid : Prop := Claim7.holds Tryz.pinned (.plain (OpenSpec.upto relateWideSpec)) relateWideUptoCard

/-- THE SECOND FORM's CARD OF 'lustrumlaw20.RelateInverse'. -/
def relateInverseUptoCard : Claim7 := { stood := { row := relateInverseUptoRow, standIns := [], harness := (true, "b5dcc57c542a9e409afe88b6d385c0aac24ca6f60b56fd4fdf07880dfdd037f7"), looks := true }, kinds := [], alts := [], laidByText := true, laidKinds := [.data], laidTests := true, laidLooks := .later }
def RelateInverseUptoCardSaid : Prop := Claim7.holds Tryz.pinned (.plain (OpenSpec.upto relateInverseSpec)) relateInverseUptoCard

/-- THE SECOND FORM's CARD OF 'lustrumlaw20.RelateAll'. -/
def relateAllUptoCard : Claim7 := { stood := { row := relateAllUptoRow, standIns := [], harness := (true, "b5dcc57c542a9e409afe88b6d385c0aac24ca6f60b56fd4fdf07880dfdd037f7"), looks := true }, kinds := [], alts := [], laidByText := true, laidKinds := [.data, .data], laidTests := true, laidLooks := .later }
def RelateAllUptoCardSaid : Prop := Claim7.holds Tryz.pinned (.plain (OpenSpec.upto relateAllSpec)) relateAllUptoCard

/-- THE SECOND FORM's CARD OF 'lustrumlaw20.RelateSound'. -/
def relateSoundUptoCard : Claim7 := { stood := { row := relateSoundUptoRow, standIns := [], harness := (true, "b5dcc57c542a9e409afe88b6d385c0aac24ca6f60b56fd4fdf07880dfdd037f7"), looks := true }, kinds := [], alts := [], laidByText := true, laidKinds := [.data, .data], laidTests := true, laidLooks := .later }
def RelateSoundUptoCardSaid : Prop := Claim7.holds Tryz.pinned (.plain (OpenSpec.upto relateSoundSpec)) relateSoundUptoCard

/-- THE SECOND FORM's CARD OF 'lustrumlaw21.OrderIs'. -/
def orderIsUptoCard : Claim7 := { stood := { row := orderIsUptoRow, standIns := [], harness := (true, "b5dcc57c542a9e409afe88b6d385c0aac24ca6f60b56fd4fdf07880dfdd037f7"), looks := true }, kinds := [], alts := [], laidByText := true, laidKinds := [.data], laidTests := true, laidLooks := .later }
def OrderIsUptoCardSaid : Prop := Claim7.holds Tryz.pinned (.plain (OpenSpec.upto orderIsSpec)) orderIsUptoCard

/-- THE SECOND FORM's CARD OF 'lustrumlaw21.OrderSorts'. -/
def orderSortsUptoCard : Claim7 := { stood := { row := orderSortsUptoRow, standIns := [], harness := (true, "b5dcc57c542a9e409afe88b6d385c0aac24ca6f60b56fd4fdf07880dfdd037f7"), looks := true }, kinds := [], alts := [], laidByText := true, laidKinds := [.data], laidTests := true, laidLooks := .later }
def OrderSortsUptoCardSaid : Prop := Claim7.holds Tryz.pinned (.plain (OpenSpec.upto orderSortsSpec)) orderSortsUptoCard

/-- THE SECOND FORM's CARD OF 'lustrumlaw21.OrderRelates'. -/
def orderRelatesUptoCard : Claim7 := { stood := { row := orderRelatesUptoRow, standIns := [], harness := (true, "b5dcc57c542a9e409afe88b6d385c0aac24ca6f60b56fd4fdf07880dfdd037f7"), looks := true }, kinds := [], alts := [], laidByText := true, laidKinds := [.data], laidTests := true, laidLooks := .later }
def OrderRelatesUptoCardSaid : Prop := Claim7.holds Tryz.pinned (.plain (OpenSpec.upto orderRelatesSpec)) orderRelatesUptoCard

/-- THE SECOND FORM's CARD OF 'lustrumlaw22.NarrowIs'. -/
def narrowIsUptoCard : Claim7 := { stood := { row := narrowIsUptoRow, standIns := [], harness := (true, "b5dcc57c542a9e409afe88b6d385c0aac24ca6f60b56fd4fdf07880dfdd037f7"), looks := true }, kinds := [], alts := [], laidByText := true, laidKinds := [.data], laidTests := true, laidLooks := .later }
def NarrowIsUptoCardSaid : Prop := Claim7.holds Tryz.pinned (.plain (OpenSpec.upto narrowIsSpec)) narrowIsUptoCard

/-- THE SECOND FORM's CARD OF 'lustrumlaw22.NarrowOnce'. -/
def narrowOnceUptoCard : Claim7 := { stood := { row := narrowOnceUptoRow, standIns := [], harness := (true, "b5dcc57c542a9e409afe88b6d385c0aac24ca6f60b56fd4fdf07880dfdd037f7"), looks := true }, kinds := [], alts := [], laidByText := true, laidKinds := [.data], laidTests := true, laidLooks := .later }
def NarrowOnceUptoCardSaid : Prop := Claim7.holds Tryz.pinned (.plain (OpenSpec.upto narrowOnceSpec)) narrowOnceUptoCard

/-- THE SECOND FORM's CARD OF 'lustrumlaw22.NarrowMore'. -/
def narrowMoreUptoCard : Claim7 := { stood := { row := narrowMoreUptoRow, standIns := [], harness := (true, "b5dcc57c542a9e409afe88b6d385c0aac24ca6f60b56fd4fdf07880dfdd037f7"), looks := true }, kinds := [], alts := [], laidByText := true, laidKinds := [.data], laidTests := true, laidLooks := .later }
def NarrowMoreUptoCardSaid : Prop := Claim7.holds Tryz.pinned (.plain (OpenSpec.upto narrowMoreSpec)) narrowMoreUptoCard

/-- THE SECOND FORM's CARD OF 'lustrumlaw22.NarrowHas'. -/
def narrowHasUptoCard : Claim7 := { stood := { row := narrowHasUptoRow, standIns := [], harness := (true, "b5dcc57c542a9e409afe88b6d385c0aac24ca6f60b56fd4fdf07880dfdd037f7"), looks := true }, kinds := [], alts := [], laidByText := true, laidKinds := [.data], laidTests := true, laidLooks := .later }
def NarrowHasUptoCardSaid : Prop := Claim7.holds Tryz.pinned (.plain (OpenSpec.upto narrowHasSpec)) narrowHasUptoCard

/-- THE SECOND FORM's CARD OF 'lustrumlaw22.NarrowFree'. -/
def narrowFreeUptoCard : Claim7 := { stood := { row := narrowFreeUptoRow, standIns := [], harness := (true, "b5dcc57c542a9e409afe88b6d385c0aac24ca6f60b56fd4fdf07880dfdd037f7"), looks := true }, kinds := [], alts := [], laidByText := true, laidKinds := [.data], laidTests := true, laidLooks := .later }
def NarrowFreeUptoCardSaid : Prop := Claim7.holds Tryz.pinned (.plain (OpenSpec.upto narrowFreeSpec)) narrowFreeUptoCard

/-- THE SECOND FORM's CARD OF 'lustrumlaw22.NarrowShrinks'. -/
def narrowShrinksUptoCard : Claim7 := { stood := { row := narrowShrinksUptoRow, standIns := [], harness := (true, "b5dcc57c542a9e409afe88b6d385c0aac24ca6f60b56fd4fdf07880dfdd037f7"), looks := true }, kinds := [], alts := [], laidByText := true, laidKinds := [.data], laidTests := true, laidLooks := .later }
def NarrowShrinksUptoCardSaid : Prop := Claim7.holds Tryz.pinned (.plain (OpenSpec.upto narrowShrinksSpec)) narrowShrinksUptoCard

/-- THE SECOND FORM's CARD OF 'lustrumlaw22.NarrowAll'. -/
def narrowAllUptoCard : Claim7 := { stood := { row := narrowAllUptoRow, standIns := [], harness := (true, "b5dcc57c542a9e409afe88b6d385c0aac24ca6f60b56fd4fdf07880dfdd037f7"), looks := true }, kinds := [], alts := [], laidByText := true, laidKinds := [.data], laidTests := true, laidLooks := .later }
def NarrowAllUptoCardSaid : Prop := Claim7.holds Tryz.pinned (.plain (OpenSpec.upto narrowAllSpec)) narrowAllUptoCard
end Rows
end Go.Proofs.YtocmlcpcnjaaeaaGreatDoor
