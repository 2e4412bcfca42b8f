/-
  DERIVED. GIVEN WITH THE SEED: THE CARDS: each row of YtdlgenbfnahmeaaGreatDoorRows.lean that lists a variable, with what it lists TIED to the program's text (the seventh form; the later family's looks); each row that meets fmt, with fmt's text TOLD by the authors' own Lean function (tested against real Go, not proved from fmt's source: count such statements apart). THE CARD IS WHAT COUNTS. Prove the row's statement (the work); the ties are given (YtdlgenbfnahmeaaGreatDoorTie.lean); close each card by the builder's one call (the guide's Derived/Test/ToyasCard.lean, 'card_holds'). Laid BY PROGRAM, IN A SANDBOX (cutbox-door.mjs). By AI agents, Wed Nov 11 2026. No macro, syntax, notation, axiom, sorry.
-/
import Derived.Test.YtdlgenbfnahmeaaGreatDoorRows
import GoSem.ClaimSeven
namespace Go.Proofs.YtdlgenbfnahmeaaGreatDoor
namespace Rows

/-- THE TIED CARD OF 'lustrumlaw22.NarrowIs'. -/
def narrowIsCard : Claim7 := { stood := { row := narrowIsRow, standIns := [], harness := (true, "b1d5bea57e8ba6e6a5b810237e4267f2904c478e6d60f9bc29368d735217b55c"), looks := true }, kinds := [], alts := [], laidByText := true, laidKinds := [.data], laidTests := true, laidLooks := .later }
def NarrowIsCardSaid : Prop := Claim7.holds Tryz.pinned (.plain (OpenSpec.ofChange narrowIsSpec)) narrowIsCard

/-- THE TIED CARD OF 'lustrumlaw22.NarrowOnce'. -/
def narrowOnceCard : Claim7 := { stood := { row := narrowOnceRow, standIns := [], harness := (true, "b1d5bea57e8ba6e6a5b810237e4267f2904c478e6d60f9bc29368d735217b55c"), looks := true }, kinds := [], alts := [], laidByText := true, laidKinds := [.data], laidTests := true, laidLooks := .later }
def NarrowOnceCardSaid : Prop := Claim7.holds Tryz.pinned (.plain (OpenSpec.ofChange narrowOnceSpec)) narrowOnceCard

/-- THE TIED CARD OF 'lustrumlaw22.NarrowMore'. -/
def narrowMoreCard : Claim7 := { stood := { row := narrowMoreRow, standIns := [], harness := (true, "b1d5bea57e8ba6e6a5b810237e4267f2904c478e6d60f9bc29368d735217b55c"), looks := true }, kinds := [], alts := [], laidByText := true, laidKinds := [.data], laidTests := true, laidLooks := .later }
def NarrowMoreCardSaid : Prop := Claim7.holds Tryz.pinned (.plain (OpenSpec.ofChange narrowMoreSpec)) narrowMoreCard

/-- THE TIED CARD OF 'lustrumlaw22.NarrowHas'. -/
def narrowHasCard : Claim7 := { stood := { row := narrowHasRow, standIns := [], harness := (true, "b1d5bea57e8ba6e6a5b810237e4267f2904c478e6d60f9bc29368d735217b55c"), looks := true }, kinds := [], alts := [], laidByText := true, laidKinds := [.data], laidTests := true, laidLooks := .later }
def NarrowHasCardSaid : Prop := Claim7.holds Tryz.pinned (.plain (OpenSpec.ofChange narrowHasSpec)) narrowHasCard

/-- THE TIED CARD OF 'lustrumlaw22.NarrowFree'. -/
def narrowFreeCard : Claim7 := { stood := { row := narrowFreeRow, standIns := [], harness := (true, "b1d5bea57e8ba6e6a5b810237e4267f2904c478e6d60f9bc29368d735217b55c"), looks := true }, kinds := [], alts := [], laidByText := true, laidKinds := [.data], laidTests := true, laidLooks := .later }
def NarrowFreeCardSaid : Prop := Claim7.holds Tryz.pinned (.plain (OpenSpec.ofChange narrowFreeSpec)) narrowFreeCard

/-- THE TIED CARD OF 'lustrumlaw22.NarrowShrinks'. -/
def narrowShrinksCard : Claim7 := { stood := { row := narrowShrinksRow, standIns := [], harness := (true, "b1d5bea57e8ba6e6a5b810237e4267f2904c478e6d60f9bc29368d735217b55c"), looks := true }, kinds := [], alts := [], laidByText := true, laidKinds := [.data], laidTests := true, laidLooks := .later }
def NarrowShrinksCardSaid : Prop := Claim7.holds Tryz.pinned (.plain (OpenSpec.ofChange narrowShrinksSpec)) narrowShrinksCard

/-- THE TIED CARD OF 'lustrumlaw22.NarrowAll'. -/
def narrowAllCard : Claim7 := { stood := { row := narrowAllRow, standIns := [], harness := (true, "b1d5bea57e8ba6e6a5b810237e4267f2904c478e6d60f9bc29368d735217b55c"), looks := true }, kinds := [], alts := [], laidByText := true, laidKinds := [.data], laidTests := true, laidLooks := .later }
def NarrowAllCardSaid : Prop := Claim7.holds Tryz.pinned (.plain (OpenSpec.ofChange narrowAllSpec)) narrowAllCard

/-- THE SECOND FORM's CARD OF 'lustrumlaw22.NarrowIs'. -/
def narrowIsUptoCard : Claim7 := { stood := { row := narrowIsUptoRow, standIns := [], harness := (true, "b1d5bea57e8ba6e6a5b810237e4267f2904c478e6d60f9bc29368d735217b55c"), looks := true }, kinds := [], alts := [], laidByText := true, laidKinds := [.data], laidTests := true, laidLooks := .later }
def NarrowIsUptoCardSaid : Prop := Claim7.holds Tryz.pinned (.plain (OpenSpec.upto narrowIsSpec)) narrowIsUptoCard

/-- THE SECOND FORM's CARD OF 'lustrumlaw22.NarrowOnce'. -/
def narrowOnceUptoCard : Claim7 := { stood := { row := narrowOnceUptoRow, standIns := [], harness := (true, "b1d5bea57e8ba6e6a5b810237e4267f2904c478e6d60f9bc29368d735217b55c"), looks := true }, kinds := [], alts := [], laidByText := true, laidKinds := [.data], laidTests := true, laidLooks := .later }
def NarrowOnceUptoCardSaid : Prop := Claim7.holds Tryz.pinned (.plain (OpenSpec.upto narrowOnceSpec)) narrowOnceUptoCard

/-- THE SECOND FORM's CARD OF 'lustrumlaw22.NarrowMore'. -/
def narrowMoreUptoCard : Claim7 := { stood := { row := narrowMoreUptoRow, standIns := [], harness := (true, "b1d5bea57e8ba6e6a5b810237e4267f2904c478e6d60f9bc29368d735217b55c"), looks := true }, kinds := [], alts := [], laidByText := true, laidKinds := [.data], laidTests := true, laidLooks := .later }
def NarrowMoreUptoCardSaid : Prop := Claim7.holds Tryz.pinned (.plain (OpenSpec.upto narrowMoreSpec)) narrowMoreUptoCard

/-- THE SECOND FORM's CARD OF 'lustrumlaw22.NarrowHas'. -/
def narrowHasUptoCard : Claim7 := { stood := { row := narrowHasUptoRow, standIns := [], harness := (true, "b1d5bea57e8ba6e6a5b810237e4267f2904c478e6d60f9bc29368d735217b55c"), looks := true }, kinds := [], alts := [], laidByText := true, laidKinds := [.data], laidTests := true, laidLooks := .later }
def NarrowHasUptoCardSaid : Prop := Claim7.holds Tryz.pinned (.plain (OpenSpec.upto narrowHasSpec)) narrowHasUptoCard

/-- THE SECOND FORM's CARD OF 'lustrumlaw22.NarrowFree'. -/
def narrowFreeUptoCard : Claim7 := { stood := { row := narrowFreeUptoRow, standIns := [], harness := (true, "b1d5bea57e8ba6e6a5b810237e4267f2904c478e6d60f9bc29368d735217b55c"), looks := true }, kinds := [], alts := [], laidByText := true, laidKinds := [.data], laidTests := true, laidLooks := .later }
def NarrowFreeUptoCardSaid : Prop := Claim7.holds Tryz.pinned (.plain (OpenSpec.upto narrowFreeSpec)) narrowFreeUptoCard

/-- THE SECOND FORM's CARD OF 'lustrumlaw22.NarrowShrinks'. -/
def narrowShrinksUptoCard : Claim7 := { stood := { row := narrowShrinksUptoRow, standIns := [], harness := (true, "b1d5bea57e8ba6e6a5b810237e4267f2904c478e6d60f9bc29368d735217b55c"), looks := true }, kinds := [], alts := [], laidByText := true, laidKinds := [.data], laidTests := true, laidLooks := .later }
def NarrowShrinksUptoCardSaid : Prop := Claim7.holds Tryz.pinned (.plain (OpenSpec.upto narrowShrinksSpec)) narrowShrinksUptoCard

/-- THE SECOND FORM's CARD OF 'lustrumlaw22.NarrowAll'. -/
def narrowAllUptoCard : Claim7 := { stood := { row := narrowAllUptoRow, standIns := [], harness := (true, "b1d5bea57e8ba6e6a5b810237e4267f2904c478e6d60f9bc29368d735217b55c"), looks := true }, kinds := [], alts := [], laidByText := true, laidKinds := [.data], laidTests := true, laidLooks := .later }
def NarrowAllUptoCardSaid : Prop := Claim7.holds Tryz.pinned (.plain (OpenSpec.upto narrowAllSpec)) narrowAllUptoCard
end Rows
end Go.Proofs.YtdlgenbfnahmeaaGreatDoor
