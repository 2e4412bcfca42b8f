/-
  NARROWER THAN 'FOR EVERY INPUT', by the rows' own cells (each row's printed sentence says how): RelateIs: laid · RelateMore: laid · RelateMust: laid · RelateWide: laid · RelateInverse: laid · RelateAll: laid · RelateSound: laid · OrderIs: laid · OrderSorts: laid · OrderRelates: laid · NarrowIs: laid · NarrowOnce: laid · NarrowMore: laid · NarrowHas: laid · NarrowFree: laid · NarrowShrinks: laid · NarrowAll: laid.
  DERIVED. THE GIVEN ROWS OF THIS SEAT. 17 by the template 'for every input the law returns true; each argument reads behind the call as it read before'; 0 by the template 'total and deterministic' (their statements: YtocmlcpcnjaaeaaGreatDoorTotals.lean).
  GIVEN WITH THE SEED: the statements are not yours to turn. If you find one false, say at which input.
  Laid BY PROGRAM, IN A SANDBOX (cutbox-rows.mjs): the forced cells as the released guide's own fill.sh prints them over the translation 3717fcb97f9043ac… (all of the seat's roots in one cut). By AI agents, Wed Nov 11 2026. No macro, syntax, notation, axiom, sorry.
-/
import Derived.Test.YtocmlcpcnjaaeaaGreatDoorChecked
import GoSem.Claim
import GoSem.ClaimJoined
import GoSem.ClaimMapViews
import Derived.JoinedTies
import Derived.KernelRfl
namespace Go.Proofs.YtocmlcpcnjaaeaaGreatDoor
/- THE CELL 'sum', in the pinned program and in every row, IS THE sha256 OF THE DUMP (.gsa) THAT YtocmlcpcnjaaeaaGreatDoorProg.lean LOADS. Nothing in Lean hashes anything: it is a label: what it is worth is what the hold of that sum in a sandbox is worth. -/
noncomputable def Tryz.pinned : Pinned := { name := "ytocmlcpcnjaaeaagreatdoor", sum := "3717fcb97f9043ac766e4f775d2c0b124a729d5cd95d9fe77fbe6024ff9c616e", checked := Tryz.checked }
namespace Rows
def none {H : Type} : Left H := { results := [], args := [] }

/- WHAT THE LISTED PACKAGE-LEVEL VARIABLES READ AS WHEN THE CALL BEGINS. Each datum BY PROGRAM (the guide's laid-datum.mjs) off the statement by which the dump's own 'gosem.cut.vars' lays the variable. In a bare row this is a premise. The card (YtocmlcpcnjaaeaaGreatDoorCards.lean) ties it to the program's text. -/
def laid_lustrum_civil_lengths {H : Type} : DataW H := .agg [.lit (.int .i64 0), .lit (.int .i64 31), .lit (.int .i64 28), .lit (.int .i64 31), .lit (.int .i64 30), .lit (.int .i64 31), .lit (.int .i64 30), .lit (.int .i64 31), .lit (.int .i64 31), .lit (.int .i64 30), .lit (.int .i64 31), .lit (.int .i64 30), .lit (.int .i64 31)]
def laid_lustrum_allen_shared {H : Type} : DataW H := .agg [.agg [.lit (.int .i64 2), .lit (.int .i64 7), .lit (.int .i64 8)], .agg [.lit (.int .i64 3), .lit (.int .i64 6), .lit (.int .i64 9)], .agg [.lit (.int .i64 4), .lit (.int .i64 5), .lit (.int .i64 10)]]

/-- 'lustrumlaw20.RelateIs': WHATEVER THE INPUT: true; the input reads as it did. -/
def relateIsSpec : ChangeSpec := { name := "relateIs", fn := fun _ => fun
  | [d1, d2, d3, d4] => { results := [.lit (.bool true)], args := [d1, d2, d3, d4] }
  | _ => none }
def relateIsRow : OpenClaim := { program := "ytocmlcpcnjaaeaagreatdoor", sum := "3717fcb97f9043ac766e4f775d2c0b124a729d5cd95d9fe77fbe6024ff9c616e", func := "lustrum/lustrumlaw20.RelateIs", spec := "relateIs", unfollowed := true, recurses := true, named := ["lustrum/civil.lengths"], apart := false, laid := [("lustrum/civil.lengths", laid_lustrum_civil_lengths)] }
def RelateIsSaid : Prop := relateIsRow.holds Tryz.pinned (OpenSpec.ofChange relateIsSpec)

/-- ITS FALSE NEIGHBOUR: 'it returns false'. Refute it at one input. -/
def relateIsWrong : ChangeSpec := { name := "relateIs", fn := fun _ => fun
  | [d1, d2, d3, d4] => { results := [.lit (.bool false)], args := [d1, d2, d3, d4] }
  | _ => none }
def RelateIsWrongFalsely : Prop := relateIsRow.holds Tryz.pinned (OpenSpec.ofChange relateIsWrong)

/-- 'lustrumlaw20.RelateMore': WHATEVER THE INPUT: true; the input reads as it did. -/
def relateMoreSpec : ChangeSpec := { name := "relateMore", fn := fun _ => fun
  | [d1, d2, d3] => { results := [.lit (.bool true)], args := [d1, d2, d3] }
  | _ => none }
def relateMoreRow : OpenClaim := { program := "ytocmlcpcnjaaeaagreatdoor", sum := "3717fcb97f9043ac766e4f775d2c0b124a729d5cd95d9fe77fbe6024ff9c616e", func := "lustrum/lustrumlaw20.RelateMore", spec := "relateMore", unfollowed := true, recurses := true, named := ["lustrum/civil.lengths"], apart := false, laid := [("lustrum/civil.lengths", laid_lustrum_civil_lengths)] }
def RelateMoreSaid : Prop := relateMoreRow.holds Tryz.pinned (OpenSpec.ofChange relateMoreSpec)

/-- ITS FALSE NEIGHBOUR: 'it returns false'. Refute it at one input. -/
def relateMoreWrong : ChangeSpec := { name := "relateMore", fn := fun _ => fun
  | [d1, d2, d3] => { results := [.lit (.bool false)], args := [d1, d2, d3] }
  | _ => none }
def RelateMoreWrongFalsely : Prop := relateMoreRow.holds Tryz.pinned (OpenSpec.ofChange relateMoreWrong)

/-- 'lustrumlaw20.RelateMust': WHATEVER THE INPUT: true; the input reads as it did. -/
def relateMustSpec : ChangeSpec := { name := "relateMust", fn := fun _ => fun
  | [d1, d2, d3] => { results := [.lit (.bool true)], args := [d1, d2, d3] }
  | _ => none }
def relateMustRow : OpenClaim := { program := "ytocmlcpcnjaaeaagreatdoor", sum := "3717fcb97f9043ac766e4f775d2c0b124a729d5cd95d9fe77fbe6024ff9c616e", func := "lustrum/lustrumlaw20.RelateMust", spec := "relateMust", unfollowed := true, recurses := true, named := ["lustrum/civil.lengths"], apart := false, laid := [("lustrum/civil.lengths", laid_lustrum_civil_lengths)] }
def RelateMustSaid : Prop := relateMustRow.holds Tryz.pinned (OpenSpec.ofChange relateMustSpec)

/-- ITS FALSE NEIGHBOUR: 'it returns false'. Refute it at one input. -/
def relateMustWrong : ChangeSpec := { name := "relateMust", fn := fun _ => fun
  | [d1, d2, d3] => { results := [.lit (.bool false)], args := [d1, d2, d3] }
  | _ => none }
def RelateMustWrongFalsely : Prop := relateMustRow.holds Tryz.pinned (OpenSpec.ofChange relateMustWrong)

/-- 'lustrumlaw20.RelateWide': WHATEVER THE INPUT: true; the input reads as it did. -/
def relateWideSpec : ChangeSpec := { name := "relateWide", fn := fun _ => fun
  | [d1, d2, d3] => { results := [.lit (.bool true)], args := [d1, d2, d3] }
  | _ => none }
def relateWideRow : OpenClaim := { program := "ytocmlcpcnjaaeaagreatdoor", sum := "3717fcb97f9043ac766e4f775d2c0b124a729d5cd95d9fe77fbe6024ff9c616e", func := "lustrum/lustrumlaw20.RelateWide", spec := "relateWide", unfollowed := true, recurses := true, named := ["lustrum/civil.lengths"], apart := false, laid := [("lustrum/civil.lengths", laid_lustrum_civil_lengths)] }
def RelateWideSaid : Prop := relateWideRow.holds Tryz.pinned (OpenSpec.ofChange relateWideSpec)

/-- ITS FALSE NEIGHBOUR: 'it returns false'. Refute it at one input. -/
def relateWideWrong : ChangeSpec := { name := "relateWide", fn := fun _ => fun
  | [d1, d2, d3] => { results := [.lit (.bool false)], args := [d1, d2, d3] }
  | _ => none }
def RelateWideWrongFalsely : Prop := relateWideRow.holds Tryz.pinned (OpenSpec.ofChange relateWideWrong)

/-- 'lustrumlaw20.RelateInverse': WHATEVER THE INPUT: true; the input reads as it did. -/
def relateInverseSpec : ChangeSpec := { name := "relateInverse", fn := fun _ => fun
  | [d1, d2] => { results := [.lit (.bool true)], args := [d1, d2] }
  | _ => none }
def relateInverseRow : OpenClaim := { program := "ytocmlcpcnjaaeaagreatdoor", sum := "3717fcb97f9043ac766e4f775d2c0b124a729d5cd95d9fe77fbe6024ff9c616e", func := "lustrum/lustrumlaw20.RelateInverse", spec := "relateInverse", unfollowed := true, recurses := true, named := ["lustrum/civil.lengths"], apart := false, laid := [("lustrum/civil.lengths", laid_lustrum_civil_lengths)] }
def RelateInverseSaid : Prop := relateInverseRow.holds Tryz.pinned (OpenSpec.ofChange relateInverseSpec)

/-- ITS FALSE NEIGHBOUR: 'it returns false'. Refute it at one input. -/
def relateInverseWrong : ChangeSpec := { name := "relateInverse", fn := fun _ => fun
  | [d1, d2] => { results := [.lit (.bool false)], args := [d1, d2] }
  | _ => none }
def RelateInverseWrongFalsely : Prop := relateInverseRow.holds Tryz.pinned (OpenSpec.ofChange relateInverseWrong)

/-- 'lustrumlaw20.RelateAll': WHATEVER THE INPUT: true; the input reads as it did. -/
def relateAllSpec : ChangeSpec := { name := "relateAll", fn := fun _ => fun
  | [d1, d2] => { results := [.lit (.bool true)], args := [d1, d2] }
  | _ => none }
def relateAllRow : OpenClaim := { program := "ytocmlcpcnjaaeaagreatdoor", sum := "3717fcb97f9043ac766e4f775d2c0b124a729d5cd95d9fe77fbe6024ff9c616e", func := "lustrum/lustrumlaw20.RelateAll", spec := "relateAll", unfollowed := true, recurses := true, named := ["lustrum/civil.lengths", "lustrum/allen.shared"], apart := false, laid := [("lustrum/allen.shared", laid_lustrum_allen_shared), ("lustrum/civil.lengths", laid_lustrum_civil_lengths)] }
def RelateAllSaid : Prop := relateAllRow.holds Tryz.pinned (OpenSpec.ofChange relateAllSpec)

/-- ITS FALSE NEIGHBOUR: 'it returns false'. Refute it at one input. -/
def relateAllWrong : ChangeSpec := { name := "relateAll", fn := fun _ => fun
  | [d1, d2] => { results := [.lit (.bool false)], args := [d1, d2] }
  | _ => none }
def RelateAllWrongFalsely : Prop := relateAllRow.holds Tryz.pinned (OpenSpec.ofChange relateAllWrong)

/-- 'lustrumlaw20.RelateSound': WHATEVER THE INPUT: true; the input reads as it did. -/
def relateSoundSpec : ChangeSpec := { name := "relateSound", fn := fun _ => fun
  | [d1, d2, d3, d4] => { results := [.lit (.bool true)], args := [d1, d2, d3, d4] }
  | _ => none }
def relateSoundRow : OpenClaim := { program := "ytocmlcpcnjaaeaagreatdoor", sum := "3717fcb97f9043ac766e4f775d2c0b124a729d5cd95d9fe77fbe6024ff9c616e", func := "lustrum/lustrumlaw20.RelateSound", spec := "relateSound", unfollowed := true, recurses := true, named := ["lustrum/civil.lengths", "lustrum/allen.shared"], apart := false, laid := [("lustrum/allen.shared", laid_lustrum_allen_shared), ("lustrum/civil.lengths", laid_lustrum_civil_lengths)] }
def RelateSoundSaid : Prop := relateSoundRow.holds Tryz.pinned (OpenSpec.ofChange relateSoundSpec)

/-- ITS FALSE NEIGHBOUR: 'it returns false'. Refute it at one input. -/
def relateSoundWrong : ChangeSpec := { name := "relateSound", fn := fun _ => fun
  | [d1, d2, d3, d4] => { results := [.lit (.bool false)], args := [d1, d2, d3, d4] }
  | _ => none }
def RelateSoundWrongFalsely : Prop := relateSoundRow.holds Tryz.pinned (OpenSpec.ofChange relateSoundWrong)

/-- 'lustrumlaw21.OrderIs': WHATEVER THE INPUT: true; the input reads as it did. -/
def orderIsSpec : ChangeSpec := { name := "orderIs", fn := fun _ => fun
  | [d1, d2, d3, d4] => { results := [.lit (.bool true)], args := [d1, d2, d3, d4] }
  | _ => none }
def orderIsRow : OpenClaim := { program := "ytocmlcpcnjaaeaagreatdoor", sum := "3717fcb97f9043ac766e4f775d2c0b124a729d5cd95d9fe77fbe6024ff9c616e", func := "lustrum/lustrumlaw21.OrderIs", spec := "orderIs", unfollowed := true, recurses := true, named := ["lustrum/civil.lengths"], apart := false, laid := [("lustrum/civil.lengths", laid_lustrum_civil_lengths)] }
def OrderIsSaid : Prop := orderIsRow.holds Tryz.pinned (OpenSpec.ofChange orderIsSpec)

/-- ITS FALSE NEIGHBOUR: 'it returns false'. Refute it at one input. -/
def orderIsWrong : ChangeSpec := { name := "orderIs", fn := fun _ => fun
  | [d1, d2, d3, d4] => { results := [.lit (.bool false)], args := [d1, d2, d3, d4] }
  | _ => none }
def OrderIsWrongFalsely : Prop := orderIsRow.holds Tryz.pinned (OpenSpec.ofChange orderIsWrong)

/-- 'lustrumlaw21.OrderSorts': WHATEVER THE INPUT: true; the input reads as it did. -/
def orderSortsSpec : ChangeSpec := { name := "orderSorts", fn := fun _ => fun
  | [d] => { results := [.lit (.bool true)], args := [d] }
  | _ => none }
def orderSortsRow : OpenClaim := { program := "ytocmlcpcnjaaeaagreatdoor", sum := "3717fcb97f9043ac766e4f775d2c0b124a729d5cd95d9fe77fbe6024ff9c616e", func := "lustrum/lustrumlaw21.OrderSorts", spec := "orderSorts", unfollowed := true, recurses := true, named := ["lustrum/civil.lengths"], apart := false, laid := [("lustrum/civil.lengths", laid_lustrum_civil_lengths)] }
def OrderSortsSaid : Prop := orderSortsRow.holds Tryz.pinned (OpenSpec.ofChange orderSortsSpec)

/-- ITS FALSE NEIGHBOUR: 'it returns false'. Refute it at one input. -/
def orderSortsWrong : ChangeSpec := { name := "orderSorts", fn := fun _ => fun
  | [d] => { results := [.lit (.bool false)], args := [d] }
  | _ => none }
def OrderSortsWrongFalsely : Prop := orderSortsRow.holds Tryz.pinned (OpenSpec.ofChange orderSortsWrong)

/-- 'lustrumlaw21.OrderRelates': WHATEVER THE INPUT: true; the input reads as it did. -/
def orderRelatesSpec : ChangeSpec := { name := "orderRelates", fn := fun _ => fun
  | [d1, d2] => { results := [.lit (.bool true)], args := [d1, d2] }
  | _ => none }
def orderRelatesRow : OpenClaim := { program := "ytocmlcpcnjaaeaagreatdoor", sum := "3717fcb97f9043ac766e4f775d2c0b124a729d5cd95d9fe77fbe6024ff9c616e", func := "lustrum/lustrumlaw21.OrderRelates", spec := "orderRelates", unfollowed := true, recurses := true, named := ["lustrum/civil.lengths"], apart := false, laid := [("lustrum/civil.lengths", laid_lustrum_civil_lengths)] }
def OrderRelatesSaid : Prop := orderRelatesRow.holds Tryz.pinned (OpenSpec.ofChange orderRelatesSpec)

/-- ITS FALSE NEIGHBOUR: 'it returns false'. Refute it at one input. -/
def orderRelatesWrong : ChangeSpec := { name := "orderRelates", fn := fun _ => fun
  | [d1, d2] => { results := [.lit (.bool false)], args := [d1, d2] }
  | _ => none }
def OrderRelatesWrongFalsely : Prop := orderRelatesRow.holds Tryz.pinned (OpenSpec.ofChange orderRelatesWrong)

/-- 'lustrumlaw22.NarrowIs': WHATEVER THE INPUT: true; the input reads as it did. -/
def narrowIsSpec : ChangeSpec := { name := "narrowIs", fn := fun _ => fun
  | [d1, d2, d3] => { results := [.lit (.bool true)], args := [d1, d2, d3] }
  | _ => none }
def narrowIsRow : OpenClaim := { program := "ytocmlcpcnjaaeaagreatdoor", sum := "3717fcb97f9043ac766e4f775d2c0b124a729d5cd95d9fe77fbe6024ff9c616e", func := "lustrum/lustrumlaw22.NarrowIs", spec := "narrowIs", unfollowed := true, recurses := true, named := ["lustrum/civil.lengths"], apart := false, laid := [("lustrum/civil.lengths", laid_lustrum_civil_lengths)] }
def NarrowIsSaid : Prop := narrowIsRow.holds Tryz.pinned (OpenSpec.ofChange narrowIsSpec)

/-- ITS FALSE NEIGHBOUR: 'it returns false'. Refute it at one input. -/
def narrowIsWrong : ChangeSpec := { name := "narrowIs", fn := fun _ => fun
  | [d1, d2, d3] => { results := [.lit (.bool false)], args := [d1, d2, d3] }
  | _ => none }
def NarrowIsWrongFalsely : Prop := narrowIsRow.holds Tryz.pinned (OpenSpec.ofChange narrowIsWrong)

/-- 'lustrumlaw22.NarrowOnce': WHATEVER THE INPUT: true; the input reads as it did. -/
def narrowOnceSpec : ChangeSpec := { name := "narrowOnce", fn := fun _ => fun
  | [d1, d2, d3] => { results := [.lit (.bool true)], args := [d1, d2, d3] }
  | _ => none }
def narrowOnceRow : OpenClaim := { program := "ytocmlcpcnjaaeaagreatdoor", sum := "3717fcb97f9043ac766e4f775d2c0b124a729d5cd95d9fe77fbe6024ff9c616e", func := "lustrum/lustrumlaw22.NarrowOnce", spec := "narrowOnce", unfollowed := true, recurses := true, named := ["lustrum/civil.lengths"], apart := false, laid := [("lustrum/civil.lengths", laid_lustrum_civil_lengths)] }
def NarrowOnceSaid : Prop := narrowOnceRow.holds Tryz.pinned (OpenSpec.ofChange narrowOnceSpec)

/-- ITS FALSE NEIGHBOUR: 'it returns false'. Refute it at one input. -/
def narrowOnceWrong : ChangeSpec := { name := "narrowOnce", fn := fun _ => fun
  | [d1, d2, d3] => { results := [.lit (.bool false)], args := [d1, d2, d3] }
  | _ => none }
def NarrowOnceWrongFalsely : Prop := narrowOnceRow.holds Tryz.pinned (OpenSpec.ofChange narrowOnceWrong)

/-- 'lustrumlaw22.NarrowMore': WHATEVER THE INPUT: true; the input reads as it did. -/
def narrowMoreSpec : ChangeSpec := { name := "narrowMore", fn := fun _ => fun
  | [d1, d2, d3, d4] => { results := [.lit (.bool true)], args := [d1, d2, d3, d4] }
  | _ => none }
def narrowMoreRow : OpenClaim := { program := "ytocmlcpcnjaaeaagreatdoor", sum := "3717fcb97f9043ac766e4f775d2c0b124a729d5cd95d9fe77fbe6024ff9c616e", func := "lustrum/lustrumlaw22.NarrowMore", spec := "narrowMore", unfollowed := true, recurses := true, named := ["lustrum/civil.lengths"], apart := false, laid := [("lustrum/civil.lengths", laid_lustrum_civil_lengths)] }
def NarrowMoreSaid : Prop := narrowMoreRow.holds Tryz.pinned (OpenSpec.ofChange narrowMoreSpec)

/-- ITS FALSE NEIGHBOUR: 'it returns false'. Refute it at one input. -/
def narrowMoreWrong : ChangeSpec := { name := "narrowMore", fn := fun _ => fun
  | [d1, d2, d3, d4] => { results := [.lit (.bool false)], args := [d1, d2, d3, d4] }
  | _ => none }
def NarrowMoreWrongFalsely : Prop := narrowMoreRow.holds Tryz.pinned (OpenSpec.ofChange narrowMoreWrong)

/-- 'lustrumlaw22.NarrowHas': WHATEVER THE INPUT: true; the input reads as it did. -/
def narrowHasSpec : ChangeSpec := { name := "narrowHas", fn := fun _ => fun
  | [d1, d2, d3] => { results := [.lit (.bool true)], args := [d1, d2, d3] }
  | _ => none }
def narrowHasRow : OpenClaim := { program := "ytocmlcpcnjaaeaagreatdoor", sum := "3717fcb97f9043ac766e4f775d2c0b124a729d5cd95d9fe77fbe6024ff9c616e", func := "lustrum/lustrumlaw22.NarrowHas", spec := "narrowHas", unfollowed := true, recurses := true, named := ["lustrum/civil.lengths"], apart := false, laid := [("lustrum/civil.lengths", laid_lustrum_civil_lengths)] }
def NarrowHasSaid : Prop := narrowHasRow.holds Tryz.pinned (OpenSpec.ofChange narrowHasSpec)

/-- ITS FALSE NEIGHBOUR: 'it returns false'. Refute it at one input. -/
def narrowHasWrong : ChangeSpec := { name := "narrowHas", fn := fun _ => fun
  | [d1, d2, d3] => { results := [.lit (.bool false)], args := [d1, d2, d3] }
  | _ => none }
def NarrowHasWrongFalsely : Prop := narrowHasRow.holds Tryz.pinned (OpenSpec.ofChange narrowHasWrong)

/-- 'lustrumlaw22.NarrowFree': WHATEVER THE INPUT: true; the input reads as it did. -/
def narrowFreeSpec : ChangeSpec := { name := "narrowFree", fn := fun _ => fun
  | [d1, d2] => { results := [.lit (.bool true)], args := [d1, d2] }
  | _ => none }
def narrowFreeRow : OpenClaim := { program := "ytocmlcpcnjaaeaagreatdoor", sum := "3717fcb97f9043ac766e4f775d2c0b124a729d5cd95d9fe77fbe6024ff9c616e", func := "lustrum/lustrumlaw22.NarrowFree", spec := "narrowFree", unfollowed := true, recurses := true, named := ["lustrum/civil.lengths"], apart := false, laid := [("lustrum/civil.lengths", laid_lustrum_civil_lengths)] }
def NarrowFreeSaid : Prop := narrowFreeRow.holds Tryz.pinned (OpenSpec.ofChange narrowFreeSpec)

/-- ITS FALSE NEIGHBOUR: 'it returns false'. Refute it at one input. -/
def narrowFreeWrong : ChangeSpec := { name := "narrowFree", fn := fun _ => fun
  | [d1, d2] => { results := [.lit (.bool false)], args := [d1, d2] }
  | _ => none }
def NarrowFreeWrongFalsely : Prop := narrowFreeRow.holds Tryz.pinned (OpenSpec.ofChange narrowFreeWrong)

/-- 'lustrumlaw22.NarrowShrinks': WHATEVER THE INPUT: true; the input reads as it did. -/
def narrowShrinksSpec : ChangeSpec := { name := "narrowShrinks", fn := fun _ => fun
  | [d1, d2, d3, d4] => { results := [.lit (.bool true)], args := [d1, d2, d3, d4] }
  | _ => none }
def narrowShrinksRow : OpenClaim := { program := "ytocmlcpcnjaaeaagreatdoor", sum := "3717fcb97f9043ac766e4f775d2c0b124a729d5cd95d9fe77fbe6024ff9c616e", func := "lustrum/lustrumlaw22.NarrowShrinks", spec := "narrowShrinks", unfollowed := true, recurses := true, named := ["lustrum/civil.lengths"], apart := false, laid := [("lustrum/civil.lengths", laid_lustrum_civil_lengths)] }
def NarrowShrinksSaid : Prop := narrowShrinksRow.holds Tryz.pinned (OpenSpec.ofChange narrowShrinksSpec)

/-- ITS FALSE NEIGHBOUR: 'it returns false'. Refute it at one input. -/
def narrowShrinksWrong : ChangeSpec := { name := "narrowShrinks", fn := fun _ => fun
  | [d1, d2, d3, d4] => { results := [.lit (.bool false)], args := [d1, d2, d3, d4] }
  | _ => none }
def NarrowShrinksWrongFalsely : Prop := narrowShrinksRow.holds Tryz.pinned (OpenSpec.ofChange narrowShrinksWrong)

/-- 'lustrumlaw22.NarrowAll': WHATEVER THE INPUT: true; the input reads as it did. -/
def narrowAllSpec : ChangeSpec := { name := "narrowAll", fn := fun _ => fun
  | [d1, d2] => { results := [.lit (.bool true)], args := [d1, d2] }
  | _ => none }
def narrowAllRow : OpenClaim := { program := "ytocmlcpcnjaaeaagreatdoor", sum := "3717fcb97f9043ac766e4f775d2c0b124a729d5cd95d9fe77fbe6024ff9c616e", func := "lustrum/lustrumlaw22.NarrowAll", spec := "narrowAll", unfollowed := true, recurses := true, named := ["lustrum/civil.lengths"], apart := false, laid := [("lustrum/civil.lengths", laid_lustrum_civil_lengths)] }
def NarrowAllSaid : Prop := narrowAllRow.holds Tryz.pinned (OpenSpec.ofChange narrowAllSpec)

/-- ITS FALSE NEIGHBOUR: 'it returns false'. Refute it at one input. -/
def narrowAllWrong : ChangeSpec := { name := "narrowAll", fn := fun _ => fun
  | [d1, d2] => { results := [.lit (.bool false)], args := [d1, d2] }
  | _ => none }
def NarrowAllWrongFalsely : Prop := narrowAllRow.holds Tryz.pinned (OpenSpec.ofChange narrowAllWrong)

/- THE SECOND FORM. 'bulk': how many values and letters a reading holds, each counted each time it is reached (what is shared counts as often as it is met; a slice's spare places count too). A statement '..UptoSaid' is the law's where the arguments, and the package variables that the reading takes, are together of bulk at most 1048576: NARROWER than '..Said'. Prove '..Said' where nothing that the law and all that it calls make is longer than what came in: it says more and counts as full. Else prove '..UptoSaid'. A law counts once. -/
mutual
def uptoBulk {H : Type} : DataW H → Nat
  | .lit (.string bytes) => bytes.length + 1
  | .lit _ => 1
  | .nil => 1
  | .ptr d => uptoBulk d + 1
  | .slice elems spare => uptoBulkAll elems + uptoBulkAll spare + 1
  | .agg parts => uptoBulkAll parts + 1
  | .iface _ d => uptoBulk d + 1
  | .map entries => uptoBulkEntries entries + 1
  | .held _ => 1
def uptoBulkAll {H : Type} : List (DataW H) → Nat
  | [] => 0
  | d :: r => uptoBulk d + uptoBulkAll r
def uptoBulkEntries {H : Type} : List (Lit × DataW H) → Nat
  | [] => 0
  | x :: r => uptoBulkEntry x + uptoBulkEntries r
def uptoBulkEntry {H : Type} : Lit × DataW H → Nat
  | (.string bytes, d) => bytes.length + uptoBulk d + 1
  | (_, d) => uptoBulk d + 1
 end
def uptoSmall : (H : Type) → List (DataW H) → Bool := fun _ ds => decide (uptoBulkAll ds ≤ 1048576)
def OpenSpec.upto (s : _root_.Go.ChangeSpec) : _root_.Go.OpenSpec := { _root_.Go.OpenSpec.ofChange s with cond := some uptoSmall }

/-- 'lustrumlaw20.RelateIs', WHERE WHAT IT READS IS OF BULK AT MOST 1048576: true; the input reads as it did. -/
def relateIsUptoRow : OpenClaim := { program := "ytocmlcpcnjaaeaagreatdoor", sum := "3717fcb97f9043ac766e4f775d2c0b124a729d5cd95d9fe77fbe6024ff9c616e", func := "lustrum/lustrumlaw20.RelateIs", spec := "relateIs", unfollowed := true, recurses := true, named := ["lustrum/civil.lengths"], apart := false, laid := [("lustrum/civil.lengths", laid_lustrum_civil_lengths)], narrowed := true }
def RelateIsUptoSaid : Prop := relateIsUptoRow.holds Tryz.pinned (OpenSpec.upto relateIsSpec)

/-- 'lustrumlaw20.RelateMore', WHERE WHAT IT READS IS OF BULK AT MOST 1048576: true; the input reads as it did. -/
def relateMoreUptoRow : OpenClaim := { program := "ytocmlcpcnjaaeaagreatdoor", sum := "3717fcb97f9043ac766e4f775d2c0b124a729d5cd95d9fe77fbe6024ff9c616e", func := "lustrum/lustrumlaw20.RelateMore", spec := "relateMore", unfollowed := true, recurses := true, named := ["lustrum/civil.lengths"], apart := false, laid := [("lustrum/civil.lengths", laid_lustrum_civil_lengths)], narrowed := true }
def RelateMoreUptoSaid : Prop := relateMoreUptoRow.holds Tryz.pinned (OpenSpec.upto relateMoreSpec)

/-- 'lustrumlaw20.RelateMust', WHERE WHAT IT READS IS OF BULK AT MOST 1048576: true; the input reads as it did. -/
def relateMustUptoRow : OpenClaim := { program := "ytocmlcpcnjaaeaagreatdoor", sum := "3717fcb97f9043ac766e4f775d2c0b124a729d5cd95d9fe77fbe6024ff9c616e", func := "lustrum/lustrumlaw20.RelateMust", spec := "relateMust", unfollowed := true, recurses := true, named := ["lustrum/civil.lengths"], apart := false, laid := [("lustrum/civil.lengths", laid_lustrum_civil_lengths)], narrowed := true }
def RelateMustUptoSaid : Prop := relateMustUptoRow.holds Tryz.pinned (OpenSpec.upto relateMustSpec)

/-- 'lustrumlaw20.RelateWide', WHERE WHAT IT READS IS OF BULK AT MOST 1048576: true; the input reads as it did. -/
def relateWideUptoRow : OpenClaim := { program := "ytocmlcpcnjaaeaagreatdoor", sum := "3717fcb97f9043ac766e4f775d2c0b124a729d5cd95d9fe77fbe6024ff9c616e", func := "lustrum/lustrumlaw20.RelateWide", spec := "relateWide", unfollowed := true, recurses := true, named := ["lustrum/civil.lengths"], apart := false, laid := [("lustrum/civil.lengths", laid_lustrum_civil_lengths)], narrowed := true }
def RelateWideUptoSaid : Prop := relateWideUptoRow.holds Tryz.pinned (OpenSpec.upto relateWideSpec)

/-- 'lustrumlaw20.RelateInverse', WHERE WHAT IT READS IS OF BULK AT MOST 1048576: true; the input reads as it did. -/
def relateInverseUptoRow : OpenClaim := { program := "ytocmlcpcnjaaeaagreatdoor", sum := "3717fcb97f9043ac766e4f775d2c0b124a729d5cd95d9fe77fbe6024ff9c616e", func := "lustrum/lustrumlaw20.RelateInverse", spec := "relateInverse", unfollowed := true, recurses := true, named := ["lustrum/civil.lengths"], apart := false, laid := [("lustrum/civil.lengths", laid_lustrum_civil_lengths)], narrowed := true }
def RelateInverseUptoSaid : Prop := relateInverseUptoRow.holds Tryz.pinned (OpenSpec.upto relateInverseSpec)

/-- 'lustrumlaw20.RelateAll', WHERE WHAT IT READS IS OF BULK AT MOST 1048576: true; the input reads as it did. -/
def relateAllUptoRow : OpenClaim := { program := "ytocmlcpcnjaaeaagreatdoor", sum := "3717fcb97f9043ac766e4f775d2c0b124a729d5cd95d9fe77fbe6024ff9c616e", func := "lustrum/lustrumlaw20.RelateAll", spec := "relateAll", unfollowed := true, recurses := true, named := ["lustrum/civil.lengths", "lustrum/allen.shared"], apart := false, laid := [("lustrum/allen.shared", laid_lustrum_allen_shared), ("lustrum/civil.lengths", laid_lustrum_civil_lengths)], narrowed := true }
def RelateAllUptoSaid : Prop := relateAllUptoRow.holds Tryz.pinned (OpenSpec.upto relateAllSpec)

/-- 'lustrumlaw20.RelateSound', WHERE WHAT IT READS IS OF BULK AT MOST 1048576: true; the input reads as it did. -/
def relateSoundUptoRow : OpenClaim := { program := "ytocmlcpcnjaaeaagreatdoor", sum := "3717fcb97f9043ac766e4f775d2c0b124a729d5cd95d9fe77fbe6024ff9c616e", func := "lustrum/lustrumlaw20.RelateSound", spec := "relateSound", unfollowed := true, recurses := true, named := ["lustrum/civil.lengths", "lustrum/allen.shared"], apart := false, laid := [("lustrum/allen.shared", laid_lustrum_allen_shared), ("lustrum/civil.lengths", laid_lustrum_civil_lengths)], narrowed := true }
def RelateSoundUptoSaid : Prop := relateSoundUptoRow.holds Tryz.pinned (OpenSpec.upto relateSoundSpec)

/-- 'lustrumlaw21.OrderIs', WHERE WHAT IT READS IS OF BULK AT MOST 1048576: true; the input reads as it did. -/
def orderIsUptoRow : OpenClaim := { program := "ytocmlcpcnjaaeaagreatdoor", sum := "3717fcb97f9043ac766e4f775d2c0b124a729d5cd95d9fe77fbe6024ff9c616e", func := "lustrum/lustrumlaw21.OrderIs", spec := "orderIs", unfollowed := true, recurses := true, named := ["lustrum/civil.lengths"], apart := false, laid := [("lustrum/civil.lengths", laid_lustrum_civil_lengths)], narrowed := true }
def OrderIsUptoSaid : Prop := orderIsUptoRow.holds Tryz.pinned (OpenSpec.upto orderIsSpec)

/-- 'lustrumlaw21.OrderSorts', WHERE WHAT IT READS IS OF BULK AT MOST 1048576: true; the input reads as it did. -/
def orderSortsUptoRow : OpenClaim := { program := "ytocmlcpcnjaaeaagreatdoor", sum := "3717fcb97f9043ac766e4f775d2c0b124a729d5cd95d9fe77fbe6024ff9c616e", func := "lustrum/lustrumlaw21.OrderSorts", spec := "orderSorts", unfollowed := true, recurses := true, named := ["lustrum/civil.lengths"], apart := false, laid := [("lustrum/civil.lengths", laid_lustrum_civil_lengths)], narrowed := true }
def OrderSortsUptoSaid : Prop := orderSortsUptoRow.holds Tryz.pinned (OpenSpec.upto orderSortsSpec)

/-- 'lustrumlaw21.OrderRelates', WHERE WHAT IT READS IS OF BULK AT MOST 1048576: true; the input reads as it did. -/
def orderRelatesUptoRow : OpenClaim := { program := "ytocmlcpcnjaaeaagreatdoor", sum := "3717fcb97f9043ac766e4f775d2c0b124a729d5cd95d9fe77fbe6024ff9c616e", func := "lustrum/lustrumlaw21.OrderRelates", spec := "orderRelates", unfollowed := true, recurses := true, named := ["lustrum/civil.lengths"], apart := false, laid := [("lustrum/civil.lengths", laid_lustrum_civil_lengths)], narrowed := true }
def OrderRelatesUptoSaid : Prop := orderRelatesUptoRow.holds Tryz.pinned (OpenSpec.upto orderRelatesSpec)

/-- 'lustrumlaw22.NarrowIs', WHERE WHAT IT READS IS OF BULK AT MOST 1048576: true; the input reads as it did. -/
def narrowIsUptoRow : OpenClaim := { program := "ytocmlcpcnjaaeaagreatdoor", sum := "3717fcb97f9043ac766e4f775d2c0b124a729d5cd95d9fe77fbe6024ff9c616e", func := "lustrum/lustrumlaw22.NarrowIs", spec := "narrowIs", unfollowed := true, recurses := true, named := ["lustrum/civil.lengths"], apart := false, laid := [("lustrum/civil.lengths", laid_lustrum_civil_lengths)], narrowed := true }
def NarrowIsUptoSaid : Prop := narrowIsUptoRow.holds Tryz.pinned (OpenSpec.upto narrowIsSpec)

/-- 'lustrumlaw22.NarrowOnce', WHERE WHAT IT READS IS OF BULK AT MOST 1048576: true; the input reads as it did. -/
def narrowOnceUptoRow : OpenClaim := { program := "ytocmlcpcnjaaeaagreatdoor", sum := "3717fcb97f9043ac766e4f775d2c0b124a729d5cd95d9fe77fbe6024ff9c616e", func := "lustrum/lustrumlaw22.NarrowOnce", spec := "narrowOnce", unfollowed := true, recurses := true, named := ["lustrum/civil.lengths"], apart := false, laid := [("lustrum/civil.lengths", laid_lustrum_civil_lengths)], narrowed := true }
def NarrowOnceUptoSaid : Prop := narrowOnceUptoRow.holds Tryz.pinned (OpenSpec.upto narrowOnceSpec)

/-- 'lustrumlaw22.NarrowMore', WHERE WHAT IT READS IS OF BULK AT MOST 1048576: true; the input reads as it did. -/
def narrowMoreUptoRow : OpenClaim := { program := "ytocmlcpcnjaaeaagreatdoor", sum := "3717fcb97f9043ac766e4f775d2c0b124a729d5cd95d9fe77fbe6024ff9c616e", func := "lustrum/lustrumlaw22.NarrowMore", spec := "narrowMore", unfollowed := true, recurses := true, named := ["lustrum/civil.lengths"], apart := false, laid := [("lustrum/civil.lengths", laid_lustrum_civil_lengths)], narrowed := true }
def NarrowMoreUptoSaid : Prop := narrowMoreUptoRow.holds Tryz.pinned (OpenSpec.upto narrowMoreSpec)

/-- 'lustrumlaw22.NarrowHas', WHERE WHAT IT READS IS OF BULK AT MOST 1048576: true; the input reads as it did. -/
def narrowHasUptoRow : OpenClaim := { program := "ytocmlcpcnjaaeaagreatdoor", sum := "3717fcb97f9043ac766e4f775d2c0b124a729d5cd95d9fe77fbe6024ff9c616e", func := "lustrum/lustrumlaw22.NarrowHas", spec := "narrowHas", unfollowed := true, recurses := true, named := ["lustrum/civil.lengths"], apart := false, laid := [("lustrum/civil.lengths", laid_lustrum_civil_lengths)], narrowed := true }
def NarrowHasUptoSaid : Prop := narrowHasUptoRow.holds Tryz.pinned (OpenSpec.upto narrowHasSpec)

/-- 'lustrumlaw22.NarrowFree', WHERE WHAT IT READS IS OF BULK AT MOST 1048576: true; the input reads as it did. -/
def narrowFreeUptoRow : OpenClaim := { program := "ytocmlcpcnjaaeaagreatdoor", sum := "3717fcb97f9043ac766e4f775d2c0b124a729d5cd95d9fe77fbe6024ff9c616e", func := "lustrum/lustrumlaw22.NarrowFree", spec := "narrowFree", unfollowed := true, recurses := true, named := ["lustrum/civil.lengths"], apart := false, laid := [("lustrum/civil.lengths", laid_lustrum_civil_lengths)], narrowed := true }
def NarrowFreeUptoSaid : Prop := narrowFreeUptoRow.holds Tryz.pinned (OpenSpec.upto narrowFreeSpec)

/-- 'lustrumlaw22.NarrowShrinks', WHERE WHAT IT READS IS OF BULK AT MOST 1048576: true; the input reads as it did. -/
def narrowShrinksUptoRow : OpenClaim := { program := "ytocmlcpcnjaaeaagreatdoor", sum := "3717fcb97f9043ac766e4f775d2c0b124a729d5cd95d9fe77fbe6024ff9c616e", func := "lustrum/lustrumlaw22.NarrowShrinks", spec := "narrowShrinks", unfollowed := true, recurses := true, named := ["lustrum/civil.lengths"], apart := false, laid := [("lustrum/civil.lengths", laid_lustrum_civil_lengths)], narrowed := true }
def NarrowShrinksUptoSaid : Prop := narrowShrinksUptoRow.holds Tryz.pinned (OpenSpec.upto narrowShrinksSpec)

/-- 'lustrumlaw22.NarrowAll', WHERE WHAT IT READS IS OF BULK AT MOST 1048576: true; the input reads as it did. -/
def narrowAllUptoRow : OpenClaim := { program := "ytocmlcpcnjaaeaagreatdoor", sum := "3717fcb97f9043ac766e4f775d2c0b124a729d5cd95d9fe77fbe6024ff9c616e", func := "lustrum/lustrumlaw22.NarrowAll", spec := "narrowAll", unfollowed := true, recurses := true, named := ["lustrum/civil.lengths"], apart := false, laid := [("lustrum/civil.lengths", laid_lustrum_civil_lengths)], narrowed := true }
def NarrowAllUptoSaid : Prop := narrowAllUptoRow.holds Tryz.pinned (OpenSpec.upto narrowAllSpec)

end Rows
end Go.Proofs.YtocmlcpcnjaaeaaGreatDoor
