/-
  NARROWER THAN 'FOR EVERY INPUT', by the rows' own cells (each row's printed sentence says how): UnitRows: laid · UnitOf: laid · UnitWithin: laid · UnitSizes: laid · UnitMade: laid.
  DERIVED. THE GIVEN ROWS OF THIS SEAT. 5 by the template 'for every input the law returns true; each argument reads behind the call as it read before'; 0 by the template 'total and deterministic' (their statements: YtbnlndiphflmpabDoorTotals.lean).
  GIVEN WITH THE SEED: the statements are not yours to turn. If you find one false, say at which input.
  Laid BY PROGRAM, IN A SANDBOX (cutbox-rows.mjs): the forced cells as the released guide's own fill.sh prints them over the translation 137a84eb89e1e217… (all of the seat's roots in one cut). By AI agents, Wed Nov 11 2026. No macro, syntax, notation, axiom, sorry.
-/
import Derived.Test.YtbnlndiphflmpabDoorChecked
import GoSem.Claim
import GoSem.ClaimJoined
import GoSem.ClaimMapViews
import Derived.JoinedTies
import Derived.KernelRfl
namespace Go.Proofs.YtbnlndiphflmpabDoor
/- THE CELL 'sum', in the pinned program and in every row, IS THE sha256 OF THE DUMP (.gsa) THAT YtbnlndiphflmpabDoorProg.lean LOADS. Nothing in Lean hashes anything: it is a label: what it is worth is what the hold of that sum in a sandbox is worth. -/
noncomputable def Tryd.pinned : Pinned := { name := "ytbnlndiphflmpabdoor", sum := "137a84eb89e1e2176604a2ee17b388830fe456163fbc15aea47d7c1b74e3f8ff", checked := Tryd.checked }
namespace Rows
def none {H : Type} : Left H := { results := [], args := [] }

/- WHAT THE LISTED PACKAGE-LEVEL VARIABLES READ AS WHEN THE CALL BEGINS. Each datum BY PROGRAM (the guide's laid-datum.mjs) off the statement by which the dump's own 'gosem.cut.vars' lays the variable. In a bare row this is a premise. The card (YtbnlndiphflmpabDoorCards.lean) ties it to the program's text. -/
def laid_lustrum_civil_lengths {H : Type} : DataW H := .agg [.lit (.int .i64 0), .lit (.int .i64 31), .lit (.int .i64 28), .lit (.int .i64 31), .lit (.int .i64 30), .lit (.int .i64 31), .lit (.int .i64 30), .lit (.int .i64 31), .lit (.int .i64 31), .lit (.int .i64 30), .lit (.int .i64 31), .lit (.int .i64 30), .lit (.int .i64 31)]

/-- 'lustrumlaw03.UnitRows': WHATEVER THE INPUT: true; the input reads as it did. -/
def unitRowsSpec : ChangeSpec := { name := "unitRows", fn := fun _ => fun
  | [d1, d2] => { results := [.lit (.bool true)], args := [d1, d2] }
  | _ => none }
def unitRowsRow : OpenClaim := { program := "ytbnlndiphflmpabdoor", sum := "137a84eb89e1e2176604a2ee17b388830fe456163fbc15aea47d7c1b74e3f8ff", func := "lustrum/lustrumlaw03.UnitRows", spec := "unitRows", unfollowed := true, recurses := true, named := ["lustrum/civil.lengths"], apart := false, laid := [("lustrum/civil.lengths", laid_lustrum_civil_lengths)] }
def UnitRowsSaid : Prop := unitRowsRow.holds Tryd.pinned (OpenSpec.ofChange unitRowsSpec)

/-- ITS FALSE NEIGHBOUR: 'it returns false'. Refute it at one input. -/
def unitRowsWrong : ChangeSpec := { name := "unitRows", fn := fun _ => fun
  | [d1, d2] => { results := [.lit (.bool false)], args := [d1, d2] }
  | _ => none }
def UnitRowsWrongFalsely : Prop := unitRowsRow.holds Tryd.pinned (OpenSpec.ofChange unitRowsWrong)

/-- 'lustrumlaw03.UnitOf': WHATEVER THE INPUT: true; the input reads as it did. -/
def unitOfSpec : ChangeSpec := { name := "unitOf", fn := fun _ => fun
  | [d1, d2, d3] => { results := [.lit (.bool true)], args := [d1, d2, d3] }
  | _ => none }
def unitOfRow : OpenClaim := { program := "ytbnlndiphflmpabdoor", sum := "137a84eb89e1e2176604a2ee17b388830fe456163fbc15aea47d7c1b74e3f8ff", func := "lustrum/lustrumlaw03.UnitOf", spec := "unitOf", unfollowed := true, recurses := true, named := ["lustrum/civil.lengths"], apart := false, laid := [("lustrum/civil.lengths", laid_lustrum_civil_lengths)] }
def UnitOfSaid : Prop := unitOfRow.holds Tryd.pinned (OpenSpec.ofChange unitOfSpec)

/-- ITS FALSE NEIGHBOUR: 'it returns false'. Refute it at one input. -/
def unitOfWrong : ChangeSpec := { name := "unitOf", fn := fun _ => fun
  | [d1, d2, d3] => { results := [.lit (.bool false)], args := [d1, d2, d3] }
  | _ => none }
def UnitOfWrongFalsely : Prop := unitOfRow.holds Tryd.pinned (OpenSpec.ofChange unitOfWrong)

/-- 'lustrumlaw03.UnitWithin': WHATEVER THE INPUT: true; the input reads as it did. -/
def unitWithinSpec : ChangeSpec := { name := "unitWithin", fn := fun _ => fun
  | [d] => { results := [.lit (.bool true)], args := [d] }
  | _ => none }
def unitWithinRow : OpenClaim := { program := "ytbnlndiphflmpabdoor", sum := "137a84eb89e1e2176604a2ee17b388830fe456163fbc15aea47d7c1b74e3f8ff", func := "lustrum/lustrumlaw03.UnitWithin", spec := "unitWithin", unfollowed := true, recurses := true, named := ["lustrum/civil.lengths"], apart := false, laid := [("lustrum/civil.lengths", laid_lustrum_civil_lengths)] }
def UnitWithinSaid : Prop := unitWithinRow.holds Tryd.pinned (OpenSpec.ofChange unitWithinSpec)

/-- ITS FALSE NEIGHBOUR: 'it returns false'. Refute it at one input. -/
def unitWithinWrong : ChangeSpec := { name := "unitWithin", fn := fun _ => fun
  | [d] => { results := [.lit (.bool false)], args := [d] }
  | _ => none }
def UnitWithinWrongFalsely : Prop := unitWithinRow.holds Tryd.pinned (OpenSpec.ofChange unitWithinWrong)

/-- 'lustrumlaw03.UnitSizes': WHATEVER THE INPUT: true; the input reads as it did. -/
def unitSizesSpec : ChangeSpec := { name := "unitSizes", fn := fun _ => fun
  | [d1, d2] => { results := [.lit (.bool true)], args := [d1, d2] }
  | _ => none }
def unitSizesRow : OpenClaim := { program := "ytbnlndiphflmpabdoor", sum := "137a84eb89e1e2176604a2ee17b388830fe456163fbc15aea47d7c1b74e3f8ff", func := "lustrum/lustrumlaw03.UnitSizes", spec := "unitSizes", unfollowed := true, recurses := true, named := ["lustrum/civil.lengths"], apart := false, laid := [("lustrum/civil.lengths", laid_lustrum_civil_lengths)] }
def UnitSizesSaid : Prop := unitSizesRow.holds Tryd.pinned (OpenSpec.ofChange unitSizesSpec)

/-- ITS FALSE NEIGHBOUR: 'it returns false'. Refute it at one input. -/
def unitSizesWrong : ChangeSpec := { name := "unitSizes", fn := fun _ => fun
  | [d1, d2] => { results := [.lit (.bool false)], args := [d1, d2] }
  | _ => none }
def UnitSizesWrongFalsely : Prop := unitSizesRow.holds Tryd.pinned (OpenSpec.ofChange unitSizesWrong)

/-- 'lustrumlaw03.UnitMade': WHATEVER THE INPUT: true; the input reads as it did. -/
def unitMadeSpec : ChangeSpec := { name := "unitMade", fn := fun _ => fun
  | [d] => { results := [.lit (.bool true)], args := [d] }
  | _ => none }
def unitMadeRow : OpenClaim := { program := "ytbnlndiphflmpabdoor", sum := "137a84eb89e1e2176604a2ee17b388830fe456163fbc15aea47d7c1b74e3f8ff", func := "lustrum/lustrumlaw03.UnitMade", spec := "unitMade", unfollowed := true, recurses := true, named := ["lustrum/civil.lengths"], apart := false, laid := [("lustrum/civil.lengths", laid_lustrum_civil_lengths)] }
def UnitMadeSaid : Prop := unitMadeRow.holds Tryd.pinned (OpenSpec.ofChange unitMadeSpec)

/-- ITS FALSE NEIGHBOUR: 'it returns false'. Refute it at one input. -/
def unitMadeWrong : ChangeSpec := { name := "unitMade", fn := fun _ => fun
  | [d] => { results := [.lit (.bool false)], args := [d] }
  | _ => none }
def UnitMadeWrongFalsely : Prop := unitMadeRow.holds Tryd.pinned (OpenSpec.ofChange unitMadeWrong)

/- THE SECOND FORM. 'bulk': how many values and letters a reading holds, each counted each time it is reached (what is shared counts as often as it is met; a slice's spare places count too). A statement '..UptoSaid' is the law's where the arguments, and the package variables that the reading takes, are together of bulk at most 1048576: NARROWER than '..Said'. Prove '..Said' where nothing that the law and all that it calls make is longer than what came in: it says more and counts as full. Else prove '..UptoSaid'. A law counts once. -/
mutual
def uptoBulk {H : Type} : DataW H → Nat
  | .lit (.string bytes) => bytes.length + 1
  | .lit _ => 1
  | .nil => 1
  | .ptr d => uptoBulk d + 1
  | .slice elems spare => uptoBulkAll elems + uptoBulkAll spare + 1
  | .agg parts => uptoBulkAll parts + 1
  | .iface _ d => uptoBulk d + 1
  | .map entries => uptoBulkEntries entries + 1
  | .held _ => 1
def uptoBulkAll {H : Type} : List (DataW H) → Nat
  | [] => 0
  | d :: r => uptoBulk d + uptoBulkAll r
def uptoBulkEntries {H : Type} : List (Lit × DataW H) → Nat
  | [] => 0
  | x :: r => uptoBulkEntry x + uptoBulkEntries r
def uptoBulkEntry {H : Type} : Lit × DataW H → Nat
  | (.string bytes, d) => bytes.length + uptoBulk d + 1
  | (_, d) => uptoBulk d + 1
 end
def uptoSmall : (H : Type) → List (DataW H) → Bool := fun _ ds => decide (uptoBulkAll ds ≤ 1048576)
def OpenSpec.upto (s : _root_.Go.ChangeSpec) : _root_.Go.OpenSpec := { _root_.Go.OpenSpec.ofChange s with cond := some uptoSmall }

/-- 'lustrumlaw03.UnitRows', WHERE WHAT IT READS IS OF BULK AT MOST 1048576: true; the input reads as it did. -/
def unitRowsUptoRow : OpenClaim := { program := "ytbnlndiphflmpabdoor", sum := "137a84eb89e1e2176604a2ee17b388830fe456163fbc15aea47d7c1b74e3f8ff", func := "lustrum/lustrumlaw03.UnitRows", spec := "unitRows", unfollowed := true, recurses := true, named := ["lustrum/civil.lengths"], apart := false, laid := [("lustrum/civil.lengths", laid_lustrum_civil_lengths)], narrowed := true }
def UnitRowsUptoSaid : Prop := unitRowsUptoRow.holds Tryd.pinned (OpenSpec.upto unitRowsSpec)

/-- 'lustrumlaw03.UnitOf', WHERE WHAT IT READS IS OF BULK AT MOST 1048576: true; the input reads as it did. -/
def unitOfUptoRow : OpenClaim := { program := "ytbnlndiphflmpabdoor", sum := "137a84eb89e1e2176604a2ee17b388830fe456163fbc15aea47d7c1b74e3f8ff", func := "lustrum/lustrumlaw03.UnitOf", spec := "unitOf", unfollowed := true, recurses := true, named := ["lustrum/civil.lengths"], apart := false, laid := [("lustrum/civil.lengths", laid_lustrum_civil_lengths)], narrowed := true }
def UnitOfUptoSaid : Prop := unitOfUptoRow.holds Tryd.pinned (OpenSpec.upto unitOfSpec)

/-- 'lustrumlaw03.UnitWithin', WHERE WHAT IT READS IS OF BULK AT MOST 1048576: true; the input reads as it did. -/
def unitWithinUptoRow : OpenClaim := { program := "ytbnlndiphflmpabdoor", sum := "137a84eb89e1e2176604a2ee17b388830fe456163fbc15aea47d7c1b74e3f8ff", func := "lustrum/lustrumlaw03.UnitWithin", spec := "unitWithin", unfollowed := true, recurses := true, named := ["lustrum/civil.lengths"], apart := false, laid := [("lustrum/civil.lengths", laid_lustrum_civil_lengths)], narrowed := true }
def UnitWithinUptoSaid : Prop := unitWithinUptoRow.holds Tryd.pinned (OpenSpec.upto unitWithinSpec)

/-- 'lustrumlaw03.UnitSizes', WHERE WHAT IT READS IS OF BULK AT MOST 1048576: true; the input reads as it did. -/
def unitSizesUptoRow : OpenClaim := { program := "ytbnlndiphflmpabdoor", sum := "137a84eb89e1e2176604a2ee17b388830fe456163fbc15aea47d7c1b74e3f8ff", func := "lustrum/lustrumlaw03.UnitSizes", spec := "unitSizes", unfollowed := true, recurses := true, named := ["lustrum/civil.lengths"], apart := false, laid := [("lustrum/civil.lengths", laid_lustrum_civil_lengths)], narrowed := true }
def UnitSizesUptoSaid : Prop := unitSizesUptoRow.holds Tryd.pinned (OpenSpec.upto unitSizesSpec)

/-- 'lustrumlaw03.UnitMade', WHERE WHAT IT READS IS OF BULK AT MOST 1048576: true; the input reads as it did. -/
def unitMadeUptoRow : OpenClaim := { program := "ytbnlndiphflmpabdoor", sum := "137a84eb89e1e2176604a2ee17b388830fe456163fbc15aea47d7c1b74e3f8ff", func := "lustrum/lustrumlaw03.UnitMade", spec := "unitMade", unfollowed := true, recurses := true, named := ["lustrum/civil.lengths"], apart := false, laid := [("lustrum/civil.lengths", laid_lustrum_civil_lengths)], narrowed := true }
def UnitMadeUptoSaid : Prop := unitMadeUptoRow.holds Tryd.pinned (OpenSpec.upto unitMadeSpec)

end Rows
end Go.Proofs.YtbnlndiphflmpabDoor
