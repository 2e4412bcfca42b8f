/-
  NARROWER THAN 'FOR EVERY INPUT', by the rows' own cells (each row's printed sentence says how): CivilIs: laid · CivilBack: laid · CivilNext: laid · CivilYears: laid · CivilOrder: laid · UnitIs: laid.
  DERIVED. THE GIVEN ROWS OF THIS SEAT. 6 by the template 'for every input the law returns true; each argument reads behind the call as it read before'; 0 by the template 'total and deterministic' (their statements: YtbnlndiphflmpaaDoorTotals.lean).
  GIVEN WITH THE SEED: the statements are not yours to turn. If you find one false, say at which input.
  Laid BY PROGRAM, IN A SANDBOX (cutbox-rows.mjs): the forced cells as the released guide's own fill.sh prints them over the translation e1a57c43a1465203… (all of the seat's roots in one cut). By AI agents, Wed Nov 11 2026. No macro, syntax, notation, axiom, sorry.
-/
import Derived.Test.YtbnlndiphflmpaaDoorChecked
import GoSem.Claim
import GoSem.ClaimJoined
import GoSem.ClaimMapViews
import Derived.JoinedTies
import Derived.KernelRfl
namespace Go.Proofs.YtbnlndiphflmpaaDoor
/- THE CELL 'sum', in the pinned program and in every row, IS THE sha256 OF THE DUMP (.gsa) THAT YtbnlndiphflmpaaDoorProg.lean LOADS. Nothing in Lean hashes anything: it is a label: what it is worth is what the hold of that sum in a sandbox is worth. -/
noncomputable def Tryd.pinned : Pinned := { name := "ytbnlndiphflmpaadoor", sum := "e1a57c43a1465203fc3ae79f8196902d9b06a779ad4e36b43bc9a0ba5764d98c", checked := Tryd.checked }
namespace Rows
def none {H : Type} : Left H := { results := [], args := [] }

/- WHAT THE LISTED PACKAGE-LEVEL VARIABLES READ AS WHEN THE CALL BEGINS. Each datum BY PROGRAM (the guide's laid-datum.mjs) off the statement by which the dump's own 'gosem.cut.vars' lays the variable. In a bare row this is a premise. The card (YtbnlndiphflmpaaDoorCards.lean) ties it to the program's text. -/
def laid_lustrum_civil_lengths {H : Type} : DataW H := .agg [.lit (.int .i64 0), .lit (.int .i64 31), .lit (.int .i64 28), .lit (.int .i64 31), .lit (.int .i64 30), .lit (.int .i64 31), .lit (.int .i64 30), .lit (.int .i64 31), .lit (.int .i64 31), .lit (.int .i64 30), .lit (.int .i64 31), .lit (.int .i64 30), .lit (.int .i64 31)]

/-- 'lustrumlaw02.CivilIs': WHATEVER THE INPUT: true; the input reads as it did. -/
def civilIsSpec : ChangeSpec := { name := "civilIs", fn := fun _ => fun
  | [d1, d2, d3, d4] => { results := [.lit (.bool true)], args := [d1, d2, d3, d4] }
  | _ => none }
def civilIsRow : OpenClaim := { program := "ytbnlndiphflmpaadoor", sum := "e1a57c43a1465203fc3ae79f8196902d9b06a779ad4e36b43bc9a0ba5764d98c", func := "lustrum/lustrumlaw02.CivilIs", spec := "civilIs", named := ["lustrum/civil.lengths"], apart := false, laid := [("lustrum/civil.lengths", laid_lustrum_civil_lengths)] }
def CivilIsSaid : Prop := civilIsRow.holds Tryd.pinned (OpenSpec.ofChange civilIsSpec)

/-- ITS FALSE NEIGHBOUR: 'it returns false'. Refute it at one input. -/
def civilIsWrong : ChangeSpec := { name := "civilIs", fn := fun _ => fun
  | [d1, d2, d3, d4] => { results := [.lit (.bool false)], args := [d1, d2, d3, d4] }
  | _ => none }
def CivilIsWrongFalsely : Prop := civilIsRow.holds Tryd.pinned (OpenSpec.ofChange civilIsWrong)

/-- 'lustrumlaw02.CivilBack': WHATEVER THE INPUT: true; the input reads as it did. -/
def civilBackSpec : ChangeSpec := { name := "civilBack", fn := fun _ => fun
  | [d1, d2, d3, d4] => { results := [.lit (.bool true)], args := [d1, d2, d3, d4] }
  | _ => none }
def civilBackRow : OpenClaim := { program := "ytbnlndiphflmpaadoor", sum := "e1a57c43a1465203fc3ae79f8196902d9b06a779ad4e36b43bc9a0ba5764d98c", func := "lustrum/lustrumlaw02.CivilBack", spec := "civilBack", named := ["lustrum/civil.lengths"], apart := false, laid := [("lustrum/civil.lengths", laid_lustrum_civil_lengths)] }
def CivilBackSaid : Prop := civilBackRow.holds Tryd.pinned (OpenSpec.ofChange civilBackSpec)

/-- ITS FALSE NEIGHBOUR: 'it returns false'. Refute it at one input. -/
def civilBackWrong : ChangeSpec := { name := "civilBack", fn := fun _ => fun
  | [d1, d2, d3, d4] => { results := [.lit (.bool false)], args := [d1, d2, d3, d4] }
  | _ => none }
def CivilBackWrongFalsely : Prop := civilBackRow.holds Tryd.pinned (OpenSpec.ofChange civilBackWrong)

/-- 'lustrumlaw02.CivilNext': WHATEVER THE INPUT: true; the input reads as it did. -/
def civilNextSpec : ChangeSpec := { name := "civilNext", fn := fun _ => fun
  | [d] => { results := [.lit (.bool true)], args := [d] }
  | _ => none }
def civilNextRow : OpenClaim := { program := "ytbnlndiphflmpaadoor", sum := "e1a57c43a1465203fc3ae79f8196902d9b06a779ad4e36b43bc9a0ba5764d98c", func := "lustrum/lustrumlaw02.CivilNext", spec := "civilNext", named := ["lustrum/civil.lengths"], apart := false, laid := [("lustrum/civil.lengths", laid_lustrum_civil_lengths)] }
def CivilNextSaid : Prop := civilNextRow.holds Tryd.pinned (OpenSpec.ofChange civilNextSpec)

/-- ITS FALSE NEIGHBOUR: 'it returns false'. Refute it at one input. -/
def civilNextWrong : ChangeSpec := { name := "civilNext", fn := fun _ => fun
  | [d] => { results := [.lit (.bool false)], args := [d] }
  | _ => none }
def CivilNextWrongFalsely : Prop := civilNextRow.holds Tryd.pinned (OpenSpec.ofChange civilNextWrong)

/-- 'lustrumlaw02.CivilYears': WHATEVER THE INPUT: true; the input reads as it did. -/
def civilYearsSpec : ChangeSpec := { name := "civilYears", fn := fun _ => fun
  | [d] => { results := [.lit (.bool true)], args := [d] }
  | _ => none }
def civilYearsRow : OpenClaim := { program := "ytbnlndiphflmpaadoor", sum := "e1a57c43a1465203fc3ae79f8196902d9b06a779ad4e36b43bc9a0ba5764d98c", func := "lustrum/lustrumlaw02.CivilYears", spec := "civilYears", named := ["lustrum/civil.lengths"], apart := false, laid := [("lustrum/civil.lengths", laid_lustrum_civil_lengths)] }
def CivilYearsSaid : Prop := civilYearsRow.holds Tryd.pinned (OpenSpec.ofChange civilYearsSpec)

/-- ITS FALSE NEIGHBOUR: 'it returns false'. Refute it at one input. -/
def civilYearsWrong : ChangeSpec := { name := "civilYears", fn := fun _ => fun
  | [d] => { results := [.lit (.bool false)], args := [d] }
  | _ => none }
def CivilYearsWrongFalsely : Prop := civilYearsRow.holds Tryd.pinned (OpenSpec.ofChange civilYearsWrong)

/-- 'lustrumlaw02.CivilOrder': WHATEVER THE INPUT: true; the input reads as it did. -/
def civilOrderSpec : ChangeSpec := { name := "civilOrder", fn := fun _ => fun
  | [d1, d2] => { results := [.lit (.bool true)], args := [d1, d2] }
  | _ => none }
def civilOrderRow : OpenClaim := { program := "ytbnlndiphflmpaadoor", sum := "e1a57c43a1465203fc3ae79f8196902d9b06a779ad4e36b43bc9a0ba5764d98c", func := "lustrum/lustrumlaw02.CivilOrder", spec := "civilOrder", named := ["lustrum/civil.lengths"], apart := false, laid := [("lustrum/civil.lengths", laid_lustrum_civil_lengths)] }
def CivilOrderSaid : Prop := civilOrderRow.holds Tryd.pinned (OpenSpec.ofChange civilOrderSpec)

/-- ITS FALSE NEIGHBOUR: 'it returns false'. Refute it at one input. -/
def civilOrderWrong : ChangeSpec := { name := "civilOrder", fn := fun _ => fun
  | [d1, d2] => { results := [.lit (.bool false)], args := [d1, d2] }
  | _ => none }
def CivilOrderWrongFalsely : Prop := civilOrderRow.holds Tryd.pinned (OpenSpec.ofChange civilOrderWrong)

/-- 'lustrumlaw03.UnitIs': WHATEVER THE INPUT: true; the input reads as it did. -/
def unitIsSpec : ChangeSpec := { name := "unitIs", fn := fun _ => fun
  | [d1, d2, d3] => { results := [.lit (.bool true)], args := [d1, d2, d3] }
  | _ => none }
def unitIsRow : OpenClaim := { program := "ytbnlndiphflmpaadoor", sum := "e1a57c43a1465203fc3ae79f8196902d9b06a779ad4e36b43bc9a0ba5764d98c", func := "lustrum/lustrumlaw03.UnitIs", spec := "unitIs", unfollowed := true, recurses := true, named := ["lustrum/civil.lengths"], apart := false, laid := [("lustrum/civil.lengths", laid_lustrum_civil_lengths)] }
def UnitIsSaid : Prop := unitIsRow.holds Tryd.pinned (OpenSpec.ofChange unitIsSpec)

/-- ITS FALSE NEIGHBOUR: 'it returns false'. Refute it at one input. -/
def unitIsWrong : ChangeSpec := { name := "unitIs", fn := fun _ => fun
  | [d1, d2, d3] => { results := [.lit (.bool false)], args := [d1, d2, d3] }
  | _ => none }
def UnitIsWrongFalsely : Prop := unitIsRow.holds Tryd.pinned (OpenSpec.ofChange unitIsWrong)

/- THE SECOND FORM. 'bulk': how many values and letters a reading holds, each counted each time it is reached (what is shared counts as often as it is met; a slice's spare places count too). A statement '..UptoSaid' is the law's where the arguments, and the package variables that the reading takes, are together of bulk at most 1048576: NARROWER than '..Said'. Prove '..Said' where nothing that the law and all that it calls make is longer than what came in: it says more and counts as full. Else prove '..UptoSaid'. A law counts once. -/
mutual
def uptoBulk {H : Type} : DataW H → Nat
  | .lit (.string bytes) => bytes.length + 1
  | .lit _ => 1
  | .nil => 1
  | .ptr d => uptoBulk d + 1
  | .slice elems spare => uptoBulkAll elems + uptoBulkAll spare + 1
  | .agg parts => uptoBulkAll parts + 1
  | .iface _ d => uptoBulk d + 1
  | .map entries => uptoBulkEntries entries + 1
  | .held _ => 1
def uptoBulkAll {H : Type} : List (DataW H) → Nat
  | [] => 0
  | d :: r => uptoBulk d + uptoBulkAll r
def uptoBulkEntries {H : Type} : List (Lit × DataW H) → Nat
  | [] => 0
  | x :: r => uptoBulkEntry x + uptoBulkEntries r
def uptoBulkEntry {H : Type} : Lit × DataW H → Nat
  | (.string bytes, d) => bytes.length + uptoBulk d + 1
  | (_, d) => uptoBulk d + 1
 end
def uptoSmall : (H : Type) → List (DataW H) → Bool := fun _ ds => decide (uptoBulkAll ds ≤ 1048576)
def OpenSpec.upto (s : _root_.Go.ChangeSpec) : _root_.Go.OpenSpec := { _root_.Go.OpenSpec.ofChange s with cond := some uptoSmall }

/-- 'lustrumlaw02.CivilIs', WHERE WHAT IT READS IS OF BULK AT MOST 1048576: true; the input reads as it did. -/
def civilIsUptoRow : OpenClaim := { program := "ytbnlndiphflmpaadoor", sum := "e1a57c43a1465203fc3ae79f8196902d9b06a779ad4e36b43bc9a0ba5764d98c", func := "lustrum/lustrumlaw02.CivilIs", spec := "civilIs", named := ["lustrum/civil.lengths"], apart := false, laid := [("lustrum/civil.lengths", laid_lustrum_civil_lengths)], narrowed := true }
def CivilIsUptoSaid : Prop := civilIsUptoRow.holds Tryd.pinned (OpenSpec.upto civilIsSpec)

/-- 'lustrumlaw02.CivilBack', WHERE WHAT IT READS IS OF BULK AT MOST 1048576: true; the input reads as it did. -/
def civilBackUptoRow : OpenClaim := { program := "ytbnlndiphflmpaadoor", sum := "e1a57c43a1465203fc3ae79f8196902d9b06a779ad4e36b43bc9a0ba5764d98c", func := "lustrum/lustrumlaw02.CivilBack", spec := "civilBack", named := ["lustrum/civil.lengths"], apart := false, laid := [("lustrum/civil.lengths", laid_lustrum_civil_lengths)], narrowed := true }
def CivilBackUptoSaid : Prop := civilBackUptoRow.holds Tryd.pinned (OpenSpec.upto civilBackSpec)

/-- 'lustrumlaw02.CivilNext', WHERE WHAT IT READS IS OF BULK AT MOST 1048576: true; the input reads as it did. -/
def civilNextUptoRow : OpenClaim := { program := "ytbnlndiphflmpaadoor", sum := "e1a57c43a1465203fc3ae79f8196902d9b06a779ad4e36b43bc9a0ba5764d98c", func := "lustrum/lustrumlaw02.CivilNext", spec := "civilNext", named := ["lustrum/civil.lengths"], apart := false, laid := [("lustrum/civil.lengths", laid_lustrum_civil_lengths)], narrowed := true }
def CivilNextUptoSaid : Prop := civilNextUptoRow.holds Tryd.pinned (OpenSpec.upto civilNextSpec)

/-- 'lustrumlaw02.CivilYears', WHERE WHAT IT READS IS OF BULK AT MOST 1048576: true; the input reads as it did. -/
def civilYearsUptoRow : OpenClaim := { program := "ytbnlndiphflmpaadoor", sum := "e1a57c43a1465203fc3ae79f8196902d9b06a779ad4e36b43bc9a0ba5764d98c", func := "lustrum/lustrumlaw02.CivilYears", spec := "civilYears", named := ["lustrum/civil.lengths"], apart := false, laid := [("lustrum/civil.lengths", laid_lustrum_civil_lengths)], narrowed := true }
def CivilYearsUptoSaid : Prop := civilYearsUptoRow.holds Tryd.pinned (OpenSpec.upto civilYearsSpec)

/-- 'lustrumlaw02.CivilOrder', WHERE WHAT IT READS IS OF BULK AT MOST 1048576: true; the input reads as it did. -/
def civilOrderUptoRow : OpenClaim := { program := "ytbnlndiphflmpaadoor", sum := "e1a57c43a1465203fc3ae79f8196902d9b06a779ad4e36b43bc9a0ba5764d98c", func := "lustrum/lustrumlaw02.CivilOrder", spec := "civilOrder", named := ["lustrum/civil.lengths"], apart := false, laid := [("lustrum/civil.lengths", laid_lustrum_civil_lengths)], narrowed := true }
def CivilOrderUptoSaid : Prop := civilOrderUptoRow.holds Tryd.pinned (OpenSpec.upto civilOrderSpec)

/-- 'lustrumlaw03.UnitIs', WHERE WHAT IT READS IS OF BULK AT MOST 1048576: true; the input reads as it did. -/
def unitIsUptoRow : OpenClaim := { program := "ytbnlndiphflmpaadoor", sum := "e1a57c43a1465203fc3ae79f8196902d9b06a779ad4e36b43bc9a0ba5764d98c", func := "lustrum/lustrumlaw03.UnitIs", spec := "unitIs", unfollowed := true, recurses := true, named := ["lustrum/civil.lengths"], apart := false, laid := [("lustrum/civil.lengths", laid_lustrum_civil_lengths)], narrowed := true }
def UnitIsUptoSaid : Prop := unitIsUptoRow.holds Tryd.pinned (OpenSpec.upto unitIsSpec)

end Rows
end Go.Proofs.YtbnlndiphflmpaaDoor
