/-
  NARROWER THAN 'FOR EVERY INPUT', by the rows' own cells (each row's printed sentence says how): LeafIs: laid · CoverIs: laid.
  DERIVED. THE GIVEN ROWS OF THIS SEAT. 2 by the template 'for every input the law returns true; each argument reads behind the call as it read before'; 0 by the template 'total and deterministic' (their statements: YtjeoelajkncpcaaGreatDoorTotals.lean).
  GIVEN WITH THE SEED: the statements are not yours to turn. If you find one false, say at which input.
  Laid BY PROGRAM, IN A SANDBOX (cutbox-rows.mjs): the forced cells as the released guide's own fill.sh prints them over the translation b2c97d37b5e392a9… (all of the seat's roots in one cut). By AI agents, Wed Nov 11 2026. No macro, syntax, notation, axiom, sorry.
-/
import Derived.Test.YtjeoelajkncpcaaGreatDoorChecked
import GoSem.Claim
import GoSem.ClaimJoined
import GoSem.ClaimMapViews
import Derived.JoinedTies
import Derived.KernelRfl
namespace Go.Proofs.YtjeoelajkncpcaaGreatDoor
/- THE CELL 'sum', in the pinned program and in every row, IS THE sha256 OF THE DUMP (.gsa) THAT YtjeoelajkncpcaaGreatDoorProg.lean LOADS. Nothing in Lean hashes anything: it is a label: what it is worth is what the hold of that sum in a sandbox is worth. -/
noncomputable def Tryz.pinned : Pinned := { name := "ytjeoelajkncpcaagreatdoor", sum := "b2c97d37b5e392a9656df81bdd960525425b2509b551265f5bde45cea68845a0", checked := Tryz.checked }
namespace Rows
def none {H : Type} : Left H := { results := [], args := [] }

/- WHAT THE LISTED PACKAGE-LEVEL VARIABLES READ AS WHEN THE CALL BEGINS. Each datum BY PROGRAM (the guide's laid-datum.mjs) off the statement by which the dump's own 'gosem.cut.vars' lays the variable. In a bare row this is a premise. The card (YtjeoelajkncpcaaGreatDoorCards.lean) ties it to the program's text. -/
def laid_lustrum_civil_lengths {H : Type} : DataW H := .agg [.lit (.int .i64 0), .lit (.int .i64 31), .lit (.int .i64 28), .lit (.int .i64 31), .lit (.int .i64 30), .lit (.int .i64 31), .lit (.int .i64 30), .lit (.int .i64 31), .lit (.int .i64 31), .lit (.int .i64 30), .lit (.int .i64 31), .lit (.int .i64 30), .lit (.int .i64 31)]

/-- 'lustrumlaw14.LeafIs': WHATEVER THE INPUT: true; the input reads as it did. -/
def leafIsSpec : ChangeSpec := { name := "leafIs", fn := fun _ => fun
  | [d1, d2, d3, d4] => { results := [.lit (.bool true)], args := [d1, d2, d3, d4] }
  | _ => none }
def leafIsRow : OpenClaim := { program := "ytjeoelajkncpcaagreatdoor", sum := "b2c97d37b5e392a9656df81bdd960525425b2509b551265f5bde45cea68845a0", func := "lustrum/lustrumlaw14.LeafIs", spec := "leafIs", unfollowed := true, recurses := true, named := ["lustrum/civil.lengths"], apart := false, laid := [("lustrum/civil.lengths", laid_lustrum_civil_lengths)] }
def LeafIsSaid : Prop := leafIsRow.holds Tryz.pinned (OpenSpec.ofChange leafIsSpec)

/-- ITS FALSE NEIGHBOUR: 'it returns false'. Refute it at one input. -/
def leafIsWrong : ChangeSpec := { name := "leafIs", fn := fun _ => fun
  | [d1, d2, d3, d4] => { results := [.lit (.bool false)], args := [d1, d2, d3, d4] }
  | _ => none }
def LeafIsWrongFalsely : Prop := leafIsRow.holds Tryz.pinned (OpenSpec.ofChange leafIsWrong)

/-- 'lustrumlaw17.CoverIs': WHATEVER THE INPUT: true; the input reads as it did. -/
def coverIsSpec : ChangeSpec := { name := "coverIs", fn := fun _ => fun
  | [d1, d2] => { results := [.lit (.bool true)], args := [d1, d2] }
  | _ => none }
def coverIsRow : OpenClaim := { program := "ytjeoelajkncpcaagreatdoor", sum := "b2c97d37b5e392a9656df81bdd960525425b2509b551265f5bde45cea68845a0", func := "lustrum/lustrumlaw17.CoverIs", spec := "coverIs", unfollowed := true, recurses := true, named := ["lustrum/civil.lengths"], apart := false, laid := [("lustrum/civil.lengths", laid_lustrum_civil_lengths)] }
def CoverIsSaid : Prop := coverIsRow.holds Tryz.pinned (OpenSpec.ofChange coverIsSpec)

/-- ITS FALSE NEIGHBOUR: 'it returns false'. Refute it at one input. -/
def coverIsWrong : ChangeSpec := { name := "coverIs", fn := fun _ => fun
  | [d1, d2] => { results := [.lit (.bool false)], args := [d1, d2] }
  | _ => none }
def CoverIsWrongFalsely : Prop := coverIsRow.holds Tryz.pinned (OpenSpec.ofChange coverIsWrong)

/- THE SECOND FORM. 'bulk': how many values and letters a reading holds, each counted each time it is reached (what is shared counts as often as it is met; a slice's spare places count too). A statement '..UptoSaid' is the law's where the arguments, and the package variables that the reading takes, are together of bulk at most 1048576: NARROWER than '..Said'. Prove '..Said' where nothing that the law and all that it calls make is longer than what came in: it says more and counts as full. Else prove '..UptoSaid'. A law counts once. -/
mutual
def uptoBulk {H : Type} : DataW H → Nat
  | .lit (.string bytes) => bytes.length + 1
  | .lit _ => 1
  | .nil => 1
  | .ptr d => uptoBulk d + 1
  | .slice elems spare => uptoBulkAll elems + uptoBulkAll spare + 1
  | .agg parts => uptoBulkAll parts + 1
  | .iface _ d => uptoBulk d + 1
  | .map entries => uptoBulkEntries entries + 1
  | .held _ => 1
def uptoBulkAll {H : Type} : List (DataW H) → Nat
  | [] => 0
  | d :: r => uptoBulk d + uptoBulkAll r
def uptoBulkEntries {H : Type} : List (Lit × DataW H) → Nat
  | [] => 0
  | x :: r => uptoBulkEntry x + uptoBulkEntries r
def uptoBulkEntry {H : Type} : Lit × DataW H → Nat
  | (.string bytes, d) => bytes.length + uptoBulk d + 1
  | (_, d) => uptoBulk d + 1
 end
def uptoSmall : (H : Type) → List (DataW H) → Bool := fun _ ds => decide (uptoBulkAll ds ≤ 1048576)
def OpenSpec.upto (s : _root_.Go.ChangeSpec) : _root_.Go.OpenSpec := { _root_.Go.OpenSpec.ofChange s with cond := some uptoSmall }

/-- 'lustrumlaw14.LeafIs', WHERE WHAT IT READS IS OF BULK AT MOST 1048576: true; the input reads as it did. -/
def leafIsUptoRow : OpenClaim := { program := "ytjeoelajkncpcaagreatdoor", sum := "b2c97d37b5e392a9656df81bdd960525425b2509b551265f5bde45cea68845a0", func := "lustrum/lustrumlaw14.LeafIs", spec := "leafIs", unfollowed := true, recurses := true, named := ["lustrum/civil.lengths"], apart := false, laid := [("lustrum/civil.lengths", laid_lustrum_civil_lengths)], narrowed := true }
def LeafIsUptoSaid : Prop := leafIsUptoRow.holds Tryz.pinned (OpenSpec.upto leafIsSpec)

/-- 'lustrumlaw17.CoverIs', WHERE WHAT IT READS IS OF BULK AT MOST 1048576: true; the input reads as it did. -/
def coverIsUptoRow : OpenClaim := { program := "ytjeoelajkncpcaagreatdoor", sum := "b2c97d37b5e392a9656df81bdd960525425b2509b551265f5bde45cea68845a0", func := "lustrum/lustrumlaw17.CoverIs", spec := "coverIs", unfollowed := true, recurses := true, named := ["lustrum/civil.lengths"], apart := false, laid := [("lustrum/civil.lengths", laid_lustrum_civil_lengths)], narrowed := true }
def CoverIsUptoSaid : Prop := coverIsUptoRow.holds Tryz.pinned (OpenSpec.upto coverIsSpec)

end Rows
end Go.Proofs.YtjeoelajkncpcaaGreatDoor
