/-
  NARROWER THAN 'FOR EVERY INPUT', by the rows' own cells (each row's printed sentence says how): NarrowIs: laid · NarrowOnce: laid · NarrowMore: laid · NarrowHas: laid · NarrowFree: laid · NarrowShrinks: laid · NarrowAll: laid.
  DERIVED. THE GIVEN ROWS OF THIS SEAT. 7 by the template 'for every input the law returns true; each argument reads behind the call as it read before'; 0 by the template 'total and deterministic' (their statements: YtdlgenbfnahmeaaGreatDoorTotals.lean).
  GIVEN WITH THE SEED: the statements are not yours to turn. If you find one false, say at which input.
  Laid BY PROGRAM, IN A SANDBOX (cutbox-rows.mjs): the forced cells as the released guide's own fill.sh prints them over the translation 9b98c5b35520b9af… (all of the seat's roots in one cut). By AI agents, Wed Nov 11 2026. No macro, syntax, notation, axiom, sorry.
-/
import Derived.Test.YtdlgenbfnahmeaaGreatDoorChecked
import GoSem.Claim
import GoSem.ClaimJoined
import GoSem.ClaimMapViews
import Derived.JoinedTies
import Derived.KernelRfl
namespace Go.Proofs.YtdlgenbfnahmeaaGreatDoor
/- THE CELL 'sum', in the pinned program and in every row, IS THE sha256 OF THE DUMP (.gsa) THAT YtdlgenbfnahmeaaGreatDoorProg.lean LOADS. Nothing in Lean hashes anything: it is a label: what it is worth is what the hold of that sum in a sandbox is worth. -/
noncomputable def Tryz.pinned : Pinned := { name := "ytdlgenbfnahmeaagreatdoor", sum := "9b98c5b35520b9af96b92c9c330ca7b242b6fb8779c6f738711016cd86e86f1a", checked := Tryz.checked }
namespace Rows
def none {H : Type} : Left H := { results := [], args := [] }

/- WHAT THE LISTED PACKAGE-LEVEL VARIABLES READ AS WHEN THE CALL BEGINS. Each datum BY PROGRAM (the guide's laid-datum.mjs) off the statement by which the dump's own 'gosem.cut.vars' lays the variable. In a bare row this is a premise. The card (YtdlgenbfnahmeaaGreatDoorCards.lean) ties it to the program's text. -/
def laid_lustrum_civil_lengths {H : Type} : DataW H := .agg [.lit (.int .i64 0), .lit (.int .i64 31), .lit (.int .i64 28), .lit (.int .i64 31), .lit (.int .i64 30), .lit (.int .i64 31), .lit (.int .i64 30), .lit (.int .i64 31), .lit (.int .i64 31), .lit (.int .i64 30), .lit (.int .i64 31), .lit (.int .i64 30), .lit (.int .i64 31)]

/-- 'lustrumlaw22.NarrowIs': WHATEVER THE INPUT: true; the input reads as it did. -/
def narrowIsSpec : ChangeSpec := { name := "narrowIs", fn := fun _ => fun
  | [d1, d2, d3] => { results := [.lit (.bool true)], args := [d1, d2, d3] }
  | _ => none }
def narrowIsRow : OpenClaim := { program := "ytdlgenbfnahmeaagreatdoor", sum := "9b98c5b35520b9af96b92c9c330ca7b242b6fb8779c6f738711016cd86e86f1a", func := "lustrum/lustrumlaw22.NarrowIs", spec := "narrowIs", unfollowed := true, recurses := true, named := ["lustrum/civil.lengths"], apart := false, laid := [("lustrum/civil.lengths", laid_lustrum_civil_lengths)] }
def NarrowIsSaid : Prop := narrowIsRow.holds Tryz.pinned (OpenSpec.ofChange narrowIsSpec)

/-- ITS FALSE NEIGHBOUR: 'it returns false'. Refute it at one input. -/
def narrowIsWrong : ChangeSpec := { name := "narrowIs", fn := fun _ => fun
  | [d1, d2, d3] => { results := [.lit (.bool false)], args := [d1, d2, d3] }
  | _ => none }
def NarrowIsWrongFalsely : Prop := narrowIsRow.holds Tryz.pinned (OpenSpec.ofChange narrowIsWrong)

/-- 'lustrumlaw22.NarrowOnce': WHATEVER THE INPUT: true; the input reads as it did. -/
def narrowOnceSpec : ChangeSpec := { name := "narrowOnce", fn := fun _ => fun
  | [d1, d2, d3] => { results := [.lit (.bool true)], args := [d1, d2, d3] }
  | _ => none }
def narrowOnceRow : OpenClaim := { program := "ytdlgenbfnahmeaagreatdoor", sum := "9b98c5b35520b9af96b92c9c330ca7b242b6fb8779c6f738711016cd86e86f1a", func := "lustrum/lustrumlaw22.NarrowOnce", spec := "narrowOnce", unfollowed := true, recurses := true, named := ["lustrum/civil.lengths"], apart := false, laid := [("lustrum/civil.lengths", laid_lustrum_civil_lengths)] }
def NarrowOnceSaid : Prop := narrowOnceRow.holds Tryz.pinned (OpenSpec.ofChange narrowOnceSpec)

/-- ITS FALSE NEIGHBOUR: 'it returns false'. Refute it at one input. -/
def narrowOnceWrong : ChangeSpec := { name := "narrowOnce", fn := fun _ => fun
  | [d1, d2, d3] => { results := [.lit (.bool false)], args := [d1, d2, d3] }
  | _ => none }
def NarrowOnceWrongFalsely : Prop := narrowOnceRow.holds Tryz.pinned (OpenSpec.ofChange narrowOnceWrong)

/-- 'lustrumlaw22.NarrowMore': WHATEVER THE INPUT: true; the input reads as it did. -/
def narrowMoreSpec : ChangeSpec := { name := "narrowMore", fn := fun _ => fun
  | [d1, d2, d3, d4] => { results := [.lit (.bool true)], args := [d1, d2, d3, d4] }
  | _ => none }
def narrowMoreRow : OpenClaim := { program := "ytdlgenbfnahmeaagreatdoor", sum := "9b98c5b35520b9af96b92c9c330ca7b242b6fb8779c6f738711016cd86e86f1a", func := "lustrum/lustrumlaw22.NarrowMore", spec := "narrowMore", unfollowed := true, recurses := true, named := ["lustrum/civil.lengths"], apart := false, laid := [("lustrum/civil.lengths", laid_lustrum_civil_lengths)] }
def NarrowMoreSaid : Prop := narrowMoreRow.holds Tryz.pinned (OpenSpec.ofChange narrowMoreSpec)

/-- ITS FALSE NEIGHBOUR: 'it returns false'. Refute it at one input. -/
def narrowMoreWrong : ChangeSpec := { name := "narrowMore", fn := fun _ => fun
  | [d1, d2, d3, d4] => { results := [.lit (.bool false)], args := [d1, d2, d3, d4] }
  | _ => none }
def NarrowMoreWrongFalsely : Prop := narrowMoreRow.holds Tryz.pinned (OpenSpec.ofChange narrowMoreWrong)

/-- 'lustrumlaw22.NarrowHas': WHATEVER THE INPUT: true; the input reads as it did. -/
def narrowHasSpec : ChangeSpec := { name := "narrowHas", fn := fun _ => fun
  | [d1, d2, d3] => { results := [.lit (.bool true)], args := [d1, d2, d3] }
  | _ => none }
def narrowHasRow : OpenClaim := { program := "ytdlgenbfnahmeaagreatdoor", sum := "9b98c5b35520b9af96b92c9c330ca7b242b6fb8779c6f738711016cd86e86f1a", func := "lustrum/lustrumlaw22.NarrowHas", spec := "narrowHas", unfollowed := true, recurses := true, named := ["lustrum/civil.lengths"], apart := false, laid := [("lustrum/civil.lengths", laid_lustrum_civil_lengths)] }
def NarrowHasSaid : Prop := narrowHasRow.holds Tryz.pinned (OpenSpec.ofChange narrowHasSpec)

/-- ITS FALSE NEIGHBOUR: 'it returns false'. Refute it at one input. -/
def narrowHasWrong : ChangeSpec := { name := "narrowHas", fn := fun _ => fun
  | [d1, d2, d3] => { results := [.lit (.bool false)], args := [d1, d2, d3] }
  | _ => none }
def NarrowHasWrongFalsely : Prop := narrowHasRow.holds Tryz.pinned (OpenSpec.ofChange narrowHasWrong)

/-- 'lustrumlaw22.NarrowFree': WHATEVER THE INPUT: true; the input reads as it did. -/
def narrowFreeSpec : ChangeSpec := { name := "narrowFree", fn := fun _ => fun
  | [d1, d2] => { results := [.lit (.bool true)], args := [d1, d2] }
  | _ => none }
def narrowFreeRow : OpenClaim := { program := "ytdlgenbfnahmeaagreatdoor", sum := "9b98c5b35520b9af96b92c9c330ca7b242b6fb8779c6f738711016cd86e86f1a", func := "lustrum/lustrumlaw22.NarrowFree", spec := "narrowFree", unfollowed := true, recurses := true, named := ["lustrum/civil.lengths"], apart := false, laid := [("lustrum/civil.lengths", laid_lustrum_civil_lengths)] }
def NarrowFreeSaid : Prop := narrowFreeRow.holds Tryz.pinned (OpenSpec.ofChange narrowFreeSpec)

/-- ITS FALSE NEIGHBOUR: 'it returns false'. Refute it at one input. -/
def narrowFreeWrong : ChangeSpec := { name := "narrowFree", fn := fun _ => fun
  | [d1, d2] => { results := [.lit (.bool false)], args := [d1, d2] }
  | _ => none }
def NarrowFreeWrongFalsely : Prop := narrowFreeRow.holds Tryz.pinned (OpenSpec.ofChange narrowFreeWrong)

/-- 'lustrumlaw22.NarrowShrinks': WHATEVER THE INPUT: true; the input reads as it did. -/
def narrowShrinksSpec : ChangeSpec := { name := "narrowShrinks", fn := fun _ => fun
  | [d1, d2, d3, d4] => { results := [.lit (.bool true)], args := [d1, d2, d3, d4] }
  | _ => none }
def narrowShrinksRow : OpenClaim := { program := "ytdlgenbfnahmeaagreatdoor", sum := "9b98c5b35520b9af96b92c9c330ca7b242b6fb8779c6f738711016cd86e86f1a", func := "lustrum/lustrumlaw22.NarrowShrinks", spec := "narrowShrinks", unfollowed := true, recurses := true, named := ["lustrum/civil.lengths"], apart := false, laid := [("lustrum/civil.lengths", laid_lustrum_civil_lengths)] }
def NarrowShrinksSaid : Prop := narrowShrinksRow.holds Tryz.pinned (OpenSpec.ofChange narrowShrinksSpec)

/-- ITS FALSE NEIGHBOUR: 'it returns false'. Refute it at one input. -/
def narrowShrinksWrong : ChangeSpec := { name := "narrowShrinks", fn := fun _ => fun
  | [d1, d2, d3, d4] => { results := [.lit (.bool false)], args := [d1, d2, d3, d4] }
  | _ => none }
def NarrowShrinksWrongFalsely : Prop := narrowShrinksRow.holds Tryz.pinned (OpenSpec.ofChange narrowShrinksWrong)

/-- 'lustrumlaw22.NarrowAll': WHATEVER THE INPUT: true; the input reads as it did. -/
def narrowAllSpec : ChangeSpec := { name := "narrowAll", fn := fun _ => fun
  | [d1, d2] => { results := [.lit (.bool true)], args := [d1, d2] }
  | _ => none }
def narrowAllRow : OpenClaim := { program := "ytdlgenbfnahmeaagreatdoor", sum := "9b98c5b35520b9af96b92c9c330ca7b242b6fb8779c6f738711016cd86e86f1a", func := "lustrum/lustrumlaw22.NarrowAll", spec := "narrowAll", unfollowed := true, recurses := true, named := ["lustrum/civil.lengths"], apart := false, laid := [("lustrum/civil.lengths", laid_lustrum_civil_lengths)] }
def NarrowAllSaid : Prop := narrowAllRow.holds Tryz.pinned (OpenSpec.ofChange narrowAllSpec)

/-- ITS FALSE NEIGHBOUR: 'it returns false'. Refute it at one input. -/
def narrowAllWrong : ChangeSpec := { name := "narrowAll", fn := fun _ => fun
  | [d1, d2] => { results := [.lit (.bool false)], args := [d1, d2] }
  | _ => none }
def NarrowAllWrongFalsely : Prop := narrowAllRow.holds Tryz.pinned (OpenSpec.ofChange narrowAllWrong)

/- THE SECOND FORM. 'bulk': how many values and letters a reading holds, each counted each time it is reached (what is shared counts as often as it is met; a slice's spare places count too). A statement '..UptoSaid' is the law's where the arguments, and the package variables that the reading takes, are together of bulk at most 1048576: NARROWER than '..Said'. Prove '..Said' where nothing that the law and all that it calls make is longer than what came in: it says more and counts as full. Else prove '..UptoSaid'. A law counts once. -/
mutual
def uptoBulk {H : Type} : DataW H → Nat
  | .lit (.string bytes) => bytes.length + 1
  | .lit _ => 1
  | .nil => 1
  | .ptr d => uptoBulk d + 1
  | .slice elems spare => uptoBulkAll elems + uptoBulkAll spare + 1
  | .agg parts => uptoBulkAll parts + 1
  | .iface _ d => uptoBulk d + 1
  | .map entries => uptoBulkEntries entries + 1
  | .held _ => 1
def uptoBulkAll {H : Type} : List (DataW H) → Nat
  | [] => 0
  | d :: r => uptoBulk d + uptoBulkAll r
def uptoBulkEntries {H : Type} : List (Lit × DataW H) → Nat
  | [] => 0
  | x :: r => uptoBulkEntry x + uptoBulkEntries r
def uptoBulkEntry {H : Type} : Lit × DataW H → Nat
  | (.string bytes, d) => bytes.length + uptoBulk d + 1
  | (_, d) => uptoBulk d + 1
 end
def uptoSmall : (H : Type) → List (DataW H) → Bool := fun _ ds => decide (uptoBulkAll ds ≤ 1048576)
def OpenSpec.upto (s : _root_.Go.ChangeSpec) : _root_.Go.OpenSpec := { _root_.Go.OpenSpec.ofChange s with cond := some uptoSmall }

/-- 'lustrumlaw22.NarrowIs', WHERE WHAT IT READS IS OF BULK AT MOST 1048576: true; the input reads as it did. -/
def narrowIsUptoRow : OpenClaim := { program := "ytdlgenbfnahmeaagreatdoor", sum := "9b98c5b35520b9af96b92c9c330ca7b242b6fb8779c6f738711016cd86e86f1a", func := "lustrum/lustrumlaw22.NarrowIs", spec := "narrowIs", unfollowed := true, recurses := true, named := ["lustrum/civil.lengths"], apart := false, laid := [("lustrum/civil.lengths", laid_lustrum_civil_lengths)], narrowed := true }
def NarrowIsUptoSaid : Prop := narrowIsUptoRow.holds Tryz.pinned (OpenSpec.upto narrowIsSpec)

/-- 'lustrumlaw22.NarrowOnce', WHERE WHAT IT READS IS OF BULK AT MOST 1048576: true; the input reads as it did. -/
def narrowOnceUptoRow : OpenClaim := { program := "ytdlgenbfnahmeaagreatdoor", sum := "9b98c5b35520b9af96b92c9c330ca7b242b6fb8779c6f738711016cd86e86f1a", func := "lustrum/lustrumlaw22.NarrowOnce", spec := "narrowOnce", unfollowed := true, recurses := true, named := ["lustrum/civil.lengths"], apart := false, laid := [("lustrum/civil.lengths", laid_lustrum_civil_lengths)], narrowed := true }
def NarrowOnceUptoSaid : Prop := narrowOnceUptoRow.holds Tryz.pinned (OpenSpec.upto narrowOnceSpec)

/-- 'lustrumlaw22.NarrowMore', WHERE WHAT IT READS IS OF BULK AT MOST 1048576: true; the input reads as it did. -/
def narrowMoreUptoRow : OpenClaim := { program := "ytdlgenbfnahmeaagreatdoor", sum := "9b98c5b35520b9af96b92c9c330ca7b242b6fb8779c6f738711016cd86e86f1a", func := "lustrum/lustrumlaw22.NarrowMore", spec := "narrowMore", unfollowed := true, recurses := true, named := ["lustrum/civil.lengths"], apart := false, laid := [("lustrum/civil.lengths", laid_lustrum_civil_lengths)], narrowed := true }
def NarrowMoreUptoSaid : Prop := narrowMoreUptoRow.holds Tryz.pinned (OpenSpec.upto narrowMoreSpec)

/-- 'lustrumlaw22.NarrowHas', WHERE WHAT IT READS IS OF BULK AT MOST 1048576: true; the input reads as it did. -/
def narrowHasUptoRow : OpenClaim := { program := "ytdlgenbfnahmeaagreatdoor", sum := "9b98c5b35520b9af96b92c9c330ca7b242b6fb8779c6f738711016cd86e86f1a", func := "lustrum/lustrumlaw22.NarrowHas", spec := "narrowHas", unfollowed := true, recurses := true, named := ["lustrum/civil.lengths"], apart := false, laid := [("lustrum/civil.lengths", laid_lustrum_civil_lengths)], narrowed := true }
def NarrowHasUptoSaid : Prop := narrowHasUptoRow.holds Tryz.pinned (OpenSpec.upto narrowHasSpec)

/-- 'lustrumlaw22.NarrowFree', WHERE WHAT IT READS IS OF BULK AT MOST 1048576: true; the input reads as it did. -/
def narrowFreeUptoRow : OpenClaim := { program := "ytdlgenbfnahmeaagreatdoor", sum := "9b98c5b35520b9af96b92c9c330ca7b242b6fb8779c6f738711016cd86e86f1a", func := "lustrum/lustrumlaw22.NarrowFree", spec := "narrowFree", unfollowed := true, recurses := true, named := ["lustrum/civil.lengths"], apart := false, laid := [("lustrum/civil.lengths", laid_lustrum_civil_lengths)], narrowed := true }
def NarrowFreeUptoSaid : Prop := narrowFreeUptoRow.holds Tryz.pinned (OpenSpec.upto narrowFreeSpec)

/-- 'lustrumlaw22.NarrowShrinks', WHERE WHAT IT READS IS OF BULK AT MOST 1048576: true; the input reads as it did. -/
def narrowShrinksUptoRow : OpenClaim := { program := "ytdlgenbfnahmeaagreatdoor", sum := "9b98c5b35520b9af96b92c9c330ca7b242b6fb8779c6f738711016cd86e86f1a", func := "lustrum/lustrumlaw22.NarrowShrinks", spec := "narrowShrinks", unfollowed := true, recurses := true, named := ["lustrum/civil.lengths"], apart := false, laid := [("lustrum/civil.lengths", laid_lustrum_civil_lengths)], narrowed := true }
def NarrowShrinksUptoSaid : Prop := narrowShrinksUptoRow.holds Tryz.pinned (OpenSpec.upto narrowShrinksSpec)

/-- 'lustrumlaw22.NarrowAll', WHERE WHAT IT READS IS OF BULK AT MOST 1048576: true; the input reads as it did. -/
def narrowAllUptoRow : OpenClaim := { program := "ytdlgenbfnahmeaagreatdoor", sum := "9b98c5b35520b9af96b92c9c330ca7b242b6fb8779c6f738711016cd86e86f1a", func := "lustrum/lustrumlaw22.NarrowAll", spec := "narrowAll", unfollowed := true, recurses := true, named := ["lustrum/civil.lengths"], apart := false, laid := [("lustrum/civil.lengths", laid_lustrum_civil_lengths)], narrowed := true }
def NarrowAllUptoSaid : Prop := narrowAllUptoRow.holds Tryz.pinned (OpenSpec.upto narrowAllSpec)

end Rows
end Go.Proofs.YtdlgenbfnahmeaaGreatDoor
