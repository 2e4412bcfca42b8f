/-
  No cell of these rows narrows 'for every input' (looked for: loops, veiled, ifaces, maps, wideKeys, modest, calm, conditions, laid).
  DERIVED. THE GIVEN ROWS OF THIS SEAT. 6 by the template 'for every input the law returns true; each argument reads behind the call as it read before'; 0 by the template 'total and deterministic' (their statements: YtbnlndiphflmpaaTotals.lean).
  GIVEN WITH THE SEED: the statements are not yours to turn. If you find one false, say at which input.
  Laid BY PROGRAM, IN A SANDBOX (cutbox-rows.mjs): the forced cells as the released guide's own fill.sh prints them over the translation 0815b26e34f425ff… (all of the seat's roots in one cut). By AI agents, Wed Nov 11 2026. No macro, syntax, notation, axiom, sorry.
-/
import Derived.Test.YtbnlndiphflmpaaChecked
import GoSem.Claim
import GoSem.ClaimJoined
import GoSem.ClaimMapViews
import Derived.JoinedTies
import Derived.KernelRfl
namespace Go.Proofs.Ytbnlndiphflmpaa
/- THE CELL 'sum', in the pinned program and in every row, IS THE sha256 OF THE DUMP (.gsa) THAT YtbnlndiphflmpaaProg.lean LOADS. Nothing in Lean hashes anything: it is a label: what it is worth is what the hold of that sum in a sandbox is worth. -/
noncomputable def Try.pinned : Pinned := { name := "ytbnlndiphflmpaa", sum := "0815b26e34f425ff936ddcc215db4694d55de11cd63df85352b88585b542dce1", checked := Try.checked }
namespace Rows
def none {H : Type} : Left H := { results := [], args := [] }

/-- 'lustrumlaw01.IntsIs': WHATEVER THE INPUT: true; the input reads as it did. -/
def intsIsSpec : ChangeSpec := { name := "intsIs", fn := fun _ => fun
  | [d1, d2, d3] => { results := [.lit (.bool true)], args := [d1, d2, d3] }
  | _ => none }
def intsIsRow : OpenClaim := { program := "ytbnlndiphflmpaa", sum := "0815b26e34f425ff936ddcc215db4694d55de11cd63df85352b88585b542dce1", func := "lustrum/lustrumlaw01.IntsIs", spec := "intsIs", apart := false }
def IntsIsSaid : Prop := intsIsRow.holds Try.pinned (OpenSpec.ofChange intsIsSpec)

/-- ITS FALSE NEIGHBOUR: 'it returns false'. Refute it at one input. -/
def intsIsWrong : ChangeSpec := { name := "intsIs", fn := fun _ => fun
  | [d1, d2, d3] => { results := [.lit (.bool false)], args := [d1, d2, d3] }
  | _ => none }
def IntsIsWrongFalsely : Prop := intsIsRow.holds Try.pinned (OpenSpec.ofChange intsIsWrong)

/-- 'lustrumlaw01.IntsBack': WHATEVER THE INPUT: true; the input reads as it did. -/
def intsBackSpec : ChangeSpec := { name := "intsBack", fn := fun _ => fun
  | [d1, d2] => { results := [.lit (.bool true)], args := [d1, d2] }
  | _ => none }
def intsBackRow : OpenClaim := { program := "ytbnlndiphflmpaa", sum := "0815b26e34f425ff936ddcc215db4694d55de11cd63df85352b88585b542dce1", func := "lustrum/lustrumlaw01.IntsBack", spec := "intsBack", apart := false }
def IntsBackSaid : Prop := intsBackRow.holds Try.pinned (OpenSpec.ofChange intsBackSpec)

/-- ITS FALSE NEIGHBOUR: 'it returns false'. Refute it at one input. -/
def intsBackWrong : ChangeSpec := { name := "intsBack", fn := fun _ => fun
  | [d1, d2] => { results := [.lit (.bool false)], args := [d1, d2] }
  | _ => none }
def IntsBackWrongFalsely : Prop := intsBackRow.holds Try.pinned (OpenSpec.ofChange intsBackWrong)

/-- 'lustrumlaw01.IntsAdd': WHATEVER THE INPUT: true; the input reads as it did. -/
def intsAddSpec : ChangeSpec := { name := "intsAdd", fn := fun _ => fun
  | [d1, d2] => { results := [.lit (.bool true)], args := [d1, d2] }
  | _ => none }
def intsAddRow : OpenClaim := { program := "ytbnlndiphflmpaa", sum := "0815b26e34f425ff936ddcc215db4694d55de11cd63df85352b88585b542dce1", func := "lustrum/lustrumlaw01.IntsAdd", spec := "intsAdd", apart := false }
def IntsAddSaid : Prop := intsAddRow.holds Try.pinned (OpenSpec.ofChange intsAddSpec)

/-- ITS FALSE NEIGHBOUR: 'it returns false'. Refute it at one input. -/
def intsAddWrong : ChangeSpec := { name := "intsAdd", fn := fun _ => fun
  | [d1, d2] => { results := [.lit (.bool false)], args := [d1, d2] }
  | _ => none }
def IntsAddWrongFalsely : Prop := intsAddRow.holds Try.pinned (OpenSpec.ofChange intsAddWrong)

/-- 'lustrumlaw01.IntsMul': WHATEVER THE INPUT: true; the input reads as it did. -/
def intsMulSpec : ChangeSpec := { name := "intsMul", fn := fun _ => fun
  | [d1, d2] => { results := [.lit (.bool true)], args := [d1, d2] }
  | _ => none }
def intsMulRow : OpenClaim := { program := "ytbnlndiphflmpaa", sum := "0815b26e34f425ff936ddcc215db4694d55de11cd63df85352b88585b542dce1", func := "lustrum/lustrumlaw01.IntsMul", spec := "intsMul", apart := false }
def IntsMulSaid : Prop := intsMulRow.holds Try.pinned (OpenSpec.ofChange intsMulSpec)

/-- ITS FALSE NEIGHBOUR: 'it returns false'. Refute it at one input. -/
def intsMulWrong : ChangeSpec := { name := "intsMul", fn := fun _ => fun
  | [d1, d2] => { results := [.lit (.bool false)], args := [d1, d2] }
  | _ => none }
def IntsMulWrongFalsely : Prop := intsMulRow.holds Try.pinned (OpenSpec.ofChange intsMulWrong)

/-- 'lustrumlaw01.IntsClamp': WHATEVER THE INPUT: true; the input reads as it did. -/
def intsClampSpec : ChangeSpec := { name := "intsClamp", fn := fun _ => fun
  | [d1, d2, d3, d4] => { results := [.lit (.bool true)], args := [d1, d2, d3, d4] }
  | _ => none }
def intsClampRow : OpenClaim := { program := "ytbnlndiphflmpaa", sum := "0815b26e34f425ff936ddcc215db4694d55de11cd63df85352b88585b542dce1", func := "lustrum/lustrumlaw01.IntsClamp", spec := "intsClamp", apart := false }
def IntsClampSaid : Prop := intsClampRow.holds Try.pinned (OpenSpec.ofChange intsClampSpec)

/-- ITS FALSE NEIGHBOUR: 'it returns false'. Refute it at one input. -/
def intsClampWrong : ChangeSpec := { name := "intsClamp", fn := fun _ => fun
  | [d1, d2, d3, d4] => { results := [.lit (.bool false)], args := [d1, d2, d3, d4] }
  | _ => none }
def IntsClampWrongFalsely : Prop := intsClampRow.holds Try.pinned (OpenSpec.ofChange intsClampWrong)

/-- 'lustrumlaw01.IntsSteps': WHATEVER THE INPUT: true; the input reads as it did. -/
def intsStepsSpec : ChangeSpec := { name := "intsSteps", fn := fun _ => fun
  | [d1, d2, d3] => { results := [.lit (.bool true)], args := [d1, d2, d3] }
  | _ => none }
def intsStepsRow : OpenClaim := { program := "ytbnlndiphflmpaa", sum := "0815b26e34f425ff936ddcc215db4694d55de11cd63df85352b88585b542dce1", func := "lustrum/lustrumlaw01.IntsSteps", spec := "intsSteps", apart := false }
def IntsStepsSaid : Prop := intsStepsRow.holds Try.pinned (OpenSpec.ofChange intsStepsSpec)

/-- ITS FALSE NEIGHBOUR: 'it returns false'. Refute it at one input. -/
def intsStepsWrong : ChangeSpec := { name := "intsSteps", fn := fun _ => fun
  | [d1, d2, d3] => { results := [.lit (.bool false)], args := [d1, d2, d3] }
  | _ => none }
def IntsStepsWrongFalsely : Prop := intsStepsRow.holds Try.pinned (OpenSpec.ofChange intsStepsWrong)

/- THE SECOND FORM. 'bulk': how many values and letters a reading holds, each counted each time it is reached (what is shared counts as often as it is met; a slice's spare places count too). A statement '..UptoSaid' is the law's where the arguments, and the package variables that the reading takes, are together of bulk at most 1048576: NARROWER than '..Said'. Prove '..Said' where nothing that the law and all that it calls make is longer than what came in: it says more and counts as full. Else prove '..UptoSaid'. A law counts once. -/
mutual
def uptoBulk {H : Type} : DataW H → Nat
  | .lit (.string bytes) => bytes.length + 1
  | .lit _ => 1
  | .nil => 1
  | .ptr d => uptoBulk d + 1
  | .slice elems spare => uptoBulkAll elems + uptoBulkAll spare + 1
  | .agg parts => uptoBulkAll parts + 1
  | .iface _ d => uptoBulk d + 1
  | .map entries => uptoBulkEntries entries + 1
  | .held _ => 1
def uptoBulkAll {H : Type} : List (DataW H) → Nat
  | [] => 0
  | d :: r => uptoBulk d + uptoBulkAll r
def uptoBulkEntries {H : Type} : List (Lit × DataW H) → Nat
  | [] => 0
  | x :: r => uptoBulkEntry x + uptoBulkEntries r
def uptoBulkEntry {H : Type} : Lit × DataW H → Nat
  | (.string bytes, d) => bytes.length + uptoBulk d + 1
  | (_, d) => uptoBulk d + 1
 end
def uptoSmall : (H : Type) → List (DataW H) → Bool := fun _ ds => decide (uptoBulkAll ds ≤ 1048576)
def OpenSpec.upto (s : _root_.Go.ChangeSpec) : _root_.Go.OpenSpec := { _root_.Go.OpenSpec.ofChange s with cond := some uptoSmall }

/-- 'lustrumlaw01.IntsIs', WHERE WHAT IT READS IS OF BULK AT MOST 1048576: true; the input reads as it did. -/
def intsIsUptoRow : OpenClaim := { program := "ytbnlndiphflmpaa", sum := "0815b26e34f425ff936ddcc215db4694d55de11cd63df85352b88585b542dce1", func := "lustrum/lustrumlaw01.IntsIs", spec := "intsIs", apart := false, narrowed := true }
def IntsIsUptoSaid : Prop := intsIsUptoRow.holds Try.pinned (OpenSpec.upto intsIsSpec)

/-- 'lustrumlaw01.IntsBack', WHERE WHAT IT READS IS OF BULK AT MOST 1048576: true; the input reads as it did. -/
def intsBackUptoRow : OpenClaim := { program := "ytbnlndiphflmpaa", sum := "0815b26e34f425ff936ddcc215db4694d55de11cd63df85352b88585b542dce1", func := "lustrum/lustrumlaw01.IntsBack", spec := "intsBack", apart := false, narrowed := true }
def IntsBackUptoSaid : Prop := intsBackUptoRow.holds Try.pinned (OpenSpec.upto intsBackSpec)

/-- 'lustrumlaw01.IntsAdd', WHERE WHAT IT READS IS OF BULK AT MOST 1048576: true; the input reads as it did. -/
def intsAddUptoRow : OpenClaim := { program := "ytbnlndiphflmpaa", sum := "0815b26e34f425ff936ddcc215db4694d55de11cd63df85352b88585b542dce1", func := "lustrum/lustrumlaw01.IntsAdd", spec := "intsAdd", apart := false, narrowed := true }
def IntsAddUptoSaid : Prop := intsAddUptoRow.holds Try.pinned (OpenSpec.upto intsAddSpec)

/-- 'lustrumlaw01.IntsMul', WHERE WHAT IT READS IS OF BULK AT MOST 1048576: true; the input reads as it did. -/
def intsMulUptoRow : OpenClaim := { program := "ytbnlndiphflmpaa", sum := "0815b26e34f425ff936ddcc215db4694d55de11cd63df85352b88585b542dce1", func := "lustrum/lustrumlaw01.IntsMul", spec := "intsMul", apart := false, narrowed := true }
def IntsMulUptoSaid : Prop := intsMulUptoRow.holds Try.pinned (OpenSpec.upto intsMulSpec)

/-- 'lustrumlaw01.IntsClamp', WHERE WHAT IT READS IS OF BULK AT MOST 1048576: true; the input reads as it did. -/
def intsClampUptoRow : OpenClaim := { program := "ytbnlndiphflmpaa", sum := "0815b26e34f425ff936ddcc215db4694d55de11cd63df85352b88585b542dce1", func := "lustrum/lustrumlaw01.IntsClamp", spec := "intsClamp", apart := false, narrowed := true }
def IntsClampUptoSaid : Prop := intsClampUptoRow.holds Try.pinned (OpenSpec.upto intsClampSpec)

/-- 'lustrumlaw01.IntsSteps', WHERE WHAT IT READS IS OF BULK AT MOST 1048576: true; the input reads as it did. -/
def intsStepsUptoRow : OpenClaim := { program := "ytbnlndiphflmpaa", sum := "0815b26e34f425ff936ddcc215db4694d55de11cd63df85352b88585b542dce1", func := "lustrum/lustrumlaw01.IntsSteps", spec := "intsSteps", apart := false, narrowed := true }
def IntsStepsUptoSaid : Prop := intsStepsUptoRow.holds Try.pinned (OpenSpec.upto intsStepsSpec)

end Rows
end Go.Proofs.Ytbnlndiphflmpaa
