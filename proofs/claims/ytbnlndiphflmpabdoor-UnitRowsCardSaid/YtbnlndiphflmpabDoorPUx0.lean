/- Written by a program of this session (wip/tool/vary.py) out of the translation, with the kit's printing program; Lean checks every line. -/
import Derived.Test.YtbnlndiphflmpabDoorProg
import Derived.Below
import Derived.Deep.Draws
import Derived.Deep.AppendLies
import Derived.Maps.AppendAt
import Derived.OwnWalk
import Derived.Laws.BytesArg
import Derived.Laws.MakeOwn
import Derived.Laws.OwnMore
import Derived.Deep.OwnRows
import Derived.Tactics
import Derived.Lib.ConvBytes
import Derived.Laws.Slices
import Derived.WalkKit
import Derived.KernelRfl
import Derived.RowKit3
import Derived.Deep.LoopGhost
import Derived.Deep.QuietTactic
import Derived.BigQuiet
import Derived.WideLaws
import Derived.Deep.DeepCutAuto
import Derived.Deep.CutBlock
import Derived.Deep.RegionHeld3
import Derived.Laws.Rows
import Derived.Lib.AppendStr
import Derived.ArgAppend
import Derived.Laws.IdiomCopy
import Derived.OrdersHeld
import Derived.Laws.BitsLemmas
import Derived.RowKit
import Derived.Laws.EntriesVeiled
import Derived.Lib.Hide
import Derived.Test.YtbnlndiphflmpabDoorWWords
import Derived.Test.YtbnlndiphflmpabDoorWLast
import Derived.Test.YtbnlndiphflmpabDoorWTab
import Derived.Test.YtbnlndiphflmpabDoorWFour
import Derived.Test.YtbnlndiphflmpabDoorWQPut
import Derived.Test.YtbnlndiphflmpabDoorWApart
import Derived.Test.YtbnlndiphflmpabDoorWArr
import Derived.Test.YtbnlndiphflmpabDoorWZeros
import Derived.Test.YtbnlndiphflmpabDoorWFoot
import Derived.Test.YtbnlndiphflmpabDoorWKept
import Derived.Test.YtbnlndiphflmpabDoorWShare
import Derived.Test.YtbnlndiphflmpabDoorWN
import Derived.Test.YtbnlndiphflmpabDoorWFootNe
import Derived.Test.YtbnlndiphflmpabDoorWAt
import Derived.Test.YtbnlndiphflmpabDoorWEqStruct
import Derived.Test.YtbnlndiphflmpabDoorWRepsOne
import Derived.Test.YtbnlndiphflmpabDoorWInv
import Derived.Test.YtbnlndiphflmpabDoorWInvWords
import Derived.Test.YtbnlndiphflmpabDoorWGuard
import Derived.Test.YtbnlndiphflmpabDoorWNEv
import Derived.Test.YtbnlndiphflmpabDoorWMore
namespace Go.Proofs.YtbnlndiphflmpabDoor.PU
open Go.RowKit Go.Proofs.YtbnlndiphflmpabDoorW.PrintWords Go.Proofs.YtbnlndiphflmpabDoorW.PrintLast Go.Proofs.YtbnlndiphflmpabDoorW.PrintMore
attribute [local go_sem] max2_int min2_int max_two min_two max_three min_three max_four min_four   -- for this text's walks alone
set_option linter.unusedVariables false
set_option linter.unusedSimpArgs false



def errW : Option Int → Value
  | none => .nilIface
  | some c => .iface 0 (.int .i64 c)
theorem errW_none : errW none = .nilIface := rfl
theorem errW_some (c : Int) : errW (some c) = .iface 0 (.int .i64 c) := rfl

def lensOf : Nat → Int
  | 1 => 31 | 2 => 28 | 3 => 31 | 4 => 30 | 5 => 31 | 6 => 30 | 7 => 31 | 8 => 31 | 9 => 30 | 10 => 31 | 11 => 30 | 12 => 31 | _ => 0
/-- The package-level table of the months' lengths holds what its initialiser lays. -/
structure LenTab (w : World) : Prop where
  lt : 0 < w.heap.size
  cell : ∀ i, i < 13 → w.cell? ⟨0, i, none⟩ = some (.int .i64 (lensOf i))
theorem LenTab.below {w w' : World} (h : LenTab w) (hb : Below w.heap.size w w') : LenTab w' :=
  ⟨Nat.lt_of_lt_of_le h.lt hb.size, fun i hi => (hb.cell (p := ⟨0, i, none⟩) h.lt).trans (h.cell i hi)⟩
theorem LenTab.drewN {w : World} (h : LenTab w) (n : Nat) : LenTab (w.drewN n) := h.below (Drawn0.below ⟨⟨n, rfl⟩⟩)

-- the values' own types

end Go.Proofs.YtbnlndiphflmpabDoor.PU
