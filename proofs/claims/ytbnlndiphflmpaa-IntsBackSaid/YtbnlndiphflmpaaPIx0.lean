/- Written by a program of this session (wip/tool/vary.py) out of the translation, with the kit's printing program; Lean checks every line. -/
import Derived.Test.YtbnlndiphflmpaaProg
import Derived.Below
import Derived.Deep.Draws
import Derived.Deep.AppendLies
import Derived.Maps.AppendAt
import Derived.OwnWalk
import Derived.Laws.BytesArg
import Derived.Laws.MakeOwn
import Derived.Laws.OwnMore
import Derived.Deep.OwnRows
import Derived.Tactics
import Derived.Lib.ConvBytes
import Derived.Laws.Slices
import Derived.WalkKit
import Derived.KernelRfl
import Derived.RowKit3
import Derived.Deep.LoopGhost
import Derived.Deep.QuietTactic
import Derived.BigQuiet
import Derived.WideLaws
import Derived.Deep.DeepCutAuto
import Derived.Deep.CutBlock
import Derived.Deep.RegionHeld3
import Derived.Laws.Rows
import Derived.Lib.AppendStr
import Derived.ArgAppend
import Derived.Laws.IdiomCopy
import Derived.OrdersHeld
import Derived.Laws.BitsLemmas
import Derived.RowKit
import Derived.Laws.Bits64b
import Derived.Lib.Hide
import Derived.Lib.Mul64
import Derived.ScopeJumps
import Derived.WalkMore
import Derived.Test.YtbnlndiphflmpaaWWords
import Derived.Test.YtbnlndiphflmpaaWLast
import Derived.Test.YtbnlndiphflmpaaWTab
import Derived.Test.YtbnlndiphflmpaaWFour
import Derived.Test.YtbnlndiphflmpaaWQPut
import Derived.Test.YtbnlndiphflmpaaWApart
import Derived.Test.YtbnlndiphflmpaaWArr
import Derived.Test.YtbnlndiphflmpaaWZeros
import Derived.Test.YtbnlndiphflmpaaWFoot
import Derived.Test.YtbnlndiphflmpaaWKept
import Derived.Test.YtbnlndiphflmpaaWShare
import Derived.Test.YtbnlndiphflmpaaWN
import Derived.Test.YtbnlndiphflmpaaWFootNe
import Derived.Test.YtbnlndiphflmpaaWAt
import Derived.Test.YtbnlndiphflmpaaWEqStruct
import Derived.Test.YtbnlndiphflmpaaWRepsOne
import Derived.Test.YtbnlndiphflmpaaWInv
import Derived.Test.YtbnlndiphflmpaaWInvWords
import Derived.Test.YtbnlndiphflmpaaWGuard
import Derived.Test.YtbnlndiphflmpaaWNEv
import Derived.Test.YtbnlndiphflmpaaWMore
namespace Go.Proofs.Ytbnlndiphflmpaa.PI
open Go.RowKit Go.Proofs.YtbnlndiphflmpaaW.PrintWords Go.Proofs.YtbnlndiphflmpaaW.PrintLast Go.Proofs.YtbnlndiphflmpaaW.PrintMore
attribute [local go_sem] max2_int min2_int max_two min_two max_three min_three max_four min_four   -- for this text's walks alone
set_option linter.unusedVariables false
set_option linter.unusedSimpArgs false



def errW : Option Int → Value
  | none => .nilIface
  | some c => .iface 0 (.int .i64 c)
theorem errW_none : errW none = .nilIface := rfl
theorem errW_some (c : Int) : errW (some c) = .iface 0 (.int .i64 c) := rfl

-- the values' own types

end Go.Proofs.Ytbnlndiphflmpaa.PI
