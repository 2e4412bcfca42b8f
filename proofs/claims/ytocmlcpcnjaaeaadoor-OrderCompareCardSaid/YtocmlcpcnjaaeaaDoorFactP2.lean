/- A closed fact of the program, evaluated by the kernel. No condition. -/
import Derived.Test.YtocmlcpcnjaaeaaDoorRows
import Derived.Test.YtocmlcpcnjaaeaaDoorChecked
import Derived.JoinedCond
import Derived.KernelRfl
import Derived.SevenTiedAt
namespace Go.Proofs.YtocmlcpcnjaaeaaDoor.factP
open Go
theorem lifts : (Rows.orderKeysRow.lifted == Tryd.pinned.checked.prog.liftsFinal) = true := by kernel_rfl
end Go.Proofs.YtocmlcpcnjaaeaaDoor.factP
