/- A closed fact of the program, evaluated by the kernel. No condition. -/
import Derived.Test.YtocmlcpcnjaaeaaDoorRows
import Derived.Test.YtocmlcpcnjaaeaaDoorChecked
import Derived.JoinedCond
import Derived.KernelRfl
import Derived.SevenTiedAt
namespace Go.Proofs.YtocmlcpcnjaaeaaDoor.factP
open Go
theorem mayEnter : Tryd.pinned.checked.prog.mayEnter = true := by kernel_rfl
end Go.Proofs.YtocmlcpcnjaaeaaDoor.factP
