/- A closed fact of the program, evaluated by the kernel. No condition. -/
import Derived.Test.YtdlgenbfnahmeaaGreatDoorRows
import Derived.Test.YtdlgenbfnahmeaaGreatDoorChecked
import Derived.JoinedCond
import Derived.KernelRfl
import Derived.SevenTiedAt
namespace Go.Proofs.YtdlgenbfnahmeaaGreatDoor.factP
open Go
theorem lifts : (Rows.narrowIsRow.lifted == Tryz.pinned.checked.prog.liftsFinal) = true := by kernel_rfl
end Go.Proofs.YtdlgenbfnahmeaaGreatDoor.factP
