/- A closed fact of the program, evaluated by the kernel. No condition. -/
import Derived.Test.YtgeefhjlfdidmaaGreatDoorRows
import Derived.Test.YtgeefhjlfdidmaaGreatDoorChecked
import Derived.JoinedCond
import Derived.KernelRfl
import Derived.SevenTiedAt
namespace Go.Proofs.YtgeefhjlfdidmaaGreatDoor.factP
open Go
theorem lifts : (Rows.topUnitsRow.lifted == Tryz.pinned.checked.prog.liftsFinal) = true := by kernel_rfl
end Go.Proofs.YtgeefhjlfdidmaaGreatDoor.factP
