/- A closed fact of the program, evaluated by the kernel. No condition. -/
import Derived.Test.YtocmlcpcnjaaeaaGreatDoorRows
import Derived.Test.YtocmlcpcnjaaeaaGreatDoorChecked
import Derived.JoinedCond
import Derived.KernelRfl
namespace Go.Proofs.YtocmlcpcnjaaeaaGreatDoor.factP
open Go
theorem lifts : (Rows.relateIsRow.lifted == Tryz.pinned.checked.prog.liftsFinal) = true := by kernel_rfl
end Go.Proofs.YtocmlcpcnjaaeaaGreatDoor.factP
