/- A closed fact of the program, evaluated by the kernel. No condition. -/
import Derived.Test.YtocmlcpcnjaaeaaGreatDoorRows
import Derived.Test.YtocmlcpcnjaaeaaGreatDoorChecked
import Derived.JoinedCond
import Derived.KernelRfl
import Derived.SevenTiedAt
namespace Go.Proofs.YtocmlcpcnjaaeaaGreatDoor.factP
open Go
theorem mainIs : Tryz.pinned.checked.prog.mainIs = some (true, ( "b5dcc57c542a9e409afe88b6d385c0aac24ca6f60b56fd4fdf07880dfdd037f7" : String).toList) := by kernel_rfl
theorem looks : true = Tryz.pinned.checked.prog.looks [] := by kernel_rfl
end Go.Proofs.YtocmlcpcnjaaeaaGreatDoor.factP
