/- How many units there are, a unit's first and last day, and the unit of a day are what the document says, of any kind, number and day. No condition. -/
import Derived.Test.YtbnlndiphflmpaaDoorPUx1
import Derived.Test.YtbnlndiphflmpaaDoorUPureUnitRef
import Derived.Test.YtbnlndiphflmpaaDoorUPureUnitAwake
namespace Go.Proofs.YtbnlndiphflmpaaDoor.Pure
open Go.RowKit Go.Proofs.YtbnlndiphflmpaaDoor.PU Go.Proofs.YtbnlndiphflmpaaDoor.UPure Go.Proofs.YtbnlndiphflmpaaDoorW.PrintWords Go.Proofs.YtbnlndiphflmpaaDoorW.PrintLast
theorem UnitIs : lustrumlaw03_UnitIs.Pure := by
  intro kind i day hk hi hd
  replace hi := wf_in hi
  refine ⟨10020, ?_⟩
  unfold lustrumlaw03_UnitIs.f
  rw [awake03_eq, ufirst_eq, rufirst_eq _ _ _ (by omega), ulast_eq, rulast_eq _ _ _ (by omega) hi.2, uof_eq, ruof_eq _ _ _ (by omega), ucount_eq, rucount_eq]
  cases UCal.uof kind day <;> simp
end Go.Proofs.YtbnlndiphflmpaaDoor.Pure
