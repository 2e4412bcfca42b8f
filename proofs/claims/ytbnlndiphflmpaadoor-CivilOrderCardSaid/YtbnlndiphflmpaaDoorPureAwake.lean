/- The document's examples of layer 2 hold: plain, of the printed functions. -/
import Derived.Test.YtbnlndiphflmpaaDoorPureCivil
namespace Go.Proofs.YtbnlndiphflmpaaDoor.Pure
open Go.RowKit Go.Proofs.YtbnlndiphflmpaaDoor.PC Go.Proofs.YtbnlndiphflmpaaDoorW.PrintWords Go.Proofs.YtbnlndiphflmpaaDoorW.PrintLast
theorem awake_eq (k : Nat) : lustrumlaw02_awake.f (k + 1) = some true := by
  unfold lustrumlaw02_awake.f
  rw [number_eq _ _ _ (by omega), date_eq, leap_eq _ (by omega), days_eq _ _ (by omega)]
  simp only [Option.bind_some]
  rw [if_pos (show Cal.Valid 2000 1 1 by decide), show Cal.num 2000 1 1 = 730485 by decide, if_pos (show (0 : Int) ≤ 3652424 ∧ (3652424 : Int) ≤ 3652424 by omega), show Cal.dateOf 3652424 = (9999, 12, 31) by decide, weekday_eq]
  rfl
end Go.Proofs.YtbnlndiphflmpaaDoor.Pure
