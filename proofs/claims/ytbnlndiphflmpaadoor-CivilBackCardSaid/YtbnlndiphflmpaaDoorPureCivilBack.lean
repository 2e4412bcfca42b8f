/- Numbers and dates lead to each other, of any date and any number. No condition. -/
import Derived.Test.YtbnlndiphflmpaaDoorPCx1
import Derived.Test.YtbnlndiphflmpaaDoorPureAwake
namespace Go.Proofs.YtbnlndiphflmpaaDoor.Pure
open Go.RowKit Go.Proofs.YtbnlndiphflmpaaDoor.PC Go.Proofs.YtbnlndiphflmpaaDoorW.PrintWords Go.Proofs.YtbnlndiphflmpaaDoorW.PrintLast
theorem back_last (n : Int) : lustrumlaw02_CivilBack.j0 2 n true = some true := by
  simp only [lustrumlaw02_CivilBack.j0]
  rw [date_eq]
  simp only [Option.bind_some]
  by_cases h : 0 ≤ n ∧ n ≤ 3652424
  · obtain ⟨v, e⟩ := Cal.date_num h
    have v1 := v.1
    have v2 := v.2.1
    rw [if_pos h, number_eq _ _ _ (by omega), if_pos v]
    simp only [Option.bind_some]
    rw [if_neg (by omega), if_neg (by omega), e]
    simp
  · rw [if_neg h, number_eq _ _ _ (by omega), if_neg (show ¬ Cal.Valid 0 0 0 by decide)]
    simp only [Option.bind_some]
    by_cases h1 : n < 0
    · rw [if_pos h1]; simp
    · rw [if_neg h1, if_pos (by omega)]; simp
theorem CivilBack : lustrumlaw02_CivilBack.Pure := by
  intro y m d n hy hm hd hn
  replace hy := wf_in hy
  refine ⟨2, ?_⟩
  unfold lustrumlaw02_CivilBack.f
  rw [awake_eq, number_eq y m d hy, valid_eq y m d hy]
  simp only [Option.bind_some]
  by_cases v : Cal.Valid y m d
  · rw [if_pos v, decide_eq_true v]
    have hb := Cal.num_bounds v
    simp only [bne_self_eq_false, Bool.false_eq_true, if_false, if_true]
    rw [date_eq, if_pos hb, Cal.date_of_num v]
    simp only [Option.bind_some]
    rw [if_neg (by omega), if_neg (by omega)]
    simp only [if_true]
    exact back_last n
  · rw [if_neg v, decide_eq_false v]
    simp only [bne_self_eq_false, Bool.false_eq_true, if_false]
    exact back_last n
end Go.Proofs.YtbnlndiphflmpaaDoor.Pure
