/- Dates are in the order of their numbers, by year, month and day; each number of a day is a date's. No condition. -/
import Derived.Test.YtbnlndiphflmpaaDoorPCx2
import Derived.Test.YtbnlndiphflmpaaDoorPureAwake
namespace Go.Proofs.YtbnlndiphflmpaaDoor.Pure
open Go.RowKit Go.Proofs.YtbnlndiphflmpaaDoor.PC Go.Proofs.YtbnlndiphflmpaaDoorW.PrintWords Go.Proofs.YtbnlndiphflmpaaDoorW.PrintLast
theorem CivilOrder : lustrumlaw02_CivilOrder.Pure := by
  intro a b ha hb
  refine ⟨1, ?_⟩
  unfold lustrumlaw02_CivilOrder.f
  rw [awake_eq, and_30, and_30, tmods (by omega), tmods (by omega), date_eq, date_eq]
  have bm : 0 ≤ a % 1073741824 % 3652425 ∧ a % 1073741824 % 3652425 ≤ 3652424 := by omega
  have bn : 0 ≤ b % 1073741824 % 3652425 ∧ b % 1073741824 % 3652425 ≤ 3652424 := by omega
  generalize a % 1073741824 % 3652425 = m at *
  generalize b % 1073741824 % 3652425 = n at *
  rw [if_pos bm, if_pos bn]
  obtain ⟨vm, em⟩ := Cal.date_num bm
  obtain ⟨vn, en⟩ := Cal.date_num bn
  have hlt := Cal.lt_num vm vn
  rw [em, en] at hlt
  generalize hp : (Cal.dateOf m).1 = p at *
  generalize hq : (Cal.dateOf m).2.1 = q at *
  generalize hr : (Cal.dateOf m).2.2 = r at *
  generalize hs : (Cal.dateOf n).1 = s at *
  generalize ht : (Cal.dateOf n).2.1 = t at *
  generalize hu : (Cal.dateOf n).2.2 = u at *
  have v1 := vm.1
  have v2 := vm.2.1
  have v3 := vn.1
  have v4 := vn.2.1
  simp only [Option.bind_some, hp, hq, hr, hs, ht, hu, if_true, valid_eq p q r (show -9223372036854775808 ≤ p ∧ p ≤ 9223372036854775807 by omega), valid_eq s t u (show -9223372036854775808 ≤ s ∧ s ≤ 9223372036854775807 by omega), decide_eq_true vm, decide_eq_true vn]
  unfold Cal.Before at hlt
  by_cases h1 : p < s
  · rw [if_pos h1, decide_eq_true (show m < n by omega)]; rfl
  · rw [if_neg h1]
    by_cases h2 : p = s
    · rw [if_pos h2]
      by_cases h3 : q < t
      · rw [if_pos h3, decide_eq_true (show m < n by omega)]; rfl
      · rw [if_neg h3]
        by_cases h4 : q = t
        · rw [if_pos h4]
          by_cases h5 : r < u
          · rw [decide_eq_true h5, decide_eq_true (show m < n by omega)]; rfl
          · rw [decide_eq_false h5, decide_eq_false (show ¬ m < n by omega)]; rfl
        · rw [if_neg h4, decide_eq_false (show ¬ m < n by omega)]; rfl
    · rw [if_neg h2, decide_eq_false (show ¬ m < n by omega)]; rfl
end Go.Proofs.YtbnlndiphflmpaaDoor.Pure
