/- One divisor more is one more: the number with the divisor added has a whole part that is one greater, and the same is left; a greater number has no lesser whole part. No condition. -/
import Derived.Test.YtbnlndiphflmpaaPureInts
namespace Go.Proofs.Ytbnlndiphflmpaa.Pure
open Go.RowKit Go.Proofs.Ytbnlndiphflmpaa.PI Go.Proofs.YtbnlndiphflmpaaW.PrintWords Go.Proofs.YtbnlndiphflmpaaW.PrintLast

theorem IntsSteps : lustrumlaw01_IntsSteps.Pure := by
  intro a b c ha hb hc
  replace ha := wf_in ha
  replace hb := wf_in hb
  replace hc := wf_in hc
  refine ⟨1, ?_⟩
  unfold lustrumlaw01_IntsSteps.f
  rw [awake_eq]
  simp only [Option.bind_some]
  by_cases h : b < 1
  · rw [if_pos h]
  · rw [if_neg h, add_eq a b ha hb]
    simp only [Option.bind_some]
    have hq := div_lo (show 1 ≤ b by omega) ha
    have last : lustrumlaw01_IntsSteps.j0 1 a b c true false = some true := by
      simp only [lustrumlaw01_IntsSteps.j0, Bool.false_eq_true, if_false, if_true]
      rw [floor_eq a b ha hb.2, floor_eq c b hc hb.2]
      simp only [Option.bind_some]
      unfold floorS
      rw [if_neg h, if_neg h]
      by_cases h1 : c < a
      · rw [if_pos h1, if_neg (by omega)]
        have := Int.ediv_le_ediv (show 0 < b by omega) (show c ≤ a by omega)
        simp [this]
      · rw [if_neg h1]
        have := Int.ediv_le_ediv (show 0 < b by omega) (show a ≤ c by omega)
        rw [if_pos this]
        by_cases h2 : c > a
        · rw [if_pos h2]
        · rw [if_neg h2, show c = a by omega]; simp
    by_cases hf : -9223372036854775808 ≤ a + b ∧ a + b ≤ 9223372036854775807
    · rw [told_yes hf]
      simp only [if_true]
      rw [floor_eq (a + b) b hf hb.2, floor_eq a b ha hb.2, mod_eq (a + b) b hf hb.2, mod_eq a b ha hb.2]
      simp only [Option.bind_some]
      unfold floorS modS
      simp only [if_neg h]
      have e1 : (a + b) / b = a / b + 1 := by
        rw [Int.add_ediv_of_dvd_right (Int.dvd_refl b), Int.ediv_self (by omega)]
      have e2 : (a + b) % b = a % b := by simp
      have hq' := div_lo (show 1 ≤ b by omega) hf
      rw [e1, e2, w64 (n := a / b + 1) (by omega) (by omega), if_pos rfl]
      simp only [bne_self_eq_false]
      exact last
    · rw [told_no hf]
      simp only [Bool.false_eq_true, if_false]
      exact last
end Go.Proofs.Ytbnlndiphflmpaa.Pure
