/- A product of two numbers is a product, or too great: either way round; divided by one it is the other one; numbers of no more than 2^31 have one. No condition. -/
import Derived.Test.YtbnlndiphflmpaaPureInts
namespace Go.Proofs.Ytbnlndiphflmpaa.Pure
open Go.RowKit Go.Proofs.Ytbnlndiphflmpaa.PI Go.Proofs.YtbnlndiphflmpaaW.PrintWords Go.Proofs.YtbnlndiphflmpaaW.PrintLast

theorem small_mul {a b : Int} (ha : -2147483648 ≤ a ∧ a ≤ 2147483648) (hb : -2147483648 ≤ b ∧ b ≤ 2147483648) : -9223372036854775808 ≤ a * b ∧ a * b ≤ 9223372036854775807 := by
  have h : (a * b).natAbs ≤ 2147483648 * 2147483648 := by
    rw [Int.natAbs_mul]; exact Nat.mul_le_mul (by omega) (by omega)
  omega
theorem sign_mul {a b : Int} (ha : a ≠ 0) (hb : b ≠ 0) : (decide (a * b > 0)) = ((decide (a > 0)) == (decide (b > 0))) := by
  by_cases h0 : a > 0 <;> by_cases h1 : b > 0
  · have := Int.mul_pos h0 h1; simp [h0, h1, this]
  · have := Int.mul_neg_of_pos_of_neg h0 (show b < 0 by omega); simp [h0, h1]; omega
  · have := Int.mul_neg_of_neg_of_pos (show a < 0 by omega) h1; simp [h0, h1]; omega
  · have := Int.mul_pos_of_neg_of_neg (show a < 0 by omega) (show b < 0 by omega); simp [h0, h1]; omega
theorem IntsMul : lustrumlaw01_IntsMul.Pure := by
  intro a b ha hb
  replace ha := wf_in ha
  replace hb := wf_in hb
  refine ⟨1, ?_⟩
  unfold lustrumlaw01_IntsMul.f
  rw [awake_eq, mul_eq a b ha hb, mul_eq b a hb ha, Int.mul_comm b a]
  by_cases h : -9223372036854775808 ≤ a * b ∧ a * b ≤ 9223372036854775807
  · rw [told_yes h]
    simp only [Option.bind_some, bne_self_eq_false, Bool.false_eq_true, if_false, lustrumlaw01_IntsMul.j0, if_true]
    by_cases h0 : a = 0
    · rw [if_pos h0, h0]; simp
    · rw [if_neg h0]
      by_cases h1 : b = 0
      · rw [if_pos h1, h1]; simp
      · rw [if_neg h1, Int.mul_tdiv_cancel _ h1, w64 ha.1 ha.2, if_pos rfl, if_pos (by rw [Int.mul_tmod_left]), sign_mul h0 h1]; simp
  · rw [told_no h]
    simp only [Option.bind_some, bne_self_eq_false, Bool.false_eq_true, if_false, lustrumlaw01_IntsMul.j0, if_true]
    have h0 : a ≠ 0 := by rintro rfl; exact h (by omega)
    have h1 : b ≠ 0 := by rintro rfl; exact h (by omega)
    have h2 : a ≠ 1 := by rintro rfl; exact h (by omega)
    have h3 : b ≠ 1 := by rintro rfl; exact h (by omega)
    have hbig : a > 2147483648 ∨ a < -2147483648 ∨ b > 2147483648 ∨ b < -2147483648 := by
      apply Classical.byContradiction
      intro hn
      exact h (small_mul (by omega) (by omega))
    rw [if_neg h0, if_neg h1, if_neg h2]
    have h3' : (b != 1) = true := by simp [h3]
    rw [h3']
    rcases hbig with z | z | z | z
    · rw [if_pos z]
    · rw [if_neg (by omega), if_pos z]
    · by_cases y : a > 2147483648
      · rw [if_pos y]
      · rw [if_neg y]
        by_cases y' : a < -2147483648
        · rw [if_pos y']
        · rw [if_neg y', if_pos z]
    · by_cases y : a > 2147483648
      · rw [if_pos y]
      · rw [if_neg y]
        by_cases y' : a < -2147483648
        · rw [if_pos y']
        · rw [if_neg y', if_neg (by omega), if_pos z]
end Go.Proofs.Ytbnlndiphflmpaa.Pure
