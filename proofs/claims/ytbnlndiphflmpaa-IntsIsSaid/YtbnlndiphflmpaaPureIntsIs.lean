/- The program's layer of whole numbers answers as the document says, of any three numbers: whole part, what is left, sum, product, and what is within bounds. No condition. -/
import Derived.Test.YtbnlndiphflmpaaPureInts
namespace Go.Proofs.Ytbnlndiphflmpaa.Pure
open Go.RowKit Go.Proofs.Ytbnlndiphflmpaa.PI Go.Proofs.YtbnlndiphflmpaaW.PrintWords Go.Proofs.YtbnlndiphflmpaaW.PrintLast

theorem wrap_quo (a b : Int) (ha : -9223372036854775808 ≤ a ∧ a ≤ 9223372036854775807) (hb : -9223372036854775808 ≤ b ∧ b ≤ 9223372036854775807) (hb0 : b ≠ 0) (h1 : ¬ (b = -1 ∧ a = -9223372036854775808)) :
    wrap64 (Int.tdiv (wrap64 (a * b)) b) = a ↔ (-9223372036854775808 ≤ a * b ∧ a * b ≤ 9223372036854775807) := by
  constructor
  · intro h
    have h2 := Int.mul_tdiv_add_tmod (wrap64 (a * b)) b
    have h3 : (Int.tmod (wrap64 (a * b)) b).natAbs < b.natAbs := by
      rw [Int.natAbs_tmod]; exact Nat.mod_lt _ (by omega)
    have hq : (Int.tdiv (wrap64 (a * b)) b).natAbs ≤ (wrap64 (a * b)).natAbs := by
      rw [Int.natAbs_tdiv]; exact Nat.div_le_self _ _
    generalize hW : wrap64 (a * b) = W at *
    generalize hQ : Int.tdiv W b = q at *
    generalize Int.tmod W b = r at *
    have hWr : -9223372036854775808 ≤ W ∧ W ≤ 9223372036854775807 := by rw [← hW]; unfold wrap64; omega
    have hqa : q = a ∨ (q = 9223372036854775808 ∧ a = -9223372036854775808) := by
      have : -9223372036854775808 ≤ q ∧ q ≤ 9223372036854775808 := by omega
      by_cases e : q = 9223372036854775808
      · right; subst e; unfold wrap64 at h; omega
      · left; rw [w64 (by omega) (by omega)] at h; exact h
    rcases hqa with rfl | ⟨rfl, rfl⟩
    · rw [Int.mul_comm b q] at h2
      unfold wrap64 at hW
      generalize q * b = p at *
      omega
    · -- then b is 1 or -1, and W is the least
      exfalso
      have hbb : b = 1 ∨ b = -1 := by
        have : W = b * 9223372036854775808 + r := by omega
        omega
      omega
  · intro h
    rw [w64 h.1 h.2, Int.mul_tdiv_cancel _ hb0, w64 ha.1 ha.2]
theorem rmul_eq (k : Nat) (a b : Int) (ha : -9223372036854775808 ≤ a ∧ a ≤ 9223372036854775807) (hb : -9223372036854775808 ≤ b ∧ b ≤ 9223372036854775807) : lustrumref01_Mul.f (k + 2) a b = some (told (a * b)) := by
  unfold lustrumref01_Mul.f
  by_cases h0 : a = 0
  · rw [if_pos h0]; simp only [lustrumref01_Mul.j0, if_true]; rw [h0, Int.zero_mul, told_yes (by omega)]
  · rw [if_neg h0]
    by_cases h1 : b = 0
    · simp only [lustrumref01_Mul.j0]; rw [if_pos (by simp [h1]), h1, Int.mul_zero, told_yes (by omega)]
    · simp only [lustrumref01_Mul.j0]; rw [if_neg (by simp [h1])]
      have last : ¬ (b = -1 ∧ a = -9223372036854775808) → lustrumref01_Mul.j1 (k + 1) a b false = some (told (a * b)) := by
        intro hn
        have hw := wrap_quo a b ha hb h1 hn
        simp only [lustrumref01_Mul.j1]; rw [if_neg (by simp), if_neg h1]
        by_cases hf : -9223372036854775808 ≤ a * b ∧ a * b ≤ 9223372036854775807
        · rw [if_pos (hw.mpr hf), told_yes hf, w64 hf.1 hf.2]
        · rw [if_neg (fun z => hf (hw.mp z)), told_no hf]
      have bad : a * b = 9223372036854775808 → lustrumref01_Mul.j1 (k + 1) a b true = some (told (a * b)) := by
        intro e; simp only [lustrumref01_Mul.j1, if_true]; rw [told_no (by omega)]
      by_cases ha1 : a = -1
      · rw [if_pos ha1]
        by_cases hbl : b = -9223372036854775808
        · rw [if_pos hbl]; exact bad (by subst ha1 hbl; rfl)
        · rw [if_neg hbl]
          by_cases hb1 : b = -1
          · rw [if_pos hb1, show (a == (-9223372036854775808)) = false by simp; omega]; exact last (by omega)
          · rw [if_neg hb1]; exact last (by omega)
      · rw [if_neg ha1]
        by_cases hb1 : b = -1
        · rw [if_pos hb1]
          by_cases hal : a = -9223372036854775808
          · rw [show (a == (-9223372036854775808)) = true by simp [hal]]; exact bad (by subst hb1 hal; rfl)
          · rw [show (a == (-9223372036854775808)) = false by simp [hal]]; exact last (by omega)
        · rw [if_neg hb1]; exact last (by omega)
theorem rclamp_eq (k : Nat) (n lo hi : Int) : lustrumref01_Clamp.f (k + 1) n lo hi = some (mx lo (mn n (mx lo hi))) := by
  unfold lustrumref01_Clamp.f mx mn
  by_cases h : n < lo
  · rw [if_pos h]; congr 1; split <;> (try split) <;> omega
  · rw [if_neg h]
    by_cases h1 : n > hi
    · rw [if_pos h1]; simp only [lustrumref01_Clamp.j0]
      by_cases h2 : hi ≥ lo
      · rw [if_pos (by simp [h2])]; congr 1; split <;> (try split) <;> omega
      · rw [if_neg (by simp [h2]), if_pos h1]; congr 1; split <;> (try split) <;> omega
    · rw [if_neg h1]; simp only [lustrumref01_Clamp.j0]; rw [if_neg (by simp), if_neg h1]; congr 1; split <;> (try split) <;> omega

theorem IntsIs : lustrumlaw01_IntsIs.Pure := by
  intro a b c ha hb hc
  replace ha := wf_in ha
  replace hb := wf_in hb
  refine ⟨2, ?_⟩
  unfold lustrumlaw01_IntsIs.f
  rw [awake_eq, add_eq a b ha hb, radd_eq a b ha hb, mul_eq a b ha hb, rmul_eq 0 a b ha hb, floor_eq a b ha hb.2, rfloor_eq a b ha hb.2, mod_eq a b ha hb.2, rmod_eq a b ha hb.2, clamp_eq, rclamp_eq]
  simp
end Go.Proofs.Ytbnlndiphflmpaa.Pure
