/- Whole part and what is left, as the printed functions tell them: plain facts, no program's run in sight. -/
import Derived.Test.YtbnlndiphflmpabDoorPUx1
namespace Go.Proofs.YtbnlndiphflmpabDoor.UPure
open Go.RowKit Go.Proofs.YtbnlndiphflmpabDoor.PU Go.Proofs.YtbnlndiphflmpabDoorW.PrintWords Go.Proofs.YtbnlndiphflmpabDoorW.PrintLast

theorem wf_in {a : Int} (h : (Lit.int .i64 a).wf = true) : -9223372036854775808 ≤ a ∧ a ≤ 9223372036854775807 := by
  simpa [Lit.wf, IntKind.min, IntKind.max, IntKind.signed, IntKind.bits] using h
theorem w64 {n : Int} (h0 : -9223372036854775808 ≤ n) (h1 : n ≤ 9223372036854775807) : wrap64 n = n := by unfold wrap64; omega
def floorS (a b : Int) : Int := if b < 1 then 0 else a / b
def modS (a b : Int) : Int := if b < 1 then 0 else a % b

theorem div_lo {a b : Int} (hb : 1 ≤ b) (ha : -9223372036854775808 ≤ a ∧ a ≤ 9223372036854775807) : -9223372036854775808 ≤ a / b ∧ a / b ≤ 9223372036854775807 := by
  constructor
  · rw [Int.le_ediv_iff_mul_le (by omega)]
    have : (9223372036854775808 : Int) ≤ 9223372036854775808 * b := by omega
    omega
  · by_cases h : 0 ≤ a
    · have := Int.ediv_le_self b h; omega
    · have := Int.ediv_neg_of_neg_of_pos (show a < 0 by omega) (show 0 < b by omega); omega
theorem tdiv_pos' {a b : Int} (ha : 0 ≤ a) : Int.tdiv a b = a / b := Int.tdiv_eq_ediv_of_nonneg ha
theorem tdiv_neg' {a b : Int} (ha : a < 0) (hb : 1 ≤ b) : Int.tdiv a b = if a % b = 0 then a / b else a / b + 1 := by
  rw [Int.tdiv_eq_ediv]
  have : ¬ (0 ≤ a) := by omega
  by_cases h : a % b = 0
  · have hd : b ∣ a := Int.dvd_of_emod_eq_zero h
    rw [if_pos (Or.inr hd), if_pos h]; omega
  · have hd : ¬ b ∣ a := fun z => h (Int.emod_eq_zero_of_dvd z)
    rw [if_neg (by simp [this, hd]), if_neg h, Int.sign_eq_one_of_pos (by omega)]
theorem tmod_pos' {a b : Int} (ha : 0 ≤ a) : Int.tmod a b = a % b := Int.tmod_eq_emod_of_nonneg ha
theorem tmod_neg' {a b : Int} (ha : a < 0) (hb : 1 ≤ b) : Int.tmod a b = if a % b = 0 then 0 else a % b - b := by
  have h1 := Int.mul_tdiv_add_tmod a b
  have h2 := Int.mul_ediv_add_emod a b
  have h3 := tdiv_neg' ha hb
  split
  · rename_i h; rw [if_pos h] at h3; rw [h3] at h1; omega
  · rename_i h; rw [if_neg h] at h3; rw [h3, Int.mul_add] at h1; omega

theorem floor_eq (a b : Int) (ha : -9223372036854775808 ≤ a ∧ a ≤ 9223372036854775807) (hb' : b ≤ 9223372036854775807) : ints_Floor.f a b = some (floorS a b) := by
  unfold ints_Floor.f floorS
  by_cases hb : b < 1
  · rw [if_pos hb, if_pos hb]
  · rw [if_neg hb, if_neg hb]
    have hq := div_lo (show 1 ≤ b by omega) ha
    by_cases h : a < 0
    · rw [if_pos h, if_neg (by omega), w64 (n := a + 1) (by omega) (by omega)]
      congr 1
      have e : Int.tdiv (a + 1) b = a / b + 1 := by
        by_cases h1 : a + 1 = 0
        · have : a = -1 := by omega
          subst this
          simp
          have h2 := Int.mul_ediv_add_emod (-1) b
          have h3 := Int.emod_nonneg (-1) (show b ≠ 0 by omega)
          have h4 := Int.emod_lt_of_pos (-1) (show 0 < b by omega)
          have h5 : (-1 : Int) / b = -1 := by
            rw [Int.ediv_eq_iff_of_pos (by omega)]; omega
          omega
        · rw [tdiv_neg' (by omega) (by omega)]
          have h2 := Int.mul_ediv_add_emod a b
          have h3 := Int.emod_nonneg a (show b ≠ 0 by omega)
          have h4 := Int.emod_lt_of_pos a (show 0 < b by omega)
          by_cases hm : a % b = b - 1
          · have e1 : (a + 1) / b = a / b + 1 := by
              have : a + 1 = b * (a / b + 1) := by rw [Int.mul_add]; omega
              rw [this, Int.mul_ediv_cancel_left _ (by omega)]
            have e2 : (a + 1) % b = 0 := by
              have : a + 1 = b * (a / b + 1) := by rw [Int.mul_add]; omega
              rw [this, Int.mul_emod_right]
            rw [if_pos e2, e1]
          · have e1 : (a + 1) / b = a / b := by
              rw [Int.ediv_eq_iff_of_pos (by omega)]
              rw [Int.mul_comm] at h2
              omega
            have e2 : (a + 1) % b = a % b + 1 := by
              have h5 := Int.mul_ediv_add_emod (a + 1) b
              rw [e1] at h5; omega
            rw [if_neg (by omega), e1]
      have hn := Int.ediv_neg_of_neg_of_pos h (show 0 < b by omega)
      rw [e, w64 (n := a / b + 1) (by omega) (by omega), w64 (n := a / b + 1 - 1) (by omega) (by omega)]
      omega
    · rw [if_neg h, if_neg (by omega), tdiv_pos' (by omega), w64 hq.1 hq.2]
theorem mod_in (a b : Int) (ha : -9223372036854775808 ≤ a ∧ a ≤ 9223372036854775807) (hb : 1 ≤ b) (hb' : b ≤ 9223372036854775807) : (if Int.tmod a b < 0 then some (wrap64 (Int.tmod a b + b)) else some (Int.tmod a b)) = some (a % b) := by
  have h3 := Int.emod_nonneg a (show b ≠ 0 by omega)
  have h4 := Int.emod_lt_of_pos a (show 0 < b by omega)
  by_cases h : a < 0
  · rw [tmod_neg' h hb]
    by_cases hm : a % b = 0
    · rw [if_pos hm, if_neg (by omega), hm]
    · rw [if_neg hm, if_pos (by omega), w64 (by omega) (by omega)]
      congr 1; omega
  · rw [tmod_pos' (by omega), if_neg (by omega)]
theorem mod_eq (a b : Int) (ha : -9223372036854775808 ≤ a ∧ a ≤ 9223372036854775807) (hb' : b ≤ 9223372036854775807) : ints_Mod.f a b = some (modS a b) := by
  unfold ints_Mod.f modS
  by_cases hb : b < 1
  · rw [if_pos hb, if_pos hb]
  · rw [if_neg hb, if_neg hb, if_neg (by omega)]
    exact mod_in a b ha (by omega) hb'
theorem w64s {n : Int} (h : -9223372036854775808 ≤ n ∧ n ≤ 9223372036854775807) : wrap64 n = n := w64 h.1 h.2
theorem tdivs {a b : Int} (h : 0 ≤ a) : Int.tdiv a b = a / b := Int.tdiv_eq_ediv_of_nonneg h
theorem tmods {a b : Int} (h : 0 ≤ a) : Int.tmod a b = a % b := Int.tmod_eq_emod_of_nonneg h
theorem floor_pos (a b : Int) (ha : -9223372036854775808 ≤ a ∧ a ≤ 9223372036854775807) (hb : 1 ≤ b ∧ b ≤ 9223372036854775807) : ints_Floor.f a b = some (a / b) := by
  rw [floor_eq a b ha hb.2]; unfold floorS; rw [if_neg (by omega)]
theorem mod_pos (a b : Int) (ha : -9223372036854775808 ≤ a ∧ a ≤ 9223372036854775807) (hb : 1 ≤ b ∧ b ≤ 9223372036854775807) : ints_Mod.f a b = some (a % b) := by
  rw [mod_eq a b ha hb.2]; unfold modS; rw [if_neg (by omega)]
end Go.Proofs.YtbnlndiphflmpabDoor.UPure
