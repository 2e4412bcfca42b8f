/- Whole numbers, dates and units: what the program's functions answer. No condition of its own. -/
import Derived.Test.YtjeoelajkncpcaaDoorVL
import Derived.Test.YtjeoelajkncpcaaDoorVCalUnit
namespace Go.Proofs.YtjeoelajkncpcaaDoor.V
open Go
set_option linter.unusedVariables false

theorem ok_ints_Floor {a b : Int} (ha : inI a) (hb : 1 ≤ b ∧ b ≤ 9223372036854775807) : FnE bs n_ints_Floor ((Shape.pair (.int .i64) (.int .i64)).compsE (a, b)) (.int .i64) (· = a / b) := by
  refine ok_of (e_ints_Floor (a, b) _) rfl ?_
  unfold c_ints_Floor
  unfold inI at ha
  refine cond_dec (fun h => by omega) fun _ => cond_dec (fun h => ⟨by dsimp only; omega, ?_⟩) fun h => ⟨by dsimp only; omega, ?_⟩
  · dsimp only at h ⊢
    have hm := Int.emod_nonneg a (b := b) (by omega)
    have hl := Int.emod_lt_of_pos a (b := b) (by omega)
    have hd := Int.mul_ediv_add_emod a b
    rw [w64_of (n := a + 1) (by omega)]
    have e : Int.tdiv (a + 1) b = a / b + 1 := by
      by_cases h1 : a + 1 < 0
      · rw [tdiv_neg h1 hb.1]
        by_cases hb1 : b = 1
        · subst hb1; simp
        · by_cases h2 : a % b + 1 = b
          · have e1 : (a + 1) = b * (a / b + 1) := by rw [Int.mul_add, Int.mul_one]; omega
            have e2 : (a + 1) % b = 0 := by rw [e1]; exact Int.mul_emod_right _ _
            rw [if_pos e2, e1]
            exact Int.mul_ediv_cancel_left _ (by omega)
          · have e3 : (a + 1) % b = a % b + 1 := by rw [show a + 1 = (a % b + 1) + b * (a / b) by omega, Int.add_mul_emod_self_left]; exact Int.emod_eq_of_lt (by omega) (by omega)
            have e4 : (a + 1) / b = a / b := by
              rw [show a + 1 = (a % b + 1) + b * (a / b) by omega, Int.add_mul_ediv_left _ _ (by omega), Int.ediv_eq_zero_of_lt (by omega) (by omega)]
              omega
            rw [if_neg (by omega), e4]
      · have : a = -1 := by omega
        subst this
        rw [Int.neg_one_ediv, Int.sign_eq_one_of_pos (by omega)]
        simp
    rw [e]
    have h1 : a / b ≤ -1 := by
      have := Int.ediv_neg_of_neg_of_pos h (show 0 < b by omega)
      omega
    have h2 : -9223372036854775808 ≤ a / b := by
      rw [Int.le_ediv_iff_mul_le (by omega)]
      have : -9223372036854775808 * b ≤ -9223372036854775808 * 1 := Int.mul_le_mul_of_nonpos_left (by omega) hb.1
      omega
    rw [w64_of (n := a / b + 1) (by omega), w64_of (n := a / b + 1 - 1) (by omega)]
    exact ie (by omega)
  · dsimp only at h ⊢
    rw [tdiv_of (by omega)]
    have h0 := Int.ediv_nonneg (a := a) (b := b) (by omega) (by omega)
    have h1 := Int.ediv_le_self b (show 0 ≤ a by omega)
    exact w64_of (by omega)

theorem ok_ints_Mod {a b : Int} (ha : inI a) (hb : 1 ≤ b ∧ b ≤ 9223372036854775807) : FnE bs n_ints_Mod ((Shape.pair (.int .i64) (.int .i64)).compsE (a, b)) (.int .i64) (· = a % b) := by
  refine ok_of (e_ints_Mod (a, b) _) rfl ?_
  unfold c_ints_Mod
  unfold inI at ha
  have hm := Int.emod_nonneg a (b := b) (by omega)
  have hl := Int.emod_lt_of_pos a (b := b) (by omega)
  refine cond_dec (fun h => by dsimp only at h; omega) fun _ => ⟨by dsimp only; omega, cond_dec (fun h => ?_) fun h => ⟨by dsimp only; omega, ?_⟩⟩
  · dsimp only at h ⊢
    by_cases h0 : 0 ≤ a
    · rw [tmod_of h0] at h; omega
    · rw [tmod_neg (by omega) hb.1] at h ⊢
      split at h
      · omega
      · rename_i q
        rw [if_neg q, w64_of (by omega)]
        exact ie (by omega)
  · dsimp only at h ⊢
    by_cases h0 : 0 ≤ a
    · rw [tmod_of h0]
    · rw [tmod_neg (by omega) hb.1] at h ⊢
      split at h
      · rename_i q; rw [if_pos q]; exact ie (by omega)
      · omega

theorem ok_civil_Leap {y : Int} (hy : inI y) : FnE bs n_civil_Leap ((Shape.int .i64).compsE y) .bool (· = decide (VCal.Leap y)) := by
  refine ok_of (e_civil_Leap y _) rfl ?_
  unfold c_civil_Leap
  refine callP_eq (ok_ints_Mod hy (by omega)) (cond_dec (fun h => ?_) fun h => callP_eq (ok_ints_Mod hy (by omega)) (cond_dec (fun h2 => callP_eq (ok_ints_Mod hy (by omega)) ?_) fun h2 => ?_))
  · unfold VCal.Leap; simp [h]
  · unfold VCal.Leap; simp [h, h2]
  · unfold VCal.Leap; simp [h, h2]

theorem lens_eq {m : Int} (h : 1 ≤ m ∧ m ≤ 12) : ([(0 : Int), (31 : Int), (28 : Int), (31 : Int), (30 : Int), (31 : Int), (30 : Int), (31 : Int), (31 : Int), (30 : Int), (31 : Int), (30 : Int), (31 : Int)] : List Int).getD (0 + m.toNat) 0 = VCal.lens m.toNat := by
  rcases VCal.months h.1 h.2 with rfl | rfl | rfl | rfl | rfl | rfl | rfl | rfl | rfl | rfl | rfl | rfl <;> rfl

theorem ok_civil_Days {y m : Int} (hy : inI y) : FnE bs n_civil_Days ((Shape.pair (.int .i64) (.int .i64)).compsE (y, m)) (.int .i64) (· = VCal.mlen y m) := by
  refine ok_of (e_civil_Days (y, m) _) rfl ?_
  unfold c_civil_Days VCal.mlen
  refine cond_dec (fun h => ?_) fun h => cond_dec (fun h2 => ?_) fun h2 => cond_dec (fun h3 => callP_eq (ok_civil_Leap hy) (cond_bool (fun h4 => ?_) fun h4 => ⟨by dsimp only at *; omega, ?_⟩)) fun h3 => ⟨by dsimp only at *; omega, ?_⟩
  · rw [if_pos h]
  · dsimp only at *; rw [if_neg h, if_pos h2]
  · dsimp only at *; rw [if_neg h, if_neg (by omega), if_pos h3, if_pos (by simpa using h4)]
  · dsimp only at *; rw [if_neg h, if_neg (by omega), if_pos h3, if_neg (by simpa using h4), h3]; rfl
  · dsimp only at *; rw [if_neg h, if_neg (by omega), if_neg h3]; exact lens_eq (by omega)

theorem ok_civil_Valid {y m d : Int} (hy : inI y) : FnE bs n_civil_Valid ((Shape.pair (.int .i64) (.pair (.int .i64) (.int .i64))).compsE (y, m, d)) .bool (· = decide (VCal.Valid y m d)) := by
  refine ok_of (e_civil_Valid (y, m, d) _) rfl ?_
  unfold c_civil_Valid VCal.Valid
  refine cond_dec (fun h => cond_dec (fun h2 => cond_dec (fun h3 => callP_eq (ok_civil_Days hy) ?_) fun h3 => ?_) fun h2 => ?_) fun h => ?_ <;> dsimp only at *
  · simp [h, h2, h3]
  · simp [h3]
  · simp [h2]
  · simp [h]

theorem era_sum (y' : Int) (h : -1 ≤ y' ∧ y' ≤ 9999) : y' / 400 * 146097 + y' % 400 * 365 + y' % 400 / 4 - y' % 400 / 100 = 365 * y' + y' / 4 - y' / 100 + y' / 400 := by
  have h0 : y' = 400 * (y' / 400) + y' % 400 := by omega
  generalize hE : y' / 400 = E at *
  generalize hR : y' % 400 = R at *
  have hr : 0 ≤ R ∧ R < 400 := by omega
  have h1 : y' / 4 = 100 * E + R / 4 := by omega
  have h2 : y' / 100 = 4 * E + R / 100 := by omega
  omega
theorem number_sum (y' k d : Int) (hy : -1 ≤ y' ∧ y' ≤ 9999) (hk : 0 ≤ k ∧ k ≤ 11) (hd : 1 ≤ d ∧ d ≤ 31) :
    w64 ((w64 ((w64 ((w64 ((w64 ((w64 (y' / 400 * 146097)) + (w64 (y' % 400 * 365)))) + (w64 (Int.tdiv (y' % 400) 4)))) - (w64 (Int.tdiv (y' % 400) 100)))) + (w64 ((w64 ((w64 (Int.tdiv (w64 ((w64 (153 * k)) + 2)) 5)) + d)) - 1)))) + 60) = 365 * y' + y' / 4 - y' / 100 + y' / 400 + (153 * k + 2) / 5 + d + 59 := by
  have e := era_sum y' hy
  have b1 : -1 ≤ y' / 400 ∧ y' / 400 ≤ 24 := by omega
  have b2 : 0 ≤ y' % 400 ∧ y' % 400 < 400 := by omega
  generalize y' / 400 = E at *
  generalize y' % 400 = R at *
  simp (disch := omega) only [w64_of, tdiv_of]
  omega

theorem ok_civil_Number {y m d : Int} (hy : inI y) : FnE bs n_civil_Number ((Shape.pair (.int .i64) (.pair (.int .i64) (.int .i64))).compsE (y, m, d)) (.tup (.pair (.int .i64) .bool)) (· = if VCal.Valid y m d then (VCal.num y m d, true) else (0, false)) := by
  refine ok_of (e_civil_Number (y, m, d) _) rfl ?_
  unfold c_civil_Number
  refine callP_eq (ok_civil_Valid hy) (cond_not (fun hv => ?_) fun hv => ?_)
  · have hv : ¬ VCal.Valid y m d := by simpa using hv
    rw [if_neg hv]
  · have hv : VCal.Valid y m d := by simpa using hv
    rw [if_pos hv]
    have hm := VCal.valid_month hv
    have hl := VCal.mlen_pos (y := y) hm.1 hm.2
    obtain ⟨v0, v1, v2, v3⟩ := hv
    unfold VCal.num
    refine cond_dec (fun h3 => ?_) fun h3 => ?_ <;> dsimp only at h3 ⊢
    · rw [if_pos h3, w64_of (n := y - 1) (by omega)]
      refine callP_eq (ok_ints_Floor (by unfold inI; omega) (by omega)) (callP_eq (ok_ints_Mod (by unfold inI; omega) (by omega)) ⟨by omega, by omega, by omega, ?_⟩)
      rw [w64_of (n := m + 12) (by omega), w64_of (n := m + 12 - 3) (by omega), show m + 12 - 3 = m + 9 by omega, number_sum (y - 1) (m + 9) d (by omega) (by omega) (by omega)]
    · rw [if_neg h3]
      refine callP_eq (ok_ints_Floor (by unfold inI; omega) (by omega)) (callP_eq (ok_ints_Mod (by unfold inI; omega) (by omega)) ⟨by omega, by omega, by omega, ?_⟩)
      rw [w64_of (n := m - 3) (by omega), number_sum y (m - 3) d (by omega) (by omega) (by omega)]
end Go.Proofs.YtjeoelajkncpcaaDoor.V
