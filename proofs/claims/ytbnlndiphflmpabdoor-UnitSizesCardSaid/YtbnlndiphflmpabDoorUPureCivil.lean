/- Days as dates, as the printed functions tell them: leap years, months' lengths, dates, their numbers, numbers' dates. Plain facts, no program's run in sight. -/
import Derived.Test.YtbnlndiphflmpabDoorUPureInts
import Derived.Test.YtbnlndiphflmpabDoorUCal
namespace Go.Proofs.YtbnlndiphflmpabDoor.UPure
open Go.RowKit Go.Proofs.YtbnlndiphflmpabDoor.PU Go.Proofs.YtbnlndiphflmpabDoorW.PrintWords Go.Proofs.YtbnlndiphflmpabDoorW.PrintLast
set_option linter.unusedVariables false

theorem leap_eq (y : Int) (hy : -9223372036854775808 ≤ y ∧ y ≤ 9223372036854775807) : civil_Leap.f y = some (decide (UCal.Leap y)) := by
  unfold civil_Leap.f
  rw [mod_pos y 400 hy (by omega), mod_pos y 4 hy (by omega), mod_pos y 100 hy (by omega)]
  simp only [Option.bind_some]
  unfold UCal.Leap
  by_cases h1 : y % 400 = 0
  · simp [h1]
  · by_cases h2 : y % 4 = 0
    · rw [if_neg h1, if_pos h2]; congr 1; rw [Bool.eq_iff_iff]; simp [h1, h2]
    · simp [h1, h2]
theorem lens_eq (m : Nat) : lensOf m = UCal.lens m := by
  unfold lensOf UCal.lens; rfl
theorem days_eq (y m : Int) (hy : -9223372036854775808 ≤ y ∧ y ≤ 9223372036854775807) : civil_Days.f y m = some (UCal.mlen y m) := by
  unfold civil_Days.f UCal.mlen
  rw [leap_eq y hy]
  simp only [Option.bind_some, decide_eq_true_eq, lens_eq]
  split
  · rfl
  · split
    · rfl
    · split
      · split <;> rfl
      · rfl
theorem valid_eq (y m d : Int) (hy : -9223372036854775808 ≤ y ∧ y ≤ 9223372036854775807) : civil_Valid.f y m d = some (decide (UCal.Valid y m d)) := by
  unfold civil_Valid.f UCal.Valid
  rw [days_eq y m hy]
  simp only [Option.bind_some]
  by_cases h1 : y ≥ 0
  · rw [if_pos h1]
    by_cases h2 : y ≤ 9999
    · rw [if_pos h2]
      by_cases h3 : d ≥ 1
      · rw [if_pos h3]; simp [h1, h2, h3]
      · rw [if_neg h3]; simp [h3]
    · rw [if_neg h2]; simp [h2]
  · rw [if_neg h1]; simp [h1]
theorem era_sum (y' : Int) (h : -1 ≤ y' ∧ y' ≤ 9999) : y' / 400 * 146097 + y' % 400 * 365 + y' % 400 / 4 - y' % 400 / 100 = 365 * y' + y' / 4 - y' / 100 + y' / 400 := by
  have h0 : y' = 400 * (y' / 400) + y' % 400 := by omega
  generalize hE : y' / 400 = E at *
  generalize hR : y' % 400 = R at *
  have hr : 0 ≤ R ∧ R < 400 := by omega
  have h1 : y' / 4 = 100 * E + R / 4 := by omega
  have h2 : y' / 100 = 4 * E + R / 100 := by omega
  omega
theorem number_sum (y' k d : Int) (hy : -1 ≤ y' ∧ y' ≤ 9999) (hk : 0 ≤ k ∧ k ≤ 11) (hd : 1 ≤ d ∧ d ≤ 31) :
    wrap64 ((wrap64 ((wrap64 ((wrap64 ((wrap64 ((wrap64 (y' / 400 * 146097)) + (wrap64 (y' % 400 * 365)))) + (wrap64 (Int.tdiv (y' % 400) 4)))) - (wrap64 (Int.tdiv (y' % 400) 100)))) + (wrap64 ((wrap64 ((wrap64 (Int.tdiv (wrap64 ((wrap64 (153 * k)) + 2)) 5)) + d)) - 1)))) + 60) = 365 * y' + y' / 4 - y' / 100 + y' / 400 + (153 * k + 2) / 5 + d + 59 := by
  have e := era_sum y' hy
  have b1 : -1 ≤ y' / 400 ∧ y' / 400 ≤ 24 := by omega
  have b2 : 0 ≤ y' % 400 ∧ y' % 400 < 400 := by omega
  generalize y' / 400 = E at *
  generalize y' % 400 = R at *
  simp (disch := omega) only [w64s, tdivs]
  omega
theorem number_eq (y m d : Int) (hy : -9223372036854775808 ≤ y ∧ y ≤ 9223372036854775807) : civil_Number.f y m d = some (if UCal.Valid y m d then (UCal.num y m d, true) else (0, false)) := by
  unfold civil_Number.f
  rw [valid_eq y m d hy]
  simp only [Option.bind_some, decide_eq_true_eq]
  by_cases hv : UCal.Valid y m d
  · rw [if_pos hv, if_pos hv]
    have hm := UCal.valid_month hv
    have hl := UCal.mlen_pos (y := y) hm.1 hm.2
    obtain ⟨v0, v1, v2, v3⟩ := hv
    unfold UCal.num
    by_cases h3 : m < 3
    · rw [if_pos h3, if_pos h3, w64s (n := y - 1) (by omega), floor_pos _ _ (by omega) (by omega), mod_pos _ _ (by omega) (by omega)]
      simp only [Option.bind_some]
      rw [w64s (n := m + 12) (by omega), w64s (n := m + 12 - 3) (by omega), show m + 12 - 3 = m + 9 by omega, number_sum (y - 1) (m + 9) d (by omega) (by omega) (by omega)]
    · rw [if_neg h3, if_neg h3, floor_pos _ _ (by omega) (by omega), mod_pos _ _ (by omega) (by omega)]
      simp only [Option.bind_some]
      rw [w64s (n := m - 3) (by omega), number_sum y (m - 3) d (by omega) (by omega) (by omega)]
  · rw [if_neg hv, if_neg hv]
theorem date_in (k : Nat) (n : Int) (h : 0 ≤ n ∧ n ≤ 3652424) : civil_Date.j0 (k + 1) n false = some (UCal.dateOf n) := by
  simp only [civil_Date.j0, Bool.false_eq_true, if_false]
  rw [w64s (n := n - 60) (by omega), floor_pos _ _ (by omega) (by omega), mod_pos _ _ (by omega) (by omega)]
  simp only [Option.bind_some]
  obtain ⟨c, q, r, day, hc, hq, hr, hd, hl, hx⟩ := UCal.split_400 ((n - 60) % 146097) (by omega)
  have ho := UCal.of_year c q r day hc hq hr hd hl
  simp only [← hx] at ho
  obtain ⟨mk, md, hk, hdd, hd1, hk1, hki, hcase⟩ := UCal.months_of_year day hd
  obtain ⟨hv1, hv2⟩ := UCal.of_divs c q r hc hq hr
  have hday : (n - 60) % 146097 - ((100 * c + 4 * q + r) * 365 + (100 * c + 4 * q + r) / 4 - (100 * c + 4 * q + r) / 100) = day := by rw [hv1, hv2]; omega
  have e : UCal.dateOf n = if day ≥ 306 then ((n - 60) / 146097 * 400 + (100 * c + 4 * q + r) + 1, mk - 9, md) else ((n - 60) / 146097 * 400 + (100 * c + 4 * q + r), mk + 3, md) := by
    unfold UCal.dateOf
    simp only [ho, hday, hk, hdd]
  rw [e]
  clear e
  have bE : -1 ≤ (n - 60) / 146097 ∧ (n - 60) / 146097 ≤ 24 := by omega
  have bx : 0 ≤ (n - 60) % 146097 ∧ (n - 60) % 146097 < 146097 := by omega
  generalize (n - 60) / 146097 = E at *
  generalize (n - 60) % 146097 = x at *
  have hA : wrap64 ((wrap64 ((wrap64 (x - (wrap64 (Int.tdiv x 1460)))) + (wrap64 (Int.tdiv x 36524)))) - (wrap64 (Int.tdiv x 146096))) = x - x / 1460 + x / 36524 - x / 146096 := by
    clear ho hcase hx hl hday hv1 hv2 hk hdd hki
    simp (disch := omega) only [w64s, tdivs]
  have hA0 : 0 ≤ x - x / 1460 + x / 36524 - x / 146096 ∧ x - x / 1460 + x / 36524 - x / 146096 ≤ 200000 := by
    clear ho hcase hx hl hday hv1 hv2 hk hdd hki hA
    omega
  rw [hA]
  generalize x - x / 1460 + x / 36524 - x / 146096 = B at *
  have hO : wrap64 (Int.tdiv B 365) = 100 * c + 4 * q + r := by rw [tdivs hA0.1, ho, w64s (by omega)]
  rw [hO]
  have bO : 0 ≤ 100 * c + 4 * q + r ∧ 100 * c + 4 * q + r ≤ 399 := by omega
  generalize 100 * c + 4 * q + r = O at *
  have hD : wrap64 (x - (wrap64 ((wrap64 ((wrap64 (O * 365)) + (wrap64 (Int.tdiv O 4)))) - (wrap64 (Int.tdiv O 100))))) = day := by
    rw [tdivs bO.1, tdivs bO.1, hv1, hv2]
    simp (disch := omega) only [w64s]
    rw [← hday, hv1, hv2]
  rw [hD]
  have hK : wrap64 (Int.tdiv (wrap64 ((wrap64 (5 * day)) + 2)) 153) = mk := by
    rw [w64s (n := 5 * day) (by omega), w64s (n := 5 * day + 2) (by omega), tdivs (by omega), hk, w64s (by omega)]
  rw [hK]
  have hM : wrap64 ((wrap64 (day - (wrap64 (Int.tdiv (wrap64 ((wrap64 (153 * mk)) + 2)) 5)))) + 1) = md := by
    rw [w64s (n := 153 * mk) (by omega), w64s (n := 153 * mk + 2) (by omega), tdivs (by omega), w64s (n := (153 * mk + 2) / 5) (by omega), w64s (n := day - (153 * mk + 2) / 5) (by omega), hdd, w64s (by omega)]
  rw [hM]
  rw [w64s (n := E * 400) (by omega), w64s (n := E * 400 + O) (by omega), w64s (n := E * 400 + O + 1) (by omega), w64s (n := mk - 9) (by omega), w64s (n := mk + 3) (by omega)]
  split <;> rfl
theorem date_eq (k : Nat) (n : Int) : civil_Date.f (k + 1) n = some (if 0 ≤ n ∧ n ≤ 3652424 then UCal.dateOf n else (0, 0, 0)) := by
  unfold civil_Date.f
  by_cases h0 : n < 0
  · rw [if_pos h0, if_neg (by omega)]; simp only [civil_Date.j0, if_true]
  · rw [if_neg h0]
    by_cases h1 : n > 3652424
    · rw [if_neg (by omega), decide_eq_true h1]; simp only [civil_Date.j0, if_true]
    · rw [if_pos (by omega), decide_eq_false h1]; exact date_in k n (by omega)
theorem and_22 (n : Int) : Go.bits .and .i64 n 4194303 = n % 4194304 := by
  have h : (BitVec.ofInt 64 4194303).toNat = 2 ^ 22 - 1 := by decide
  have key : (BitVec.ofInt 64 n &&& BitVec.ofInt 64 4194303).toNat = (n % ((2 ^ 64 : Nat) : Int)).toNat % 2 ^ 22 := by
    rw [BitVec.toNat_and, BitVec.toNat_ofInt, h, Nat.and_two_pow_sub_one_eq_mod]
  show IntKind.i64.wrap ((BitVec.ofInt 64 n &&& BitVec.ofInt 64 4194303).toNat : Nat) = n % 4194304
  rw [key, IntKind.wrap_i64]
  omega
theorem and_16 (n : Int) : Go.bits .and .i64 n 65535 = n % 65536 := by
  have h : (BitVec.ofInt 64 65535).toNat = 2 ^ 16 - 1 := by decide
  have key : (BitVec.ofInt 64 n &&& BitVec.ofInt 64 65535).toNat = (n % ((2 ^ 64 : Nat) : Int)).toNat % 2 ^ 16 := by
    rw [BitVec.toNat_and, BitVec.toNat_ofInt, h, Nat.and_two_pow_sub_one_eq_mod]
  show IntKind.i64.wrap ((BitVec.ofInt 64 n &&& BitVec.ofInt 64 65535).toNat : Nat) = n % 65536
  rw [key, IntKind.wrap_i64]
  omega
theorem and_30 (n : Int) : Go.bits .and .i64 n 1073741823 = n % 1073741824 := by
  have h : (BitVec.ofInt 64 1073741823).toNat = 2 ^ 30 - 1 := by decide
  have key : (BitVec.ofInt 64 n &&& BitVec.ofInt 64 1073741823).toNat = (n % ((2 ^ 64 : Nat) : Int)).toNat % 2 ^ 30 := by
    rw [BitVec.toNat_and, BitVec.toNat_ofInt, h, Nat.and_two_pow_sub_one_eq_mod]
  show IntKind.i64.wrap ((BitVec.ofInt 64 n &&& BitVec.ofInt 64 1073741823).toNat : Nat) = n % 1073741824
  rw [key, IntKind.wrap_i64]
  omega
theorem and_24 (n : Int) : Go.bits .and .i64 n 16777215 = n % 16777216 := by
  have h : (BitVec.ofInt 64 16777215).toNat = 2 ^ 24 - 1 := by decide
  have key : (BitVec.ofInt 64 n &&& BitVec.ofInt 64 16777215).toNat = (n % ((2 ^ 64 : Nat) : Int)).toNat % 2 ^ 24 := by
    rw [BitVec.toNat_and, BitVec.toNat_ofInt, h, Nat.and_two_pow_sub_one_eq_mod]
  show IntKind.i64.wrap ((BitVec.ofInt 64 n &&& BitVec.ofInt 64 16777215).toNat : Nat) = n % 16777216
  rw [key, IntKind.wrap_i64]
  omega
end Go.Proofs.YtbnlndiphflmpabDoor.UPure
