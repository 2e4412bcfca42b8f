/- The document's answer for days as dates, as the printed functions tell it: the same calendar. Plain facts, no program's run in sight. -/
import Derived.Test.YtbnlndiphflmpaaDoorUPureCivil
namespace Go.Proofs.YtbnlndiphflmpaaDoor.UPure
open Go.RowKit Go.Proofs.YtbnlndiphflmpaaDoor.PU Go.Proofs.YtbnlndiphflmpaaDoorW.PrintWords Go.Proofs.YtbnlndiphflmpaaDoorW.PrintLast
set_option linter.unusedVariables false

theorem tmod_zero (a b : Int) (hb : 1 ≤ b) : Int.tmod a b = 0 ↔ a % b = 0 := by
  by_cases h : 0 ≤ a
  · rw [tmods h]
  · rw [tmod_neg' (by omega) hb]
    have h3 := Int.emod_lt_of_pos a (show 0 < b by omega)
    split <;> omega
theorem rleap_eq (y : Int) : lustrumref02_Leap.f y = some (decide (UCal.Leap y)) := by
  unfold lustrumref02_Leap.f UCal.Leap
  have h4 := tmod_zero y 4 (by omega)
  have h100 := tmod_zero y 100 (by omega)
  have h400 : (Int.tmod y 400 == 0) = decide (y % 400 = 0) := by rw [Bool.eq_iff_iff]; simp [tmod_zero y 400 (by omega)]
  rw [h400]
  by_cases a : y % 4 = 0
  · rw [if_pos (h4.mpr a)]
    by_cases b : y % 100 = 0
    · rw [if_pos (h100.mpr b)]; simp [b]
    · rw [if_neg (fun z => b (h100.mp z))]; simp [a, b]
  · rw [if_neg (fun z => a (h4.mp z))]; simp [a]
theorem rdays_31 (k : Nat) (y m : Int) : lustrumref02_Days.j0 (k + 1) y m true = some 31 := by simp only [lustrumref02_Days.j0, if_true]
theorem rdays_30 (k : Nat) (y m : Int) : lustrumref02_Days.j1 (k + 1) y m true = some 30 := by simp only [lustrumref02_Days.j1, if_true]
theorem rdays_eq (k : Nat) (y m : Int) : lustrumref02_Days.f (k + 2) y m = some (UCal.mlen y m) := by
  unfold lustrumref02_Days.f
  by_cases h : 1 ≤ m ∧ m ≤ 12
  · have j0 : ∀ m : Int, (m = 4 ∨ m = 6 ∨ m = 9 ∨ m = 11) → lustrumref02_Days.j0 (k + 2) y m false = some 30 := by
      intro m hm
      rw [lustrumref02_Days.j0, if_neg (by simp)]
      rcases hm with rfl | rfl | rfl | rfl
      · rw [if_pos rfl]; exact rdays_30 _ _ _
      · rw [if_neg (by omega), if_pos rfl]; exact rdays_30 _ _ _
      · rw [if_neg (by omega), if_neg (by omega), if_pos rfl]; exact rdays_30 _ _ _
      · rw [if_neg (by omega), if_neg (by omega), if_neg (by omega)]; exact rdays_30 _ _ _
    rcases UCal.months h.1 h.2 with rfl | rfl | rfl | rfl | rfl | rfl | rfl | rfl | rfl | rfl | rfl | rfl
    · rw [if_pos rfl, UCal.mlen_1]; exact rdays_31 _ _ _
    · rw [if_neg (by omega), if_neg (by omega), if_neg (by omega), if_neg (by omega), if_neg (by omega), if_neg (by omega), UCal.mlen_2]
      rw [lustrumref02_Days.j0, if_neg (by simp), if_neg (by omega), if_neg (by omega), if_neg (by omega), lustrumref02_Days.j1, if_neg (by simp), if_pos rfl, rleap_eq]
      simp only [Option.bind_some, decide_eq_true_eq]
      split <;> rfl
    · rw [if_neg (by omega), if_pos rfl, UCal.mlen_3]; exact rdays_31 _ _ _
    · rw [if_neg (by omega), if_neg (by omega), if_neg (by omega), if_neg (by omega), if_neg (by omega), if_neg (by omega), UCal.mlen_4]; exact j0 4 (by omega)
    · rw [if_neg (by omega), if_neg (by omega), if_pos rfl, UCal.mlen_5]; exact rdays_31 _ _ _
    · rw [if_neg (by omega), if_neg (by omega), if_neg (by omega), if_neg (by omega), if_neg (by omega), if_neg (by omega), UCal.mlen_6]; exact j0 6 (by omega)
    · rw [if_neg (by omega), if_neg (by omega), if_neg (by omega), if_pos rfl, UCal.mlen_7]; exact rdays_31 _ _ _
    · rw [if_neg (by omega), if_neg (by omega), if_neg (by omega), if_neg (by omega), if_pos rfl, UCal.mlen_8]; exact rdays_31 _ _ _
    · rw [if_neg (by omega), if_neg (by omega), if_neg (by omega), if_neg (by omega), if_neg (by omega), if_neg (by omega), UCal.mlen_9]; exact j0 9 (by omega)
    · rw [if_neg (by omega), if_neg (by omega), if_neg (by omega), if_neg (by omega), if_neg (by omega), if_pos rfl, UCal.mlen_10]; exact rdays_31 _ _ _
    · rw [if_neg (by omega), if_neg (by omega), if_neg (by omega), if_neg (by omega), if_neg (by omega), if_neg (by omega), UCal.mlen_11]; exact j0 11 (by omega)
    · rw [if_neg (by omega), if_neg (by omega), if_neg (by omega), if_neg (by omega), if_neg (by omega), if_neg (by omega), UCal.mlen_12]; exact rdays_31 _ _ _
  · rw [UCal.mlen_out h, if_neg (by omega), if_neg (by omega), if_neg (by omega), if_neg (by omega), if_neg (by omega), if_neg (by omega), beq_eq_false_iff_ne.mpr (show m ≠ 12 by omega)]
    rw [lustrumref02_Days.j0, if_neg (by simp), if_neg (by omega), if_neg (by omega), if_neg (by omega), beq_eq_false_iff_ne.mpr (show m ≠ 11 by omega), lustrumref02_Days.j1, if_neg (by simp), if_neg (by omega)]
theorem rvalid_eq (k : Nat) (y m d : Int) : lustrumref02_Valid.f (k + 2) y m d = some (decide (UCal.Valid y m d)) := by
  unfold lustrumref02_Valid.f UCal.Valid
  rw [rdays_eq k y m]
  simp only [Option.bind_some]
  by_cases h1 : y ≥ 0
  · rw [if_pos h1]
    by_cases h2 : y ≤ 9999
    · rw [if_pos h2]
      by_cases h3 : d ≥ 1
      · rw [if_pos h3]; simp [h1, h2, h3]
      · rw [if_neg h3]; simp [h3]
    · rw [if_neg h2]; simp [h2]
  · rw [if_neg h1]; simp [h1]
theorem rstart_eq (y : Int) (hy : 0 ≤ y ∧ y ≤ 20000) : lustrumref02_start.f y = some (UCal.start y) := by
  unfold lustrumref02_start.f UCal.start
  simp (disch := omega) only [w64s, tdivs]
  congr 1
  omega
theorem rnumber_loop (y m : Int) (hy : 0 ≤ y ∧ y ≤ 9999) (hm : 1 ≤ m ∧ m ≤ 12) (j : Nat) : ∀ (k : Nat) (x : Int), (j : Int) ≤ m - 1 → j + 2 ≤ k → 0 ≤ x ∧ x ≤ 4000000 + 31 * (m - j) →
    lustrumref02_Number.l0 k y m x (m - j) = some (x + UCal.num y m 1 - UCal.num y (m - j) 1, true) := by
  induction j with
  | zero =>
    intro k x h0 hk hx
    obtain ⟨k, rfl⟩ : ∃ n, k = n + 1 := ⟨k - 1, by omega⟩
    rw [lustrumref02_Number.l0, if_neg (by omega)]
    congr 2
    rw [show m - ((0 : Nat) : Int) = m by omega]
    omega
  | succ j ih =>
    intro k x h0 hk hx
    obtain ⟨k, rfl⟩ : ∃ n, k = n + 2 + 1 := ⟨k - 3, by omega⟩
    have hl := UCal.mlen_pos (y := y) (m := m - ((j + 1 : Nat) : Int)) (by omega) (by omega)
    have hn := UCal.num_month (y := y) (m := m - ((j + 1 : Nat) : Int)) (by omega) (by omega)
    rw [lustrumref02_Number.l0, if_pos (by omega), rdays_eq k]
    simp only [Option.bind_some]
    rw [w64s (n := x + UCal.mlen y (m - ((j + 1 : Nat) : Int))) (by omega), w64s (n := m - ((j + 1 : Nat) : Int) + 1) (by omega)]
    rw [show m - ((j + 1 : Nat) : Int) + 1 = m - j by omega] at hn ⊢
    rw [ih (k + 2) _ (by omega) (by omega) (by omega), hn]
    congr 2
    omega
theorem rnumber_eq (k : Nat) (y m d : Int) (hk : 15 ≤ k) : lustrumref02_Number.f k y m d = some (if UCal.Valid y m d then (UCal.num y m d, true) else (0, false)) := by
  unfold lustrumref02_Number.f
  obtain ⟨k', rfl⟩ : ∃ n, k = n + 2 := ⟨k - 2, by omega⟩
  rw [rvalid_eq]
  simp only [Option.bind_some, decide_eq_true_eq]
  by_cases hv : UCal.Valid y m d
  · have hm := UCal.valid_month hv
    have hl := UCal.mlen_pos (y := y) hm.1 hm.2
    have hnd := UCal.num_day y m d
    have hj := UCal.num_jan y
    have hb := UCal.num_bounds (y := y) (m := 1) (d := 1) ⟨hv.1, hv.2.1, by omega, by rw [UCal.mlen_1]; omega⟩
    obtain ⟨v0, v1, v2, v3⟩ := hv
    rw [if_pos ⟨v0, v1, v2, v3⟩, if_pos ⟨v0, v1, v2, v3⟩, rstart_eq y (by omega)]
    simp only [Option.bind_some]
    rw [w64s (n := UCal.start y + d) (by omega), w64s (n := UCal.start y + d - 1) (by omega)]
    have hloop := rnumber_loop y m ⟨v0, v1⟩ hm (m - 1).toNat (k' + 2) (UCal.start y + d - 1) (by omega) (by omega) (by omega)
    rw [show m - ((m - 1).toNat : Int) = 1 by omega] at hloop
    rw [hloop]
    congr 2
    omega
  · rw [if_neg hv, if_neg hv]
/-- The years are gone through up to the right one. -/
theorem rdate_years (n y0 : Int) (hn : 0 ≤ n ∧ n ≤ 3652424) (hy0 : 0 ≤ y0 ∧ y0 ≤ 9999) (h0 : UCal.start y0 ≤ n) (h1 : n < UCal.start (y0 + 1)) (j : Nat) : ∀ (k : Nat) (y : Int), y = y0 - j → 0 ≤ y → j < k →
    ∃ k', k ≤ k' + j + 1 ∧ lustrumref02_Date.l0 k n y = lustrumref02_Date.l1 k' y0 (n - UCal.start y0) 1 := by
  induction j with
  | zero =>
    intro k y hy hp hk
    obtain ⟨k, rfl⟩ : ∃ m, k = m + 1 := ⟨k - 1, by omega⟩
    obtain rfl : y = y0 := by omega
    have b0 : 0 ≤ UCal.start y := by unfold UCal.start; omega
    refine ⟨k, by omega, ?_⟩
    rw [lustrumref02_Date.l0, w64s (n := y + 1) (by omega), rstart_eq _ (by omega), rstart_eq _ (by omega)]
    simp only [Option.bind_some]
    rw [if_neg (by omega), w64s (n := n - UCal.start y) (by omega)]
  | succ j ih =>
    intro k y hy hp hk
    obtain ⟨k, rfl⟩ : ∃ m, k = m + 1 := ⟨k - 1, by omega⟩
    have hs : UCal.start (y + 1) ≤ UCal.start y0 := UCal.start_mono (by omega)
    obtain ⟨k', hk', e⟩ := ih k (y + 1) (by omega) (by omega) (by omega)
    refine ⟨k', by omega, ?_⟩
    rw [lustrumref02_Date.l0, w64s (n := y + 1) (by omega), rstart_eq _ (by omega)]
    simp only [Option.bind_some]
    rw [if_pos (by omega), e]
theorem rdate_months (y m0 d : Int) (hy : 0 ≤ y ∧ y ≤ 9999) (hm0 : 1 ≤ m0 ∧ m0 ≤ 12) (hd : 1 ≤ d ∧ d ≤ UCal.mlen y m0) (j : Nat) : ∀ (k : Nat) (m x : Int), m = m0 - j → 1 ≤ m → j + 3 ≤ k → x = UCal.num y m0 1 - UCal.num y m 1 + d - 1 → 
    lustrumref02_Date.l1 k y x m = some (y, m0, d) := by
  induction j with
  | zero =>
    intro k m x hm hp hk hx
    obtain ⟨k, rfl⟩ : ∃ n, k = n + 2 + 1 := ⟨k - 3, by omega⟩
    obtain rfl : m = m0 := by omega
    have hl := UCal.mlen_pos (y := y) hm0.1 hm0.2
    rw [lustrumref02_Date.l1, rdays_eq]
    simp only [Option.bind_some]
    rw [if_neg (by omega), w64s (n := x + 1) (by omega), show x + 1 = d by omega]
  | succ j ih =>
    intro k m x hm hp hk hx
    obtain ⟨k, rfl⟩ : ∃ n, k = n + 2 + 1 := ⟨k - 3, by omega⟩
    have hl := UCal.mlen_pos (y := y) hp (show m ≤ 12 by omega)
    have hl0 := UCal.mlen_pos (y := y) hm0.1 hm0.2
    have hn := UCal.num_month (y := y) hp (show m ≤ 11 by omega)
    have hmono := UCal.num_mono_month (y := y) (m := m + 1) (by omega) (m0 - m - 1).toNat (by omega)
    rw [show m + 1 + ((m0 - m - 1).toNat : Int) = m0 by omega] at hmono
    have hup := UCal.num_in_year (y := y) (d := 1) hm0.1 hm0.2 (by omega) (by omega)
    have hlo := UCal.num_in_year (y := y) (d := 1) hp (show m ≤ 12 by omega) (by omega) (by omega)
    have hs := UCal.start_succ y
    have hsz : UCal.start (y + 1) ≤ UCal.start y + 366 := by rw [hs]; split <;> omega
    rw [lustrumref02_Date.l1, rdays_eq]
    simp only [Option.bind_some]
    rw [if_pos (by omega), w64s (n := x - UCal.mlen y m) (by omega), w64s (n := m + 1) (by omega)]
    exact ih (k + 2) (m + 1) _ (by omega) (by omega) (by omega) (by omega)
theorem rdate_eq (k : Nat) (n : Int) (hk : 10020 ≤ k) : lustrumref02_Date.f k n = some (if 0 ≤ n ∧ n ≤ 3652424 then UCal.dateOf n else (0, 0, 0)) := by
  obtain ⟨k, rfl⟩ : ∃ m, k = m + 1 := ⟨k - 1, by omega⟩
  unfold lustrumref02_Date.f
  by_cases h0 : n < 0
  · rw [if_pos h0, if_neg (by omega)]; simp only [lustrumref02_Date.j0, if_true]
  · rw [if_neg h0]
    by_cases h1 : n > 3652424
    · rw [if_neg (by omega), decide_eq_true h1]; simp only [lustrumref02_Date.j0, if_true]
    · rw [if_pos (by omega), decide_eq_false h1]
      simp only [lustrumref02_Date.j0, Bool.false_eq_true, if_false]
      obtain ⟨v, e⟩ := UCal.date_num (n := n) (by omega)
      have hm := UCal.valid_month v
      obtain ⟨v0, v1, v2, v3⟩ := v
      have hin := UCal.num_in_year (y := (UCal.dateOf n).1) hm.1 hm.2 v2 v3
      rw [e] at hin
      have hg : n / 366 ≤ (UCal.dateOf n).1 := by
        have : n < UCal.start ((UCal.dateOf n).1 + 1) := hin.2
        unfold UCal.start at this
        omega
      rw [tdivs (by omega), w64s (n := n / 366) (by omega)]
      obtain ⟨k', hk', e'⟩ := rdate_years n (UCal.dateOf n).1 (by omega) ⟨v0, v1⟩ hin.1 hin.2 ((UCal.dateOf n).1 - n / 366).toNat k (n / 366) (by omega) (by omega) (by omega)
      rw [e']
      have hnd := UCal.num_day (UCal.dateOf n).1 (UCal.dateOf n).2.1 (UCal.dateOf n).2.2
      rw [e] at hnd
      have hj := UCal.num_jan (UCal.dateOf n).1
      rw [rdate_months (UCal.dateOf n).1 (UCal.dateOf n).2.1 (UCal.dateOf n).2.2 ⟨v0, v1⟩ hm ⟨v2, v3⟩ ((UCal.dateOf n).2.1 - 1).toNat k' 1 (n - UCal.start (UCal.dateOf n).1) (by omega) (by omega) (by omega) (by omega)]
end Go.Proofs.YtbnlndiphflmpaaDoor.UPure
