/- Plain facts about the calendar: dates and their numbers lead to each other, in their order. No program in sight. -/
import Derived.RowKit
set_option linter.unusedVariables false
namespace Go.Proofs.YtjeoelajkncpcaaDoor.VCal

def Leap (y : Int) : Prop := y % 400 = 0 ∨ (y % 4 = 0 ∧ y % 100 ≠ 0)
instance (y : Int) : Decidable (Leap y) := by unfold Leap; exact inferInstance
def lens : Nat → Int
  | 1 => 31 | 2 => 28 | 3 => 31 | 4 => 30 | 5 => 31 | 6 => 30 | 7 => 31 | 8 => 31 | 9 => 30 | 10 => 31 | 11 => 30 | 12 => 31 | _ => 0
def mlen (y m : Int) : Int := if m < 1 then 0 else if m > 12 then 0 else if m = 2 then (if Leap y then 29 else 28) else lens m.toNat
def Valid (y m d : Int) : Prop := 0 ≤ y ∧ y ≤ 9999 ∧ 1 ≤ d ∧ d ≤ mlen y m
instance (y m d : Int) : Decidable (Valid y m d) := by unfold Valid; exact inferInstance
/-- The number of a day, years counted from March on. -/
def num (y m d : Int) : Int :=
  if m < 3 then 365 * (y - 1) + (y - 1) / 4 - (y - 1) / 100 + (y - 1) / 400 + (153 * (m + 9) + 2) / 5 + d + 59
  else 365 * y + y / 4 - y / 100 + y / 400 + (153 * (m - 3) + 2) / 5 + d + 59
/-- Days ahead of a year. -/
def start (y : Int) : Int := 365 * y + (y + 3) / 4 - (y + 99) / 100 + (y + 399) / 400
def cum (y m : Int) : Int := num y m 1 - start y

theorem months {m : Int} (h1 : 1 ≤ m) (h2 : m ≤ 12) : m = 1 ∨ m = 2 ∨ m = 3 ∨ m = 4 ∨ m = 5 ∨ m = 6 ∨ m = 7 ∨ m = 8 ∨ m = 9 ∨ m = 10 ∨ m = 11 ∨ m = 12 := by omega
theorem mlen_out {y m : Int} (h : ¬ (1 ≤ m ∧ m ≤ 12)) : mlen y m = 0 := by
  unfold mlen; split
  · rfl
  · split
    · rfl
    · omega
theorem valid_month {y m d : Int} (h : Valid y m d) : 1 ≤ m ∧ m ≤ 12 := by
  obtain ⟨_, _, h1, h2⟩ := h
  apply Classical.byContradiction
  intro hn
  rw [mlen_out hn] at h2
  omega
theorem mlen_1 (y : Int) : mlen y 1 = 31 := rfl
theorem mlen_2 (y : Int) : mlen y 2 = if Leap y then 29 else 28 := rfl
theorem mlen_3 (y : Int) : mlen y 3 = 31 := rfl
theorem mlen_4 (y : Int) : mlen y 4 = 30 := rfl
theorem mlen_5 (y : Int) : mlen y 5 = 31 := rfl
theorem mlen_6 (y : Int) : mlen y 6 = 30 := rfl
theorem mlen_7 (y : Int) : mlen y 7 = 31 := rfl
theorem mlen_8 (y : Int) : mlen y 8 = 31 := rfl
theorem mlen_9 (y : Int) : mlen y 9 = 30 := rfl
theorem mlen_10 (y : Int) : mlen y 10 = 31 := rfl
theorem mlen_11 (y : Int) : mlen y 11 = 30 := rfl
theorem mlen_12 (y : Int) : mlen y 12 = 31 := rfl
theorem mlen_pos {y m : Int} (h1 : 1 ≤ m) (h2 : m ≤ 12) : 28 ≤ mlen y m ∧ mlen y m ≤ 31 := by
  rcases months h1 h2 with rfl | rfl | rfl | rfl | rfl | rfl | rfl | rfl | rfl | rfl | rfl | rfl
  · rw [mlen_1]; omega
  · rw [mlen_2]; split <;> omega
  · rw [mlen_3]; omega
  · rw [mlen_4]; omega
  · rw [mlen_5]; omega
  · rw [mlen_6]; omega
  · rw [mlen_7]; omega
  · rw [mlen_8]; omega
  · rw [mlen_9]; omega
  · rw [mlen_10]; omega
  · rw [mlen_11]; omega
  · rw [mlen_12]; omega
/-- The first of January's number. -/
theorem num_jan (y : Int) : num y 1 1 = start y := by
  unfold num start
  rw [if_pos (by omega)]
  omega
theorem start_succ (y : Int) : start (y + 1) = start y + if Leap y then 366 else 365 := by
  by_cases h : Leap y
  · rw [if_pos h]; unfold Leap at h; unfold start; omega
  · rw [if_neg h]; unfold Leap at h; unfold start; omega
/-- A month behind another. -/
theorem num_month {y m : Int} (h1 : 1 ≤ m) (h2 : m ≤ 11) : num y (m + 1) 1 = num y m 1 + mlen y m := by
  rcases months h1 (show m ≤ 12 by omega) with rfl | rfl | rfl | rfl | rfl | rfl | rfl | rfl | rfl | rfl | rfl | rfl
  · rw [mlen_1]; unfold num; rw [if_pos (by omega), if_pos (by omega)]; omega
  · rw [mlen_2]; unfold num; rw [if_neg (by omega), if_pos (by omega)]
    by_cases h : Leap y
    · rw [if_pos h]; unfold Leap at h; omega
    · rw [if_neg h]; unfold Leap at h; omega
  · rw [mlen_3]; unfold num; rw [if_neg (by omega), if_neg (by omega)]; omega
  · rw [mlen_4]; unfold num; rw [if_neg (by omega), if_neg (by omega)]; omega
  · rw [mlen_5]; unfold num; rw [if_neg (by omega), if_neg (by omega)]; omega
  · rw [mlen_6]; unfold num; rw [if_neg (by omega), if_neg (by omega)]; omega
  · rw [mlen_7]; unfold num; rw [if_neg (by omega), if_neg (by omega)]; omega
  · rw [mlen_8]; unfold num; rw [if_neg (by omega), if_neg (by omega)]; omega
  · rw [mlen_9]; unfold num; rw [if_neg (by omega), if_neg (by omega)]; omega
  · rw [mlen_10]; unfold num; rw [if_neg (by omega), if_neg (by omega)]; omega
  · rw [mlen_11]; unfold num; rw [if_neg (by omega), if_neg (by omega)]; omega
  · omega
theorem num_december (y : Int) : num (y + 1) 1 1 = num y 12 1 + 31 := by
  unfold num
  rw [if_pos (by omega), if_neg (by omega)]
  omega
theorem num_day (y m d : Int) : num y m d = num y m 1 + d - 1 := by
  unfold num; split <;> omega
theorem num_mono_month {y m : Int} (h1 : 1 ≤ m) (k : Nat) : m + k ≤ 12 → num y m 1 + 28 * k ≤ num y (m + k) 1 := by
  induction k with
  | zero => intro _; simp
  | succ k ih =>
    intro h
    have := ih (by omega)
    have e := num_month (y := y) (m := m + k) (by omega) (by omega)
    have l := mlen_pos (y := y) (m := m + k) (by omega) (by omega)
    rw [show m + ((k + 1 : Nat) : Int) = m + k + 1 by omega, e]
    omega
theorem num_in_year {y m d : Int} (h1 : 1 ≤ m) (h2 : m ≤ 12) (h3 : 1 ≤ d) (h4 : d ≤ mlen y m) : start y ≤ num y m d ∧ num y m d < start (y + 1) := by
  rw [num_day]
  constructor
  · have := num_mono_month (y := y) (m := 1) (by omega) (m - 1).toNat (by omega)
    rw [show (1 : Int) + ((m - 1).toNat : Int) = m by omega, num_jan] at this
    omega
  · rw [← num_jan, num_december]
    by_cases e : m = 12
    · subst e; rw [mlen_12] at h4; omega
    · have := num_mono_month (y := y) (m := m + 1) (by omega) (11 - m).toNat (by omega)
      rw [show m + 1 + ((11 - m).toNat : Int) = 12 by omega, num_month h1 (by omega)] at this
      omega
theorem start_mono {a b : Int} (h : a < b) : start (a + 1) ≤ start b := by
  unfold start; omega
theorem start_0 : start 0 = 0 := by decide
theorem start_10000 : start 10000 = 3652425 := by decide
theorem num_bounds {y m d : Int} (h : Valid y m d) : 0 ≤ num y m d ∧ num y m d ≤ 3652424 := by
  have hm := valid_month h
  obtain ⟨h0, h1, h2, h3⟩ := h
  have hy := num_in_year hm.1 hm.2 h2 h3
  have := start_0
  have := start_10000
  have a : start 0 ≤ start y := by
    by_cases e : y = 0
    · subst e; omega
    · have := start_mono (show 0 < y by omega); have := start_succ 0; split at this <;> omega
  have b : start (y + 1) ≤ start 10000 := by
    by_cases e : y = 9999
    · subst e; exact Int.le_refl _
    · exact start_mono (show y < 10000 by omega)
  omega
/-- DATES ARE IN THE ORDER OF THEIR NUMBERS. -/
def Before (y m d y' m' d' : Int) : Prop := y < y' ∨ (y = y' ∧ (m < m' ∨ (m = m' ∧ d < d')))
theorem num_lt {y m d y' m' d' : Int} (h : Valid y m d) (h' : Valid y' m' d') (hb : Before y m d y' m' d') : num y m d < num y' m' d' := by
  have hm := valid_month h
  have hm' := valid_month h'
  obtain ⟨h0, h1, h2, h3⟩ := h
  obtain ⟨g0, g1, g2, g3⟩ := h'
  rcases hb with hb | ⟨rfl, hb | ⟨rfl, hb⟩⟩
  · have a := num_in_year hm.1 hm.2 h2 h3
    have b := num_in_year hm'.1 hm'.2 g2 g3
    have := start_mono hb
    omega
  · rw [num_day y m d, num_day y m' d']
    have e := num_month (y := y) hm.1 (show m ≤ 11 by omega)
    have := num_mono_month (y := y) (m := m + 1) (by omega) (m' - m - 1).toNat (by omega)
    rw [show m + 1 + ((m' - m - 1).toNat : Int) = m' by omega] at this
    omega
  · rw [num_day y m d, num_day y m d']
    omega
theorem trichotomy (y m d y' m' d' : Int) : Before y m d y' m' d' ∨ (y = y' ∧ m = m' ∧ d = d') ∨ Before y' m' d' y m d := by
  unfold Before; omega
theorem num_inj {y m d y' m' d' : Int} (h : Valid y m d) (h' : Valid y' m' d') (e : num y m d = num y' m' d') : y = y' ∧ m = m' ∧ d = d' := by
  rcases trichotomy y m d y' m' d' with hb | he | hb
  · have := num_lt h h' hb; omega
  · exact he
  · have := num_lt h' h hb; omega
theorem lt_num {y m d y' m' d' : Int} (h : Valid y m d) (h' : Valid y' m' d') : num y m d < num y' m' d' ↔ Before y m d y' m' d' := by
  constructor
  · intro hl
    rcases trichotomy y m d y' m' d' with hb | ⟨rfl, rfl, rfl⟩ | hb
    · exact hb
    · omega
    · have := num_lt h' h hb; omega
  · exact num_lt h h'

/-- The days of four hundred years, counted from March on: the year of the four hundred in which a day is. -/
theorem of_year (c q r day : Int) (hc : 0 ≤ c ∧ c ≤ 3) (hq : 0 ≤ q ∧ q ≤ 24) (hr : 0 ≤ r ∧ r ≤ 3) (hd : 0 ≤ day ∧ day ≤ 365) (hl : day = 365 → r = 3 ∧ (q < 24 ∨ c = 3)) :
    let x := 36524 * c + 1461 * q + 365 * r + day
    (x - x / 1460 + x / 36524 - x / 146096) / 365 = 100 * c + 4 * q + r := by
  intro x
  have h1 : x / 36524 - x / 146096 = c := by
    show (36524 * c + 1461 * q + 365 * r + day) / 36524 - (36524 * c + 1461 * q + 365 * r + day) / 146096 = c
    by_cases hlast : c = 3 ∧ q = 24 ∧ r = 3 ∧ day = 365
    · obtain ⟨rfl, rfl, rfl, rfl⟩ := hlast; decide
    · have hb : 1461 * q + 365 * r + day ≤ 36523 := by omega
      have e1 : (36524 * c + 1461 * q + 365 * r + day) / 36524 = c := by omega
      have e2 : (36524 * c + 1461 * q + 365 * r + day) / 146096 = 0 := by omega
      omega
  have h2 : x / 1460 = 25 * c + q + (24 * c + q + 365 * r + day) / 1460 := by
    show (36524 * c + 1461 * q + 365 * r + day) / 1460 = _
    omega
  have h3 : x - x / 1460 + x / 36524 - x / 146096 = 365 * (100 * c + 4 * q + r) + (day - (24 * c + q + 365 * r + day) / 1460) := by
    have : x = 36524 * c + 1461 * q + 365 * r + day := rfl
    omega
  rw [h3]
  omega
theorem split_400 (x : Int) (h : 0 ≤ x ∧ x < 146097) : ∃ c q r day : Int, (0 ≤ c ∧ c ≤ 3) ∧ (0 ≤ q ∧ q ≤ 24) ∧ (0 ≤ r ∧ r ≤ 3) ∧ (0 ≤ day ∧ day ≤ 365) ∧ (day = 365 → r = 3 ∧ (q < 24 ∨ c = 3)) ∧ x = 36524 * c + 1461 * q + 365 * r + day := by
  obtain ⟨c, x1, hc, hx1, hxl, rfl⟩ : ∃ c x1 : Int, (0 ≤ c ∧ c ≤ 3) ∧ (0 ≤ x1 ∧ x1 ≤ 36524) ∧ (x1 = 36524 → c = 3) ∧ x = 36524 * c + x1 := by
    by_cases e : x = 146096
    · exact ⟨3, 36524, by omega, by omega, by omega, by omega⟩
    · exact ⟨x / 36524, x % 36524, by omega, by omega, by omega, by omega⟩
  obtain ⟨q, x2, hq, hx2, hxl2, rfl⟩ : ∃ q x2 : Int, (0 ≤ q ∧ q ≤ 24) ∧ (0 ≤ x2 ∧ x2 ≤ 1460) ∧ (x2 = 1460 → q < 24 ∨ c = 3) ∧ x1 = 1461 * q + x2 :=
    ⟨x1 / 1461, x1 % 1461, by omega, by omega, by omega, by omega⟩
  by_cases e : x2 = 1460
  · exact ⟨c, q, 3, 365, hc, hq, by omega, by omega, fun _ => ⟨rfl, hxl2 e⟩, by omega⟩
  · exact ⟨c, q, x2 / 365, x2 % 365, hc, hq, by omega, by omega, by omega, by omega⟩
/-- A number's date, as the program reckons it: era, year of the four hundred, day of the year from March on, month. -/
def dateOf (n : Int) : Int × Int × Int :=
  let era := (n - 60) / 146097
  let x := (n - 60) % 146097
  let o := (x - x / 1460 + x / 36524 - x / 146096) / 365
  let day := x - (o * 365 + o / 4 - o / 100)
  let k := (5 * day + 2) / 153
  let d := day - (153 * k + 2) / 5 + 1
  let y := era * 400 + o
  if day ≥ 306 then (y + 1, k - 9, d) else (y, k + 3, d)
theorem months_of_year (day : Int) (h : 0 ≤ day ∧ day ≤ 365) : ∃ k d : Int, (5 * day + 2) / 153 = k ∧ day - (153 * k + 2) / 5 + 1 = d ∧ 1 ≤ d ∧ (0 ≤ k ∧ k ≤ 11) ∧ (day ≥ 306 ↔ k ≥ 10) ∧
    ((k = 0 ∧ d ≤ 31) ∨ (k = 1 ∧ d ≤ 30) ∨ (k = 2 ∧ d ≤ 31) ∨ (k = 3 ∧ d ≤ 30) ∨ (k = 4 ∧ d ≤ 31) ∨ (k = 5 ∧ d ≤ 31) ∨ (k = 6 ∧ d ≤ 30) ∨ (k = 7 ∧ d ≤ 31) ∨ (k = 8 ∧ d ≤ 30) ∨ (k = 9 ∧ d ≤ 31) ∨ (k = 10 ∧ d ≤ 31) ∨ (k = 11 ∧ d ≤ 29 ∧ (d = 29 → day = 365))) := by
  refine ⟨_, _, rfl, rfl, ?_, ?_, ?_, ?_⟩
  · omega
  · omega
  · omega
  · obtain ⟨k, hk⟩ : ∃ k, k = (5 * day + 2) / 153 := ⟨_, rfl⟩
    have : 0 ≤ k ∧ k ≤ 11 := by omega
    rw [← hk]
    have : k = 0 ∨ k = 1 ∨ k = 2 ∨ k = 3 ∨ k = 4 ∨ k = 5 ∨ k = 6 ∨ k = 7 ∨ k = 8 ∨ k = 9 ∨ k = 10 ∨ k = 11 := by omega
    rcases this with rfl | rfl | rfl | rfl | rfl | rfl | rfl | rfl | rfl | rfl | rfl | rfl <;> omega
theorem of_divs (c q r : Int) (hc : 0 ≤ c ∧ c ≤ 3) (hq : 0 ≤ q ∧ q ≤ 24) (hr : 0 ≤ r ∧ r ≤ 3) : (100 * c + 4 * q + r) / 4 = 25 * c + q ∧ (100 * c + 4 * q + r) / 100 = c := by omega
theorem year_divs (era c q r y : Int) (hc : 0 ≤ c ∧ c ≤ 3) (hq : 0 ≤ q ∧ q ≤ 24) (hr : 0 ≤ r ∧ r ≤ 3) (hy : y = era * 400 + (100 * c + 4 * q + r)) : y / 4 = 100 * era + 25 * c + q ∧ y / 100 = 4 * era + c ∧ y / 400 = era := by omega
theorem leap_of (era c q y : Int) (hc : 0 ≤ c ∧ c ≤ 3) (hq : 0 ≤ q ∧ q ≤ 24) (hl : q < 24 ∨ c = 3) (hy : y = era * 400 + (100 * c + 4 * q + 3) + 1) : Leap y := by unfold Leap; omega
theorem num_of (era c q r k d y n : Int) (hc : 0 ≤ c ∧ c ≤ 3) (hq : 0 ≤ q ∧ q ≤ 24) (hr : 0 ≤ r ∧ r ≤ 3) (hy : y = era * 400 + (100 * c + 4 * q + r))
    (hn : n = 146097 * era + (36524 * c + 1461 * q + 365 * r + ((153 * k + 2) / 5 + d - 1)) + 60) : 365 * y + y / 4 - y / 100 + y / 400 + (153 * k + 2) / 5 + d + 59 = n := by
  obtain ⟨h1, h2, h3⟩ := year_divs era c q r y hc hq hr hy
  rw [h1, h2, h3]
  generalize (153 * k + 2) / 5 = z at *
  omega
/-- A NUMBER's DATE IS A DATE, AND ITS NUMBER LEADS BACK. -/
theorem date_num {n : Int} (h : 0 ≤ n ∧ n ≤ 3652424) : Valid (dateOf n).1 (dateOf n).2.1 (dateOf n).2.2 ∧ num (dateOf n).1 (dateOf n).2.1 (dateOf n).2.2 = n := by
  obtain ⟨c, q, r, day, hc, hq, hr, hd, hl, hx⟩ := split_400 ((n - 60) % 146097) (by omega)
  have ho := of_year c q r day hc hq hr hd hl
  simp only [← hx] at ho
  obtain ⟨k, d, hk, hdd, hd1, hk1, hki, hcase⟩ := months_of_year day hd
  have hera : -1 ≤ (n - 60) / 146097 ∧ (n - 60) / 146097 ≤ 24 := by omega
  have hn : n = 146097 * ((n - 60) / 146097) + (36524 * c + 1461 * q + 365 * r + day) + 60 := by omega
  obtain ⟨hv1, hv2⟩ := of_divs c q r hc hq hr
  have hday : (n - 60) % 146097 - ((100 * c + 4 * q + r) * 365 + (100 * c + 4 * q + r) / 4 - (100 * c + 4 * q + r) / 100) = day := by rw [hv1, hv2]; omega
  have e : dateOf n = if day ≥ 306 then ((n - 60) / 146097 * 400 + (100 * c + 4 * q + r) + 1, k - 9, d) else ((n - 60) / 146097 * 400 + (100 * c + 4 * q + r), k + 3, d) := by
    unfold dateOf
    simp only [ho, hday, hk, hdd]
  rw [e]
  generalize (n - 60) / 146097 = era at *
  clear e hx ho hday hv1 hv2 hk
  have hdk : day = (153 * k + 2) / 5 + d - 1 := by omega
  clear hdd
  have hn' : n = 146097 * era + (36524 * c + 1461 * q + 365 * r + ((153 * k + 2) / 5 + d - 1)) + 60 := by rw [← hdk]; exact hn
  by_cases hj : day ≥ 306
  · have hk10 := hki.mp hj
    rw [if_pos hj]
    have hm : (k = 10 ∧ d ≤ 31) ∨ (k = 11 ∧ d ≤ 29 ∧ (d = 29 → day = 365)) := by omega
    clear hcase hki
    constructor
    · refine ⟨?_, ?_, hd1, ?_⟩
      · show 0 ≤ era * 400 + (100 * c + 4 * q + r) + 1
        clear hn' hdk hm
        omega
      · show era * 400 + (100 * c + 4 * q + r) + 1 ≤ 9999
        clear hn' hdk hm
        omega
      · show d ≤ mlen (era * 400 + (100 * c + 4 * q + r) + 1) (k - 9)
        rcases hm with ⟨rfl, hm⟩ | ⟨rfl, hm, hm'⟩
        · show d ≤ mlen _ 1; rw [mlen_1]; exact hm
        · show d ≤ mlen _ 2; rw [mlen_2]
          by_cases hL : Leap (era * 400 + (100 * c + 4 * q + r) + 1)
          · rw [if_pos hL]; exact hm
          · rw [if_neg hL]
            have hne : d ≠ 29 := by
              intro z
              obtain ⟨z1, z2⟩ := hl (hm' z)
              subst z1
              exact hL (leap_of era c q _ hc hq z2 rfl)
            clear hn' hn hdk hm' hL hl
            omega
    · show num (era * 400 + (100 * c + 4 * q + r) + 1) (k - 9) d = n
      unfold num
      rw [if_pos (show k - 9 < 3 by clear hn' hn hdk hm; omega), show era * 400 + (100 * c + 4 * q + r) + 1 - 1 = era * 400 + (100 * c + 4 * q + r) by omega, show k - 9 + 9 = k by omega]
      exact num_of era c q r k d _ n hc hq hr rfl hn'
  · have hk10 : ¬ k ≥ 10 := fun z => hj (hki.mpr z)
    rw [if_neg hj]
    constructor
    · refine ⟨?_, ?_, hd1, ?_⟩
      · show 0 ≤ era * 400 + (100 * c + 4 * q + r)
        clear hn' hdk hcase hki hk10
        omega
      · show era * 400 + (100 * c + 4 * q + r) ≤ 9999
        clear hn' hdk hcase hki hk10
        omega
      · show d ≤ mlen (era * 400 + (100 * c + 4 * q + r)) (k + 3)
        clear hn' hn hdk hl hki
        rcases hcase with ⟨rfl, z⟩ | ⟨rfl, z⟩ | ⟨rfl, z⟩ | ⟨rfl, z⟩ | ⟨rfl, z⟩ | ⟨rfl, z⟩ | ⟨rfl, z⟩ | ⟨rfl, z⟩ | ⟨rfl, z⟩ | ⟨rfl, z⟩ | ⟨rfl, z⟩ | ⟨rfl, z, _⟩
        all_goals first | exact z | (exfalso; omega)
    · show num (era * 400 + (100 * c + 4 * q + r)) (k + 3) d = n
      unfold num
      rw [if_neg (show ¬ k + 3 < 3 by clear hn' hn hdk hcase; omega), show k + 3 - 3 = k by omega]
      exact num_of era c q r k d _ n hc hq hr rfl hn'
theorem date_of_num {y m d : Int} (h : Valid y m d) : dateOf (num y m d) = (y, m, d) := by
  obtain ⟨hv, e⟩ := date_num (num_bounds h)
  obtain ⟨e1, e2, e3⟩ := num_inj hv h e
  exact Prod.ext e1 (Prod.ext e2 e3)
end Go.Proofs.YtjeoelajkncpcaaDoor.VCal
