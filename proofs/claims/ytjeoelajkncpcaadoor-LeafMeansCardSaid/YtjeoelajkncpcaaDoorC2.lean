/- Numbers' dates, and units: what the program's functions answer. No condition of its own. -/
import Derived.Test.YtjeoelajkncpcaaDoorC1
namespace Go.Proofs.YtjeoelajkncpcaaDoor.V
open Go
set_option linter.unusedVariables false

theorem ok_civil_Date {n : Int} : FnE bs n_civil_Date ((Shape.int .i64).compsE n) (.tup (.pair (.int .i64) (.pair (.int .i64) (.int .i64)))) (· = if 0 ≤ n ∧ n ≤ 3652424 then VCal.dateOf n else (0, 0, 0)) := by
  refine ok_of (e_civil_Date n _) rfl ?_
  unfold c_civil_Date
  refine cond_dec (fun h => by rw [if_neg (by omega)]) fun h => cond_dec (fun h2 => by rw [if_neg (by omega)]) fun h2 => ?_
  rw [w64_of (n := n - 60) (by omega), if_pos (by omega)]
  refine callP_eq (ok_ints_Floor (by unfold inI; omega) (by omega)) (callP_eq (ok_ints_Mod (by unfold inI; omega) (by omega)) ⟨by omega, by omega, by omega, by omega, by omega, by omega, by omega, by omega, ?_⟩)
  dsimp only
  obtain ⟨c, q, r, day, hc, hq, hr, hd, hl, hx⟩ := VCal.split_400 ((n - 60) % 146097) (by omega)
  have ho := VCal.of_year c q r day hc hq hr hd hl
  simp only [← hx] at ho
  obtain ⟨mk, md, hk, hdd, hd1, hk1, hki, hcase⟩ := VCal.months_of_year day hd
  obtain ⟨hv1, hv2⟩ := VCal.of_divs c q r hc hq hr
  have hday : (n - 60) % 146097 - ((100 * c + 4 * q + r) * 365 + (100 * c + 4 * q + r) / 4 - (100 * c + 4 * q + r) / 100) = day := by rw [hv1, hv2]; omega
  have e : VCal.dateOf n = if day ≥ 306 then ((n - 60) / 146097 * 400 + (100 * c + 4 * q + r) + 1, mk - 9, md) else ((n - 60) / 146097 * 400 + (100 * c + 4 * q + r), mk + 3, md) := by
    unfold VCal.dateOf
    simp only [ho, hday, hk, hdd]
  rw [e]
  clear e
  have bE : -1 ≤ (n - 60) / 146097 ∧ (n - 60) / 146097 ≤ 24 := by omega
  have bx : 0 ≤ (n - 60) % 146097 ∧ (n - 60) % 146097 < 146097 := by omega
  generalize (n - 60) / 146097 = E at *
  generalize (n - 60) % 146097 = x at *
  have hA : w64 ((w64 ((w64 (x - (w64 (Int.tdiv x 1460)))) + (w64 (Int.tdiv x 36524)))) - (w64 (Int.tdiv x 146096))) = x - x / 1460 + x / 36524 - x / 146096 := by
    clear ho hcase hx hl hday hv1 hv2 hk hdd hki
    simp (disch := omega) only [w64_of, tdiv_of]
  have hA0 : 0 ≤ x - x / 1460 + x / 36524 - x / 146096 ∧ x - x / 1460 + x / 36524 - x / 146096 ≤ 200000 := by
    clear ho hcase hx hl hday hv1 hv2 hk hdd hki hA
    omega
  rw [hA]
  generalize x - x / 1460 + x / 36524 - x / 146096 = B at *
  have hO : w64 (Int.tdiv B 365) = 100 * c + 4 * q + r := by rw [tdiv_of hA0.1, ho, w64_of (by omega)]
  rw [hO]
  have bO : 0 ≤ 100 * c + 4 * q + r ∧ 100 * c + 4 * q + r ≤ 399 := by omega
  generalize 100 * c + 4 * q + r = O at *
  have hD : w64 (x - (w64 ((w64 ((w64 (O * 365)) + (w64 (Int.tdiv O 4)))) - (w64 (Int.tdiv O 100))))) = day := by
    rw [tdiv_of bO.1, tdiv_of bO.1, hv1, hv2]
    simp (disch := omega) only [w64_of]
    rw [← hday, hv1, hv2]
  rw [hD]
  have hK : w64 (Int.tdiv (w64 ((w64 (5 * day)) + 2)) 153) = mk := by
    rw [w64_of (n := 5 * day) (by omega), w64_of (n := 5 * day + 2) (by omega), tdiv_of (by omega), hk, w64_of (by omega)]
  rw [hK]
  have hM : w64 ((w64 (day - (w64 (Int.tdiv (w64 ((w64 (153 * mk)) + 2)) 5)))) + 1) = md := by
    rw [w64_of (n := 153 * mk) (by omega), w64_of (n := 153 * mk + 2) (by omega), tdiv_of (by omega), w64_of (n := (153 * mk + 2) / 5) (by omega), w64_of (n := day - (153 * mk + 2) / 5) (by omega), hdd, w64_of (by omega)]
  rw [hM]
  rw [w64_of (n := E * 400) (by omega), w64_of (n := E * 400 + O) (by omega), w64_of (n := E * 400 + O + 1) (by omega), w64_of (n := mk - 9) (by omega), w64_of (n := mk + 3) (by omega)]
  refine cond_dec (fun h => by rw [if_pos (by omega)]) fun h => by rw [if_neg (by omega)]

/-! ### Units -/

theorem ok_unit_monthly {n : Int} (h : 0 ≤ n ∧ n ≤ 3652424) : FnE bs n_unit_monthly ((Shape.int .i64).compsE n) (.int .i64) (· = VCal.mon n) := by
  refine ok_of (e_unit_monthly n _) rfl ?_
  unfold c_unit_monthly
  refine callP_eq ok_civil_Date ?_
  rw [if_pos h]
  obtain ⟨v, _⟩ := VCal.date_num h
  have hm := VCal.valid_month v
  obtain ⟨v0, v1, v2, v3⟩ := v
  unfold VCal.mon
  rw [w64_of (n := 12 * (VCal.dateOf n).1) (by omega), w64_of (n := 12 * (VCal.dateOf n).1 + (VCal.dateOf n).2.1) (by omega), w64_of (n := 12 * (VCal.dateOf n).1 + (VCal.dateOf n).2.1 - 1) (by omega)]

theorem ok_unit_span_begins {m f c i : Int} (hm : inI m ∧ inI f ∧ inI i) (hp : inI (m * i)) (h : 0 ≤ f + m * i ∧ f + m * i < 120000) : FnE bs n_unit_span_begins ((Shape.pair sUnitSpan (.int .i64)).compsE ((m, f, c), i)) (.int .i64) (· = VCal.mfirst (f + m * i)) := by
  refine ok_of (e_unit_span_begins ((m, f, c), i) _) rfl ?_
  unfold c_unit_span_begins
  unfold inI at hp
  have hv := VCal.valid_first h
  refine ⟨by omega, by omega, ?_⟩
  dsimp only
  rw [w64_of (n := m * i) hp, w64_of (n := f + m * i) (by omega), tdiv_of h.1, tmod_of h.1, w64_of (n := (f + m * i) / 12) (by omega), w64_of (n := (f + m * i) % 12 + 1) (by omega)]
  refine callP_eq (ok_civil_Number (by unfold inI; omega)) ?_
  rw [if_pos hv]
  rfl

theorem ok_unit_span_number {m f c d : Int} (hm : 1 ≤ m ∧ m ≤ 120000) (hf : 0 ≤ f ∧ f ≤ 120000) (h : 0 ≤ d ∧ d ≤ 3652424) : FnE bs n_unit_span_number ((Shape.pair sUnitSpan (.int .i64)).compsE ((m, f, c), d)) (.int .i64) (· = if VCal.mon d - f < 0 then -1 else (VCal.mon d - f) / m) := by
  refine ok_of (e_unit_span_number ((m, f, c), d) _) rfl ?_
  unfold c_unit_span_number
  refine callP_eq (ok_unit_monthly h) ?_
  obtain ⟨hb, _⟩ := VCal.mon_spec h
  dsimp only
  rw [w64_of (n := VCal.mon d - f) (by omega)]
  refine cond_dec (fun h => by rw [if_pos h]) fun h => ⟨by omega, ?_⟩
  rw [if_neg h, tdiv_of (by omega)]
  have h0 := Int.ediv_nonneg (a := VCal.mon d - f) (b := m) (by omega) (by omega)
  have h1 := Int.ediv_le_self m (show 0 ≤ VCal.mon d - f by omega)
  exact w64_of (by omega)

/-- What a way of units of months does. -/
def beginsF (m f : Int) (i : Int) : Option Int := if inI m ∧ inI f ∧ inI i ∧ inI (m * i) ∧ 0 ≤ f + m * i ∧ f + m * i < 120000 then some (VCal.mfirst (f + m * i)) else none
def numberF (m f : Int) (d : Int) : Option Int := if 0 ≤ d ∧ d ≤ 3652424 then some (if VCal.mon d - f < 0 then -1 else (VCal.mon d - f) / m) else none

theorem ok_unit_of {m f c : Int} (hm : 1 ≤ m ∧ m ≤ 120000) (hf : 0 ≤ f ∧ f < 120000) : FnE bs n_unit_of (sUnitSpan.compsE (m, f, c)) sUnitWay (· = (c, beginsF m f, numberF m f)) := by
  have k1 : ∀ i r, beginsF m f i = some r → FnE bs n_unit_of_1 ([] ++ Shape.compsE (.int .i64) i ++ [(.ip [(.clo (.func 134) [] [])] 0), (.ip [(.p (.int .i64) m), (.p (.int .i64) f), (.p (.int .i64) c)] 0)]) (.int .i64) (· = r) := by
    intro i r h
    unfold beginsF at h
    split at h
    · rename_i q
      obtain ⟨q1, q2, q3, q4, q5⟩ := q
      refine ok_of (e_unit_of_1 (m, f, c) i _) rfl ?_
      unfold c_unit_of_1
      refine callP_eq (ok_unit_span_begins ⟨q1, q2, q3⟩ q4 q5) ?_
      exact Option.some.inj h
    · cases h
  have k2 : ∀ d r, numberF m f d = some r → FnE bs n_unit_of_2 ([] ++ Shape.compsE (.int .i64) d ++ [(.ip [(.clo (.func 135) [] [])] 0), (.ip [(.p (.int .i64) m), (.p (.int .i64) f), (.p (.int .i64) c)] 0)]) (.int .i64) (· = r) := by
    intro d r h
    unfold numberF at h
    split at h
    · rename_i q
      refine ok_of (e_unit_of_2 (m, f, c) d _) rfl ?_
      unfold c_unit_of_2
      refine callP_eq (ok_unit_span_number (m := m) (f := f) (c := c) hm (by omega) q) ?_
      exact Option.some.inj h
    · cases h
  refine ok_of (e_unit_of (m, f, c) _) rfl ?_
  unfold c_unit_of
  refine ⟨beginsF m f, ⟨(k1 0 (VCal.mfirst f) ?_).1, k1⟩, numberF m f, ⟨(k2 0 _ rfl).1, k2⟩, rfl⟩
  unfold beginsF
  rw [if_pos (by unfold inI; simp; omega)]
  simp

theorem ok_unit_days_begins {i : Int} : FnE bs n_unit_days_begins ((Shape.pair sUnitDays (.int .i64)).compsE ((), i)) (.int .i64) (· = i) := ok_of (e_unit_days_begins ((), i) _) rfl rfl
theorem ok_unit_days_number {i : Int} : FnE bs n_unit_days_number ((Shape.pair sUnitDays (.int .i64)).compsE ((), i)) (.int .i64) (· = i) := ok_of (e_unit_days_number ((), i) _) rfl rfl
theorem ok_unit_find_1 {i : Int} : FnE bs n_unit_find_1 ((Shape.int .i64).compsE i) (.int .i64) (· = i) := ok_of (e_unit_find_1 i _) rfl (callP_eq ok_unit_days_begins rfl)
theorem ok_unit_find_2 {i : Int} : FnE bs n_unit_find_2 ((Shape.int .i64).compsE i) (.int .i64) (· = i) := ok_of (e_unit_find_2 i _) rfl (callP_eq ok_unit_days_number rfl)

/-- A kind's way. -/
def wayOf (kind : Int) : (Int × ((Int → Option Int) × (Int → Option Int))) × Bool :=
  if kind = 0 then ((3652425, some, some), true) else match VCal.tab kind with
    | some (m, f, c) => ((c, beginsF m f, numberF m f), true)
    | none => ((0, fun _ => none, fun _ => none), false)

theorem tab_out {kind : Int} (h : kind < 0 ∨ 6 ≤ kind) : VCal.tab kind = none := by
  cases ht : VCal.tab kind with
  | none => rfl
  | some t => obtain ⟨m, f, c⟩ := t; have := VCal.tab_cases ht; omega

theorem ok_unit_find {kind : Int} : FnE bs n_unit_find ((Shape.int .i64).compsE kind) (.tup (.pair sUnitWay .bool)) (· = wayOf kind) := by
  refine ok_of (e_unit_find kind _) rfl ?_
  unfold c_unit_find
  refine callP_eq (ok_unit_of (by omega) (by omega)) (callP_eq (ok_unit_of (by omega) (by omega)) (callP_eq (ok_unit_of (by omega) (by omega)) (callP_eq (ok_unit_of (by omega) (by omega)) (callP_eq (ok_unit_of (by omega) (by omega)) ?_))))
  refine ⟨some, ⟨(ok_unit_find_1 (i := 0)).1, fun x r h => by cases h; exact ok_unit_find_1⟩, some, ⟨(ok_unit_find_2 (i := 0)).1, fun x r h => by cases h; exact ok_unit_find_2⟩, ?_⟩
  refine cond_dec (fun h => ?_) fun h => cond_dec (fun h2 => ?_) fun h2 => ?_
  · unfold wayOf; rw [if_neg (by omega), tab_out (by omega)]
  · unfold wayOf; simp only [List.length_cons, List.length_nil] at h2; rw [if_neg (by omega), tab_out (by omega)]
  · simp only [List.length_cons, List.length_nil] at h2
    refine ⟨⟨by omega, by simp only [List.length_cons, List.length_nil]; omega⟩, ?_⟩
    have : kind = 0 ∨ kind = 1 ∨ kind = 2 ∨ kind = 3 ∨ kind = 4 ∨ kind = 5 := by omega
    rcases this with rfl | rfl | rfl | rfl | rfl | rfl <;> rfl

theorem ok_unit_Count {kind : Int} : FnE bs n_unit_Count ((Shape.int .i64).compsE kind) (.int .i64) (· = VCal.ucount kind) := by
  refine ok_of (e_unit_Count kind _) rfl ?_
  unfold c_unit_Count
  refine callP_eq ok_unit_find ?_
  unfold wayOf VCal.ucount
  by_cases hk : kind = 0
  · rw [if_pos hk, if_pos hk]
  · rw [if_neg hk, if_neg hk]
    cases VCal.tab kind <;> rfl

/-- What a unit's first and last day, and a day's unit, are told to be. -/
def firstS (kind i : Int) : Int × Bool := if 0 ≤ i ∧ i < VCal.ucount kind then (VCal.ufirst kind i, true) else (0, false)
def lastS (kind i : Int) : Int × Bool := if 0 ≤ i ∧ i < VCal.ucount kind then (VCal.ulast kind i, true) else (0, false)
def ofS (kind d : Int) : Int × Bool := match VCal.uof kind d with
  | some n => (n, true)
  | none => (0, false)

theorem way_begins {kind i : Int} (h0 : 0 ≤ i) (h1 : i < VCal.ucount kind) : (wayOf kind).2 = true ∧ (wayOf kind).1.1 = VCal.ucount kind ∧ (wayOf kind).1.2.1 i = some (VCal.ufirst kind i) := by
  unfold wayOf VCal.ucount VCal.ufirst
  by_cases hk : kind = 0
  · subst hk; exact ⟨rfl, rfl, rfl⟩
  · cases ht : VCal.tab kind with
    | none => exfalso; unfold VCal.ucount at h1; rw [if_neg hk, ht] at h1; dsimp only at h1; omega
    | some t =>
      obtain ⟨m, f, c⟩ := t
      have hc : VCal.ucount kind = c := by unfold VCal.ucount; rw [if_neg hk, ht]
      rw [hc] at h1
      have hf := VCal.tab_fit ht h0 h1
      have hm := VCal.tab_cases ht
      simp only [if_neg hk]
      refine ⟨trivial, trivial, ?_⟩
      have hmi : 0 ≤ m * i := Int.mul_nonneg (by omega) h0
      unfold beginsF
      rw [if_pos (by unfold inI; omega)]

theorem way_count {kind : Int} (h : (wayOf kind).2 = true) : (wayOf kind).1.1 = VCal.ucount kind := by
  unfold wayOf at *
  unfold VCal.ucount
  by_cases hk : kind = 0
  · rw [if_pos hk, if_pos hk]
  · rw [if_neg hk] at h ⊢
    rw [if_neg hk]
    cases ht : VCal.tab kind with
    | none => rw [ht] at h
    | some t => rfl

theorem way_none {kind : Int} (h : (wayOf kind).2 = false) : VCal.ucount kind = 0 := by
  unfold wayOf at *
  unfold VCal.ucount
  by_cases hk : kind = 0
  · rw [if_pos hk] at h; cases h
  · rw [if_neg hk] at h ⊢
    cases ht : VCal.tab kind with
    | none => rfl
    | some t => rw [ht] at h; cases h

theorem ok_unit_First {kind i : Int} : FnE bs n_unit_First ((Shape.pair (.int .i64) (.int .i64)).compsE (kind, i)) (.tup (.pair (.int .i64) .bool)) (· = firstS kind i) := by
  refine ok_of (e_unit_First (kind, i) _) rfl ?_
  unfold c_unit_First firstS
  refine callP_eq ok_unit_find (cond_not (fun h => ?_) fun h => cond_dec (fun h2 => ?_) fun h2 => cond_dec (fun h3 => ?_) fun h3 => ?_) <;> dsimp only [Shape.Val] at *
  · have := way_none h; rw [if_neg (by omega)]
  · rw [if_neg (by omega)]
  · rw [way_count h] at h3; rw [if_neg (by omega)]
  · rw [way_count h] at h3
    have hw := way_begins (kind := kind) (i := i) (by omega) (by omega)
    exact gcall_eq hw.2.2 (by rw [if_pos (by omega)])

theorem ok_unit_Last {kind i : Int} : FnE bs n_unit_Last ((Shape.pair (.int .i64) (.int .i64)).compsE (kind, i)) (.tup (.pair (.int .i64) .bool)) (· = lastS kind i) := by
  refine ok_of (e_unit_Last (kind, i) _) rfl ?_
  unfold c_unit_Last lastS
  have hc := VCal.ucount_pos kind
  refine callP_eq ok_unit_find (cond_not (fun h => ?_) fun h => cond_dec (fun h2 => ?_) fun h2 => cond_dec (fun h3 => ?_) fun h3 => cond_dec (fun h4 => ?_) fun h4 => ?_) <;> dsimp only [Shape.Val] at *
  · have := way_none h; rw [if_neg (by omega)]
  · rw [if_neg (by omega)]
  · rw [way_count h] at h3; rw [if_neg (by omega)]
  · rw [way_count h, w64_of (by omega)] at h4
    rw [way_count h] at h3
    rw [if_pos (by omega)]
    unfold VCal.ulast
    rw [if_pos h4]
  · rw [way_count h, w64_of (by omega)] at h4
    rw [way_count h] at h3
    have hw := way_begins (kind := kind) (i := i + 1) (by omega) (by omega)
    have hu := VCal.unit_in (kind := kind) (i := i + 1) (by omega) (by omega)
    rw [w64_of (n := i + 1) (by omega)]
    refine gcall_eq hw.2.2 ?_
    rw [if_pos (by omega), w64_of (by omega)]
    unfold VCal.ulast
    rw [if_neg h4]

theorem ok_unit_Of {kind d : Int} : FnE bs n_unit_Of ((Shape.pair (.int .i64) (.int .i64)).compsE (kind, d)) (.tup (.pair (.int .i64) .bool)) (· = ofS kind d) := by
  refine ok_of (e_unit_Of (kind, d) _) rfl ?_
  unfold c_unit_Of ofS
  have huof : ¬ (0 ≤ d ∧ d ≤ 3652424) → VCal.uof kind d = none := fun h => by unfold VCal.uof; rw [if_neg h]
  refine callP_eq ok_unit_find (cond_not (fun h => ?_) fun h => cond_dec (fun h2 => ?_) fun h2 => cond_dec (fun h3 => ?_) fun h3 => ?_) <;> dsimp only [Shape.Val] at *
  · have : VCal.uof kind d = none := by
      cases hu : VCal.uof kind d with
      | none => rfl
      | some n => have := VCal.uof_some.mp hu; have := way_none h; omega
    rw [this]
  · rw [huof (by omega)]
  · rw [huof (by omega)]
  · have hd : 0 ≤ d ∧ d ≤ 3652424 := by omega
    unfold VCal.uof wayOf
    rw [if_pos hd]
    unfold wayOf at h
    by_cases hk : kind = 0
    · subst hk
      refine gcall_eq (r := d) rfl ?_
      simp only [if_true]
      unfold maxI
      rw [if_neg (by omega), decide_eq_true (by omega)]
    · rw [if_neg hk] at h ⊢
      cases ht : VCal.tab kind with
      | none => rw [ht] at h; cases h
      | some t =>
        obtain ⟨m, f, c⟩ := t
        have hm := VCal.tab_cases ht
        dsimp only
        rw [if_neg hk]
        unfold numberF
        refine gcall_eq (by rw [if_pos hd]) ?_
        by_cases hf : VCal.mon d - f < 0
        · rw [if_pos hf, if_pos hf]; rfl
        · rw [if_neg hf, if_neg hf]
          have h0 := Int.ediv_nonneg (a := VCal.mon d - f) (b := m) (by omega) (by omega)
          unfold maxI
          rw [decide_eq_true h0, if_neg (by omega)]
end Go.Proofs.YtjeoelajkncpcaaDoor.V
