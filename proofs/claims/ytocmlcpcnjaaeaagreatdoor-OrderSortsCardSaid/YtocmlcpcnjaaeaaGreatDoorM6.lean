/- The calculus of the program's functions and their contracts, part 6. No condition of its own. -/
import Derived.Test.YtocmlcpcnjaaeaaGreatDoorM5


/- Small laws for conditions: calls, tests, whole numbers within bounds. No condition of its own. -/
namespace Go.Proofs.YtocmlcpcnjaaeaaGreatDoor.V
open Go
set_option linter.unusedVariables false
set_option linter.unusedSimpArgs false

theorem ok_of {B : Base} {g : Cfg} {f : FuncId} {args : List EV} {out : Shape} {R : out.Val → Prop} {C : Prop} (e : g.fnK f args out R = C) (hb : g.toBase = B) (h : C) (h1 : g.han = fun _ => none := by rfl) (h2 : g.hni = fun _ => none := by rfl) : FnE B f args out R := by rw [← hb]; exact fn_sound (HanOK.none h1 h2) (e.mpr h)

theorem ok_han {B : Base} {g : Cfg} {f : FuncId} {args : List EV} {out : Shape} {R : out.Val → Prop} {C : Prop} (e : g.fnK f args out R = C) (hb : g.toBase = B) (H : HanOK g) (h : C) : FnE B f args out R := by rw [← hb]; exact fn_sound H (e.mpr h)

theorem callP_eq {c : Base} {f : FuncId} {ins out : Shape} {x : ins.Val} {K : out.Val → Prop} {v : out.Val} (h : FnE c f (ins.compsE x) out (· = v)) (k : K v) : callP c f ins out x K := ⟨_, h, fun r e => by rw [e]; exact k⟩

theorem callP_of {c : Base} {f : FuncId} {ins out : Shape} {x : ins.Val} {K : out.Val → Prop} {R : out.Val → Prop} (h : FnE c f (ins.compsE x) out R) (k : ∀ r, R r → K r) : callP c f ins out x K := ⟨_, h, k⟩

theorem gcall_eq {α β : Type} {g : α → Option β} {x : α} {K : β → Prop} {r : β} (h : g x = some r) (k : K r) : gcall g x K := ⟨r, h, k⟩

theorem FnE.mono {c : Base} {f : FuncId} {args : List EV} {out : Shape} {R R' : out.Val → Prop} (h : FnE c f args out R) (k : ∀ r, R r → R' r) : FnE c f args out R' :=
  ⟨h.1, fun m w us ht hh hr => (h.2 m w us ht hh hr).mono fun e w' ⟨v, m', h1, h2, h3, h4, r, h5, h6⟩ => ⟨v, m', h1, h2, h3, h4, r, k r h5, h6⟩⟩

theorem cond_dec {p : Prop} [Decidable p] {A B : Prop} (h : p → A) (k : ¬ p → B) : cond (decide p) A B := by
  by_cases q : p
  · simp only [q, decide_true, cond_true]; exact h q
  · simp only [q, decide_false, cond_false]; exact k q

theorem cond_bool {b : Bool} {A B : Prop} (h : b = true → A) (k : b = false → B) : cond b A B := by
  cases b
  · exact k rfl
  · exact h rfl

theorem cond_not {b : Bool} {A B : Prop} (h : b = false → A) (k : b = true → B) : cond (!b) A B := by
  cases b
  · exact h rfl
  · exact k rfl

theorem cond_yes {b : Bool} {A B : Prop} (h : b = true) (k : A) : cond b A B := by rw [h]; exact k
theorem cond_no {b : Bool} {A B : Prop} (h : b = false) (k : B) : cond b A B := by rw [h]; exact k

/-- A number that an int64 holds. -/
abbrev inI (n : Int) : Prop := -9223372036854775808 ≤ n ∧ n ≤ 9223372036854775807

theorem w64_of {n : Int} (h : -9223372036854775808 ≤ n ∧ n ≤ 9223372036854775807) : w64 n = n := by
  unfold w64
  rw [IntKind.wrap_i64]
  omega

theorem tdiv_of {a b : Int} (h : 0 ≤ a) : Int.tdiv a b = a / b := Int.tdiv_eq_ediv_of_nonneg h
theorem tmod_of {a b : Int} (h : 0 ≤ a) : Int.tmod a b = a % b := Int.tmod_eq_emod_of_nonneg h
theorem tmod_neg {a b : Int} (ha : a < 0) (hb : 1 ≤ b) : Int.tmod a b = if a % b = 0 then 0 else a % b - b := by
  rw [Int.tmod_eq_emod]
  have h0 : ¬ (0 ≤ a) := by omega
  by_cases h : a % b = 0
  · have hd : b ∣ a := Int.dvd_of_emod_eq_zero h
    simp [h0, hd, h]
  · have hd : ¬ b ∣ a := fun q => h (Int.emod_eq_zero_of_dvd q)
    simp only [h0, hd, or_self, if_false, h]
    omega
theorem tdiv_neg {a b : Int} (ha : a < 0) (hb : 1 ≤ b) : Int.tdiv a b = if a % b = 0 then a / b else a / b + 1 := by
  rw [Int.tdiv_eq_ediv]
  have h0 : ¬ (0 ≤ a) := by omega
  by_cases h : a % b = 0
  · have hd : b ∣ a := Int.dvd_of_emod_eq_zero h
    simp [h0, hd, h]
  · have hd : ¬ b ∣ a := fun q => h (Int.emod_eq_zero_of_dvd q)
    simp only [h0, hd, or_self, if_false, h]
    rw [Int.sign_eq_one_of_pos (by omega)]

/-- An equation of whole numbers, seen as one. -/
theorem ie {a b : Int} (h : a = b) : @Eq (Shape.int .i64).Val a b := h

/-- Loops by a number that grows less. -/
theorem loopP_of {S : Type} {F : S → (S → Prop) → Prop} (I : S → Prop) (μ : S → Nat) (hF : ∀ s (A : S → Prop), I s → (∀ s', I s' → μ s' < μ s → A s') → F s A) {s : S} (h : I s) : loopP F s := by
  have key : ∀ n s, I s → μ s < n → loopN F n s := by
    intro n
    induction n with
    | zero => intro s _ h; omega
    | succ n ih =>
      intro s hI hn
      exact hF s _ hI fun s' h1 h2 => ih s' h1 (by omega)
  exact ⟨μ s + 1, key _ s h (Nat.lt_succ_self _)⟩
end Go.Proofs.YtocmlcpcnjaaeaaGreatDoor.V


/- Whole numbers, dates and units: what the program's functions answer. No condition of its own. -/
namespace Go.Proofs.YtocmlcpcnjaaeaaGreatDoor.V
open Go
set_option linter.unusedVariables false
set_option linter.unusedSimpArgs false

theorem ok_ints_Floor {a b : Int} (ha : inI a) (hb : 1 ≤ b ∧ b ≤ 9223372036854775807) : FnE bs n_ints_Floor ((Shape.pair (.int .i64) (.int .i64)).compsE (a, b)) (.int .i64) (· = a / b) := by
  refine ok_of (e_ints_Floor (a, b) _) rfl ?_
  unfold c_ints_Floor
  unfold inI at ha
  refine cond_dec (fun h => by omega) fun _ => cond_dec (fun h => ⟨by dsimp only; omega, ?_⟩) fun h => ⟨by dsimp only; omega, ?_⟩
  · dsimp only at h ⊢
    have hm := Int.emod_nonneg a (b := b) (by omega)
    have hl := Int.emod_lt_of_pos a (b := b) (by omega)
    have hd := Int.mul_ediv_add_emod a b
    rw [w64_of (n := a + 1) (by omega)]
    have e : Int.tdiv (a + 1) b = a / b + 1 := by
      by_cases h1 : a + 1 < 0
      · rw [tdiv_neg h1 hb.1]
        by_cases hb1 : b = 1
        · subst hb1; simp
        · by_cases h2 : a % b + 1 = b
          · have e1 : (a + 1) = b * (a / b + 1) := by rw [Int.mul_add, Int.mul_one]; omega
            have e2 : (a + 1) % b = 0 := by rw [e1]; exact Int.mul_emod_right _ _
            rw [if_pos e2, e1]
            exact Int.mul_ediv_cancel_left _ (by omega)
          · have e3 : (a + 1) % b = a % b + 1 := by rw [show a + 1 = (a % b + 1) + b * (a / b) by omega, Int.add_mul_emod_self_left]; exact Int.emod_eq_of_lt (by omega) (by omega)
            have e4 : (a + 1) / b = a / b := by
              rw [show a + 1 = (a % b + 1) + b * (a / b) by omega, Int.add_mul_ediv_left _ _ (by omega), Int.ediv_eq_zero_of_lt (by omega) (by omega)]
              omega
            rw [if_neg (by omega), e4]
      · have : a = -1 := by omega
        subst this
        rw [Int.neg_one_ediv, Int.sign_eq_one_of_pos (by omega)]
        simp
    rw [e]
    have h1 : a / b ≤ -1 := by
      have := Int.ediv_neg_of_neg_of_pos h (show 0 < b by omega)
      omega
    have h2 : -9223372036854775808 ≤ a / b := by
      rw [Int.le_ediv_iff_mul_le (by omega)]
      have : -9223372036854775808 * b ≤ -9223372036854775808 * 1 := Int.mul_le_mul_of_nonpos_left (by omega) hb.1
      omega
    rw [w64_of (n := a / b + 1) (by omega), w64_of (n := a / b + 1 - 1) (by omega)]
    exact ie (by omega)
  · dsimp only at h ⊢
    rw [tdiv_of (by omega)]
    have h0 := Int.ediv_nonneg (a := a) (b := b) (by omega) (by omega)
    have h1 := Int.ediv_le_self b (show 0 ≤ a by omega)
    exact w64_of (by omega)

theorem ok_ints_Mod {a b : Int} (ha : inI a) (hb : 1 ≤ b ∧ b ≤ 9223372036854775807) : FnE bs n_ints_Mod ((Shape.pair (.int .i64) (.int .i64)).compsE (a, b)) (.int .i64) (· = a % b) := by
  refine ok_of (e_ints_Mod (a, b) _) rfl ?_
  unfold c_ints_Mod
  unfold inI at ha
  have hm := Int.emod_nonneg a (b := b) (by omega)
  have hl := Int.emod_lt_of_pos a (b := b) (by omega)
  refine cond_dec (fun h => by dsimp only at h; omega) fun _ => ⟨by dsimp only; omega, cond_dec (fun h => ?_) fun h => ⟨by dsimp only; omega, ?_⟩⟩
  · dsimp only at h ⊢
    by_cases h0 : 0 ≤ a
    · rw [tmod_of h0] at h; omega
    · rw [tmod_neg (by omega) hb.1] at h ⊢
      split at h
      · omega
      · rename_i q
        rw [if_neg q, w64_of (by omega)]
        exact ie (by omega)
  · dsimp only at h ⊢
    by_cases h0 : 0 ≤ a
    · rw [tmod_of h0]
    · rw [tmod_neg (by omega) hb.1] at h ⊢
      split at h
      · rename_i q; rw [if_pos q]; exact ie (by omega)
      · omega

theorem ok_civil_Leap {y : Int} (hy : inI y) : FnE bs n_civil_Leap ((Shape.int .i64).compsE y) .bool (· = decide (VCal.Leap y)) := by
  refine ok_of (e_civil_Leap y _) rfl ?_
  unfold c_civil_Leap
  refine callP_eq (ok_ints_Mod hy (by omega)) (cond_dec (fun h => ?_) fun h => callP_eq (ok_ints_Mod hy (by omega)) (cond_dec (fun h2 => callP_eq (ok_ints_Mod hy (by omega)) ?_) fun h2 => ?_))
  · unfold VCal.Leap; simp [h]
  · unfold VCal.Leap; simp [h, h2]
  · unfold VCal.Leap; simp [h, h2]

theorem lens_eq {m : Int} (h : 1 ≤ m ∧ m ≤ 12) : ([(0 : Int), (31 : Int), (28 : Int), (31 : Int), (30 : Int), (31 : Int), (30 : Int), (31 : Int), (31 : Int), (30 : Int), (31 : Int), (30 : Int), (31 : Int)] : List Int).getD (0 + m.toNat) 0 = VCal.lens m.toNat := by
  rcases VCal.months h.1 h.2 with rfl | rfl | rfl | rfl | rfl | rfl | rfl | rfl | rfl | rfl | rfl | rfl <;> rfl

theorem ok_civil_Days {y m : Int} (hy : inI y) : FnE bs n_civil_Days ((Shape.pair (.int .i64) (.int .i64)).compsE (y, m)) (.int .i64) (· = VCal.mlen y m) := by
  refine ok_of (e_civil_Days (y, m) _) rfl ?_
  unfold c_civil_Days VCal.mlen
  refine cond_dec (fun h => ?_) fun h => cond_dec (fun h2 => ?_) fun h2 => cond_dec (fun h3 => callP_eq (ok_civil_Leap hy) (cond_bool (fun h4 => ?_) fun h4 => ⟨by dsimp only at *; omega, ?_⟩)) fun h3 => ⟨by dsimp only at *; omega, ?_⟩
  · rw [if_pos h]
  · dsimp only at *; rw [if_neg h, if_pos h2]
  · dsimp only at *; rw [if_neg h, if_neg (by omega), if_pos h3, if_pos (by simpa using h4)]
  · dsimp only at *; rw [if_neg h, if_neg (by omega), if_pos h3, if_neg (by simpa using h4), h3]; rfl
  · dsimp only at *; rw [if_neg h, if_neg (by omega), if_neg h3]; exact lens_eq (by omega)

theorem ok_civil_Valid {y m d : Int} (hy : inI y) : FnE bs n_civil_Valid ((Shape.pair (.int .i64) (.pair (.int .i64) (.int .i64))).compsE (y, m, d)) .bool (· = decide (VCal.Valid y m d)) := by
  refine ok_of (e_civil_Valid (y, m, d) _) rfl ?_
  unfold c_civil_Valid VCal.Valid
  refine cond_dec (fun h => cond_dec (fun h2 => cond_dec (fun h3 => callP_eq (ok_civil_Days hy) ?_) fun h3 => ?_) fun h2 => ?_) fun h => ?_ <;> dsimp only at *
  · simp [h, h2, h3]
  · simp [h3]
  · simp [h2]
  · simp [h]

theorem era_sum (y' : Int) (h : -1 ≤ y' ∧ y' ≤ 9999) : y' / 400 * 146097 + y' % 400 * 365 + y' % 400 / 4 - y' % 400 / 100 = 365 * y' + y' / 4 - y' / 100 + y' / 400 := by
  have h0 : y' = 400 * (y' / 400) + y' % 400 := by omega
  generalize hE : y' / 400 = E at *
  generalize hR : y' % 400 = R at *
  have hr : 0 ≤ R ∧ R < 400 := by omega
  have h1 : y' / 4 = 100 * E + R / 4 := by omega
  have h2 : y' / 100 = 4 * E + R / 100 := by omega
  omega
theorem number_sum (y' k d : Int) (hy : -1 ≤ y' ∧ y' ≤ 9999) (hk : 0 ≤ k ∧ k ≤ 11) (hd : 1 ≤ d ∧ d ≤ 31) :
    w64 ((w64 ((w64 ((w64 ((w64 ((w64 (y' / 400 * 146097)) + (w64 (y' % 400 * 365)))) + (w64 (Int.tdiv (y' % 400) 4)))) - (w64 (Int.tdiv (y' % 400) 100)))) + (w64 ((w64 ((w64 (Int.tdiv (w64 ((w64 (153 * k)) + 2)) 5)) + d)) - 1)))) + 60) = 365 * y' + y' / 4 - y' / 100 + y' / 400 + (153 * k + 2) / 5 + d + 59 := by
  have e := era_sum y' hy
  have b1 : -1 ≤ y' / 400 ∧ y' / 400 ≤ 24 := by omega
  have b2 : 0 ≤ y' % 400 ∧ y' % 400 < 400 := by omega
  generalize y' / 400 = E at *
  generalize y' % 400 = R at *
  simp (disch := omega) only [w64_of, tdiv_of]
  omega

theorem ok_civil_Number {y m d : Int} (hy : inI y) : FnE bs n_civil_Number ((Shape.pair (.int .i64) (.pair (.int .i64) (.int .i64))).compsE (y, m, d)) (.tup (.pair (.int .i64) .bool)) (· = if VCal.Valid y m d then (VCal.num y m d, true) else (0, false)) := by
  refine ok_of (e_civil_Number (y, m, d) _) rfl ?_
  unfold c_civil_Number
  refine callP_eq (ok_civil_Valid hy) (cond_not (fun hv => ?_) fun hv => ?_)
  · have hv : ¬ VCal.Valid y m d := by simpa using hv
    rw [if_neg hv]
  · have hv : VCal.Valid y m d := by simpa using hv
    rw [if_pos hv]
    have hm := VCal.valid_month hv
    have hl := VCal.mlen_pos (y := y) hm.1 hm.2
    obtain ⟨v0, v1, v2, v3⟩ := hv
    unfold VCal.num
    refine cond_dec (fun h3 => ?_) fun h3 => ?_ <;> dsimp only at h3 ⊢
    · rw [if_pos h3, w64_of (n := y - 1) (by omega)]
      refine callP_eq (ok_ints_Floor (by unfold inI; omega) (by omega)) (callP_eq (ok_ints_Mod (by unfold inI; omega) (by omega)) ⟨by omega, by omega, by omega, ?_⟩)
      rw [w64_of (n := m + 12) (by omega), w64_of (n := m + 12 - 3) (by omega), show m + 12 - 3 = m + 9 by omega, number_sum (y - 1) (m + 9) d (by omega) (by omega) (by omega)]
    · rw [if_neg h3]
      refine callP_eq (ok_ints_Floor (by unfold inI; omega) (by omega)) (callP_eq (ok_ints_Mod (by unfold inI; omega) (by omega)) ⟨by omega, by omega, by omega, ?_⟩)
      rw [w64_of (n := m - 3) (by omega), number_sum y (m - 3) d (by omega) (by omega) (by omega)]
end Go.Proofs.YtocmlcpcnjaaeaaGreatDoor.V


/- Numbers' dates, and units: what the program's functions answer. No condition of its own. -/
namespace Go.Proofs.YtocmlcpcnjaaeaaGreatDoor.V
open Go
set_option linter.unusedVariables false
set_option linter.unusedSimpArgs false

theorem ok_civil_Date {n : Int} : FnE bs n_civil_Date ((Shape.int .i64).compsE n) (.tup (.pair (.int .i64) (.pair (.int .i64) (.int .i64)))) (· = if 0 ≤ n ∧ n ≤ 3652424 then VCal.dateOf n else (0, 0, 0)) := by
  refine ok_of (e_civil_Date n _) rfl ?_
  unfold c_civil_Date
  refine cond_dec (fun h => by rw [if_neg (by omega)]) fun h => cond_dec (fun h2 => by rw [if_neg (by omega)]) fun h2 => ?_
  rw [w64_of (n := n - 60) (by omega), if_pos (by omega)]
  refine callP_eq (ok_ints_Floor (by unfold inI; omega) (by omega)) (callP_eq (ok_ints_Mod (by unfold inI; omega) (by omega)) ⟨by omega, by omega, by omega, by omega, by omega, by omega, by omega, by omega, ?_⟩)
  dsimp only
  obtain ⟨c, q, r, day, hc, hq, hr, hd, hl, hx⟩ := VCal.split_400 ((n - 60) % 146097) (by omega)
  have ho := VCal.of_year c q r day hc hq hr hd hl
  simp only [← hx] at ho
  obtain ⟨mk, md, hk, hdd, hd1, hk1, hki, hcase⟩ := VCal.months_of_year day hd
  obtain ⟨hv1, hv2⟩ := VCal.of_divs c q r hc hq hr
  have hday : (n - 60) % 146097 - ((100 * c + 4 * q + r) * 365 + (100 * c + 4 * q + r) / 4 - (100 * c + 4 * q + r) / 100) = day := by rw [hv1, hv2]; omega
  have e : VCal.dateOf n = if day ≥ 306 then ((n - 60) / 146097 * 400 + (100 * c + 4 * q + r) + 1, mk - 9, md) else ((n - 60) / 146097 * 400 + (100 * c + 4 * q + r), mk + 3, md) := by
    unfold VCal.dateOf
    simp only [ho, hday, hk, hdd]
  rw [e]
  clear e
  have bE : -1 ≤ (n - 60) / 146097 ∧ (n - 60) / 146097 ≤ 24 := by omega
  have bx : 0 ≤ (n - 60) % 146097 ∧ (n - 60) % 146097 < 146097 := by omega
  generalize (n - 60) / 146097 = E at *
  generalize (n - 60) % 146097 = x at *
  have hA : w64 ((w64 ((w64 (x - (w64 (Int.tdiv x 1460)))) + (w64 (Int.tdiv x 36524)))) - (w64 (Int.tdiv x 146096))) = x - x / 1460 + x / 36524 - x / 146096 := by
    clear ho hcase hx hl hday hv1 hv2 hk hdd hki
    simp (disch := omega) only [w64_of, tdiv_of]
  have hA0 : 0 ≤ x - x / 1460 + x / 36524 - x / 146096 ∧ x - x / 1460 + x / 36524 - x / 146096 ≤ 200000 := by
    clear ho hcase hx hl hday hv1 hv2 hk hdd hki hA
    omega
  rw [hA]
  generalize x - x / 1460 + x / 36524 - x / 146096 = B at *
  have hO : w64 (Int.tdiv B 365) = 100 * c + 4 * q + r := by rw [tdiv_of hA0.1, ho, w64_of (by omega)]
  rw [hO]
  have bO : 0 ≤ 100 * c + 4 * q + r ∧ 100 * c + 4 * q + r ≤ 399 := by omega
  generalize 100 * c + 4 * q + r = O at *
  have hD : w64 (x - (w64 ((w64 ((w64 (O * 365)) + (w64 (Int.tdiv O 4)))) - (w64 (Int.tdiv O 100))))) = day := by
    rw [tdiv_of bO.1, tdiv_of bO.1, hv1, hv2]
    simp (disch := omega) only [w64_of]
    rw [← hday, hv1, hv2]
  rw [hD]
  have hK : w64 (Int.tdiv (w64 ((w64 (5 * day)) + 2)) 153) = mk := by
    rw [w64_of (n := 5 * day) (by omega), w64_of (n := 5 * day + 2) (by omega), tdiv_of (by omega), hk, w64_of (by omega)]
  rw [hK]
  have hM : w64 ((w64 (day - (w64 (Int.tdiv (w64 ((w64 (153 * mk)) + 2)) 5)))) + 1) = md := by
    rw [w64_of (n := 153 * mk) (by omega), w64_of (n := 153 * mk + 2) (by omega), tdiv_of (by omega), w64_of (n := (153 * mk + 2) / 5) (by omega), w64_of (n := day - (153 * mk + 2) / 5) (by omega), hdd, w64_of (by omega)]
  rw [hM]
  rw [w64_of (n := E * 400) (by omega), w64_of (n := E * 400 + O) (by omega), w64_of (n := E * 400 + O + 1) (by omega), w64_of (n := mk - 9) (by omega), w64_of (n := mk + 3) (by omega)]
  refine cond_dec (fun h => by rw [if_pos (by omega)]) fun h => by rw [if_neg (by omega)]

/-! ### Units -/

theorem ok_unit_monthly {n : Int} (h : 0 ≤ n ∧ n ≤ 3652424) : FnE bs n_unit_monthly ((Shape.int .i64).compsE n) (.int .i64) (· = VCal.mon n) := by
  refine ok_of (e_unit_monthly n _) rfl ?_
  unfold c_unit_monthly
  refine callP_eq ok_civil_Date ?_
  rw [if_pos h]
  obtain ⟨v, _⟩ := VCal.date_num h
  have hm := VCal.valid_month v
  obtain ⟨v0, v1, v2, v3⟩ := v
  unfold VCal.mon
  rw [w64_of (n := 12 * (VCal.dateOf n).1) (by omega), w64_of (n := 12 * (VCal.dateOf n).1 + (VCal.dateOf n).2.1) (by omega), w64_of (n := 12 * (VCal.dateOf n).1 + (VCal.dateOf n).2.1 - 1) (by omega)]

theorem ok_unit_span_begins {m f c i : Int} (hm : inI m ∧ inI f ∧ inI i) (hp : inI (m * i)) (h : 0 ≤ f + m * i ∧ f + m * i < 120000) : FnE bs n_unit_span_begins ((Shape.pair sUnitSpan (.int .i64)).compsE ((m, f, c), i)) (.int .i64) (· = VCal.mfirst (f + m * i)) := by
  refine ok_of (e_unit_span_begins ((m, f, c), i) _) rfl ?_
  unfold c_unit_span_begins
  unfold inI at hp
  have hv := VCal.valid_first h
  refine ⟨by omega, by omega, ?_⟩
  dsimp only
  rw [w64_of (n := m * i) hp, w64_of (n := f + m * i) (by omega), tdiv_of h.1, tmod_of h.1, w64_of (n := (f + m * i) / 12) (by omega), w64_of (n := (f + m * i) % 12 + 1) (by omega)]
  refine callP_eq (ok_civil_Number (by unfold inI; omega)) ?_
  rw [if_pos hv]
  rfl

theorem ok_unit_span_number {m f c d : Int} (hm : 1 ≤ m ∧ m ≤ 120000) (hf : 0 ≤ f ∧ f ≤ 120000) (h : 0 ≤ d ∧ d ≤ 3652424) : FnE bs n_unit_span_number ((Shape.pair sUnitSpan (.int .i64)).compsE ((m, f, c), d)) (.int .i64) (· = if VCal.mon d - f < 0 then -1 else (VCal.mon d - f) / m) := by
  refine ok_of (e_unit_span_number ((m, f, c), d) _) rfl ?_
  unfold c_unit_span_number
  refine callP_eq (ok_unit_monthly h) ?_
  obtain ⟨hb, _⟩ := VCal.mon_spec h
  dsimp only
  rw [w64_of (n := VCal.mon d - f) (by omega)]
  refine cond_dec (fun h => by rw [if_pos h]) fun h => ⟨by omega, ?_⟩
  rw [if_neg h, tdiv_of (by omega)]
  have h0 := Int.ediv_nonneg (a := VCal.mon d - f) (b := m) (by omega) (by omega)
  have h1 := Int.ediv_le_self m (show 0 ≤ VCal.mon d - f by omega)
  exact w64_of (by omega)

/-- What a way of units of months does. -/
def beginsF (m f : Int) (i : Int) : Option Int := if inI m ∧ inI f ∧ inI i ∧ inI (m * i) ∧ 0 ≤ f + m * i ∧ f + m * i < 120000 then some (VCal.mfirst (f + m * i)) else none
def numberF (m f : Int) (d : Int) : Option Int := if 0 ≤ d ∧ d ≤ 3652424 then some (if VCal.mon d - f < 0 then -1 else (VCal.mon d - f) / m) else none

theorem ok_unit_of {m f c : Int} (hm : 1 ≤ m ∧ m ≤ 120000) (hf : 0 ≤ f ∧ f < 120000) : FnE bs n_unit_of (sUnitSpan.compsE (m, f, c)) sUnitWay (· = (c, beginsF m f, numberF m f)) := by
  have k1 : ∀ i r, beginsF m f i = some r → FnE bs n_unit_of_1 ([] ++ Shape.compsE (.int .i64) i ++ [(.ip [(.clo (.func 227) [] [])] 0), (.ip [(.p (.int .i64) m), (.p (.int .i64) f), (.p (.int .i64) c)] 0)]) (.int .i64) (· = r) := by
    intro i r h
    unfold beginsF at h
    split at h
    · rename_i q
      obtain ⟨q1, q2, q3, q4, q5⟩ := q
      refine ok_of (e_unit_of_1 (m, f, c) i _) rfl ?_
      unfold c_unit_of_1
      refine callP_eq (ok_unit_span_begins ⟨q1, q2, q3⟩ q4 q5) ?_
      exact Option.some.inj h
    · cases h
  have k2 : ∀ d r, numberF m f d = some r → FnE bs n_unit_of_2 ([] ++ Shape.compsE (.int .i64) d ++ [(.ip [(.clo (.func 228) [] [])] 0), (.ip [(.p (.int .i64) m), (.p (.int .i64) f), (.p (.int .i64) c)] 0)]) (.int .i64) (· = r) := by
    intro d r h
    unfold numberF at h
    split at h
    · rename_i q
      refine ok_of (e_unit_of_2 (m, f, c) d _) rfl ?_
      unfold c_unit_of_2
      refine callP_eq (ok_unit_span_number (m := m) (f := f) (c := c) hm (by omega) q) ?_
      exact Option.some.inj h
    · cases h
  refine ok_of (e_unit_of (m, f, c) _) rfl ?_
  unfold c_unit_of
  refine ⟨beginsF m f, ⟨(k1 0 (VCal.mfirst f) ?_).1, k1⟩, numberF m f, ⟨(k2 0 _ rfl).1, k2⟩, rfl⟩
  unfold beginsF
  rw [if_pos (by unfold inI; simp; omega)]
  simp

theorem ok_unit_days_begins {i : Int} : FnE bs n_unit_days_begins ((Shape.pair sUnitDays (.int .i64)).compsE ((), i)) (.int .i64) (· = i) := ok_of (e_unit_days_begins ((), i) _) rfl rfl
theorem ok_unit_days_number {i : Int} : FnE bs n_unit_days_number ((Shape.pair sUnitDays (.int .i64)).compsE ((), i)) (.int .i64) (· = i) := ok_of (e_unit_days_number ((), i) _) rfl rfl
theorem ok_unit_find_1 {i : Int} : FnE bs n_unit_find_1 ((Shape.int .i64).compsE i) (.int .i64) (· = i) := ok_of (e_unit_find_1 i _) rfl (callP_eq ok_unit_days_begins rfl)
theorem ok_unit_find_2 {i : Int} : FnE bs n_unit_find_2 ((Shape.int .i64).compsE i) (.int .i64) (· = i) := ok_of (e_unit_find_2 i _) rfl (callP_eq ok_unit_days_number rfl)

/-- A kind's way. -/
def wayOf (kind : Int) : (Int × ((Int → Option Int) × (Int → Option Int))) × Bool :=
  if kind = 0 then ((3652425, some, some), true) else match VCal.tab kind with
    | some (m, f, c) => ((c, beginsF m f, numberF m f), true)
    | none => ((0, fun _ => none, fun _ => none), false)

theorem tab_out {kind : Int} (h : kind < 0 ∨ 6 ≤ kind) : VCal.tab kind = none := by
  cases ht : VCal.tab kind with
  | none => rfl
  | some t => obtain ⟨m, f, c⟩ := t; have := VCal.tab_cases ht; omega

theorem ok_unit_find {kind : Int} : FnE bs n_unit_find ((Shape.int .i64).compsE kind) (.tup (.pair sUnitWay .bool)) (· = wayOf kind) := by
  refine ok_of (e_unit_find kind _) rfl ?_
  unfold c_unit_find
  refine callP_eq (ok_unit_of (by omega) (by omega)) (callP_eq (ok_unit_of (by omega) (by omega)) (callP_eq (ok_unit_of (by omega) (by omega)) (callP_eq (ok_unit_of (by omega) (by omega)) (callP_eq (ok_unit_of (by omega) (by omega)) ?_))))
  refine ⟨some, ⟨(ok_unit_find_1 (i := 0)).1, fun x r h => by cases h; exact ok_unit_find_1⟩, some, ⟨(ok_unit_find_2 (i := 0)).1, fun x r h => by cases h; exact ok_unit_find_2⟩, ?_⟩
  refine cond_dec (fun h => ?_) fun h => cond_dec (fun h2 => ?_) fun h2 => ?_
  · unfold wayOf; rw [if_neg (by omega), tab_out (by omega)]
  · unfold wayOf; simp only [List.length_cons, List.length_nil] at h2; rw [if_neg (by omega), tab_out (by omega)]
  · simp only [List.length_cons, List.length_nil] at h2
    refine ⟨⟨by omega, by simp only [List.length_cons, List.length_nil]; omega⟩, ?_⟩
    have : kind = 0 ∨ kind = 1 ∨ kind = 2 ∨ kind = 3 ∨ kind = 4 ∨ kind = 5 := by omega
    rcases this with rfl | rfl | rfl | rfl | rfl | rfl <;> rfl

theorem ok_unit_Count {kind : Int} : FnE bs n_unit_Count ((Shape.int .i64).compsE kind) (.int .i64) (· = VCal.ucount kind) := by
  refine ok_of (e_unit_Count kind _) rfl ?_
  unfold c_unit_Count
  refine callP_eq ok_unit_find ?_
  unfold wayOf VCal.ucount
  by_cases hk : kind = 0
  · rw [if_pos hk, if_pos hk]
  · rw [if_neg hk, if_neg hk]
    cases VCal.tab kind <;> rfl

/-- What a unit's first and last day, and a day's unit, are told to be. -/
def firstS (kind i : Int) : Int × Bool := if 0 ≤ i ∧ i < VCal.ucount kind then (VCal.ufirst kind i, true) else (0, false)
def lastS (kind i : Int) : Int × Bool := if 0 ≤ i ∧ i < VCal.ucount kind then (VCal.ulast kind i, true) else (0, false)
theorem way_begins {kind i : Int} (h0 : 0 ≤ i) (h1 : i < VCal.ucount kind) : (wayOf kind).2 = true ∧ (wayOf kind).1.1 = VCal.ucount kind ∧ (wayOf kind).1.2.1 i = some (VCal.ufirst kind i) := by
  unfold wayOf VCal.ucount VCal.ufirst
  by_cases hk : kind = 0
  · subst hk; exact ⟨rfl, rfl, rfl⟩
  · cases ht : VCal.tab kind with
    | none => exfalso; unfold VCal.ucount at h1; rw [if_neg hk, ht] at h1; dsimp only at h1; omega
    | some t =>
      obtain ⟨m, f, c⟩ := t
      have hc : VCal.ucount kind = c := by unfold VCal.ucount; rw [if_neg hk, ht]
      rw [hc] at h1
      have hf := VCal.tab_fit ht h0 h1
      have hm := VCal.tab_cases ht
      simp only [if_neg hk]
      refine ⟨trivial, trivial, ?_⟩
      have hmi : 0 ≤ m * i := Int.mul_nonneg (by omega) h0
      unfold beginsF
      rw [if_pos (by unfold inI; omega)]

theorem way_count {kind : Int} (h : (wayOf kind).2 = true) : (wayOf kind).1.1 = VCal.ucount kind := by
  unfold wayOf at *
  unfold VCal.ucount
  by_cases hk : kind = 0
  · rw [if_pos hk, if_pos hk]
  · rw [if_neg hk] at h ⊢
    rw [if_neg hk]
    cases ht : VCal.tab kind with
    | none => rw [ht] at h
    | some t => rfl

theorem way_none {kind : Int} (h : (wayOf kind).2 = false) : VCal.ucount kind = 0 := by
  unfold wayOf at *
  unfold VCal.ucount
  by_cases hk : kind = 0
  · rw [if_pos hk] at h; cases h
  · rw [if_neg hk] at h ⊢
    cases ht : VCal.tab kind with
    | none => rfl
    | some t => rw [ht] at h; cases h

theorem ok_unit_First {kind i : Int} : FnE bs n_unit_First ((Shape.pair (.int .i64) (.int .i64)).compsE (kind, i)) (.tup (.pair (.int .i64) .bool)) (· = firstS kind i) := by
  refine ok_of (e_unit_First (kind, i) _) rfl ?_
  unfold c_unit_First firstS
  refine callP_eq ok_unit_find (cond_not (fun h => ?_) fun h => cond_dec (fun h2 => ?_) fun h2 => cond_dec (fun h3 => ?_) fun h3 => ?_) <;> dsimp only [Shape.Val] at *
  · have := way_none h; rw [if_neg (by omega)]
  · rw [if_neg (by omega)]
  · rw [way_count h] at h3; rw [if_neg (by omega)]
  · rw [way_count h] at h3
    have hw := way_begins (kind := kind) (i := i) (by omega) (by omega)
    exact gcall_eq hw.2.2 (by rw [if_pos (by omega)])

theorem ok_unit_Last {kind i : Int} : FnE bs n_unit_Last ((Shape.pair (.int .i64) (.int .i64)).compsE (kind, i)) (.tup (.pair (.int .i64) .bool)) (· = lastS kind i) := by
  refine ok_of (e_unit_Last (kind, i) _) rfl ?_
  unfold c_unit_Last lastS
  have hc := VCal.ucount_pos kind
  refine callP_eq ok_unit_find (cond_not (fun h => ?_) fun h => cond_dec (fun h2 => ?_) fun h2 => cond_dec (fun h3 => ?_) fun h3 => cond_dec (fun h4 => ?_) fun h4 => ?_) <;> dsimp only [Shape.Val] at *
  · have := way_none h; rw [if_neg (by omega)]
  · rw [if_neg (by omega)]
  · rw [way_count h] at h3; rw [if_neg (by omega)]
  · rw [way_count h, w64_of (by omega)] at h4
    rw [way_count h] at h3
    rw [if_pos (by omega)]
    unfold VCal.ulast
    rw [if_pos h4]
  · rw [way_count h, w64_of (by omega)] at h4
    rw [way_count h] at h3
    have hw := way_begins (kind := kind) (i := i + 1) (by omega) (by omega)
    have hu := VCal.unit_in (kind := kind) (i := i + 1) (by omega) (by omega)
    rw [w64_of (n := i + 1) (by omega)]
    refine gcall_eq hw.2.2 ?_
    rw [if_pos (by omega), w64_of (by omega)]
    unfold VCal.ulast
    rw [if_neg h4]

end Go.Proofs.YtocmlcpcnjaaeaaGreatDoor.V


/- Sets as runs: what the program's functions answer of lists that are sets. No condition of its own. -/
namespace Go.Proofs.YtocmlcpcnjaaeaaGreatDoor.V
open Go
set_option linter.unusedVariables false
set_option linter.unusedSimpArgs false

theorem rd_of {s : Shape} {xs : List s.Val} {k : Nat} {r : s.Val} (h : xs[k]? = some r) : rd s xs k = r := by
  unfold rd
  rw [List.getD_eq_getElem?_getD, h]
  rfl

theorem drop_cons {α : Type} {s : List α} {k : Nat} {r : α} (h : s[k]? = some r) : s.drop k = r :: s.drop (k + 1) := by
  obtain ⟨hk, e⟩ := List.getElem?_eq_some_iff.1 h
  rw [List.drop_eq_getElem_cons hk, e]

theorem be {a b : Bool} (h : a = b) : @Eq Shape.bool.Val a b := h

theorem toNat_ofNat (k : Nat) : ((k : Int)).toNat = k := Int.toNat_natCast k

theorem ok_runs_Sane {s : Runs} (hl : s.length ≤ 1000000000) : FnE bs n_runs_Sane ((Shape.slice sRun).compsE s) .bool (· = decide (Sane s)) := by
  refine ok_of (e_runs_Sane s _) rfl ?_
  unfold c_runs_Sane
  refine loopP_of (fun z : Int × Int => ∃ k : Nat, z.2 = k ∧ k ≤ s.length ∧ (Sane s ↔ SaneFrom z.1 (s.drop k)) ∧ -1099511627778 ≤ z.1 ∧ z.1 ≤ Lim) (fun z => s.length - z.2.toNat) ?_ ⟨0, rfl, Nat.zero_le _, by simp [Sane], by decide, by decide⟩
  intro z A ⟨k, hk, hks, hiff, hlo, hhi⟩ back
  obtain ⟨last, i⟩ := z
  dsimp only [Shape.Val] at *
  subst hk
  unfold Lim at hhi
  refine cond_dec (fun h => ⟨⟨by omega, h⟩, ?_⟩) fun h => ?_
  · have hk : k < s.length := by omega
    have hg := List.getElem?_eq_getElem hk
    generalize s[k] = r at hg
    rw [toNat_ofNat, rd_of (s := sRun) hg, w64_of (n := last + 2) (by omega), w64_of (n := (k : Int) + 1) (by omega)]
    rw [drop_cons hg] at hiff
    simp only [SaneFrom, Lim] at hiff
    refine cond_dec (fun h1 => ?_) fun h1 => cond_dec (fun h2 => ?_) fun h2 => cond_dec (fun h3 => ?_) fun h3 => ?_
    · exact be (decide_eq_false fun q => by have := hiff.1 q; omega).symm
    · exact be (decide_eq_false fun q => by have := hiff.1 q; omega).symm
    · exact be (decide_eq_false fun q => by have := hiff.1 q; omega).symm
    · refine back (r.2, (k : Int) + 1) ⟨k + 1, by simp, hk, ?_, ?_, ?_⟩ ?_
      · rw [hiff]
        exact ⟨fun q => q.2.2.2, fun q => ⟨by omega, by omega, by omega, q⟩⟩
      · dsimp only; omega
      · dsimp only; unfold Lim; omega
      · dsimp only; omega
  · rw [List.drop_eq_nil_of_le (by omega)] at hiff
    exact be (decide_eq_true (hiff.2 trivial)).symm

theorem ok_sets_known {s : Runs} (hl : s.length ≤ 1000000000) (h : Sane s) : FnE bs n_sets_known ((Shape.slice sRun).compsE s) (.slice sRun) (· = s) := by
  refine ok_of (e_sets_known s _) rfl ?_
  unfold c_sets_known
  exact callP_eq (ok_runs_Sane hl) (cond_yes (decide_eq_true h) rfl)

/-! ### A number's place -/

def cmpS (a b : Int) : Int := if a < b then -1 else if b < a then 1 else 0

theorem ok_cmp_isNaN {a : Int} : FnE bs n_cmp_isNaN ((Shape.int .i64).compsE a) .bool (· = false) := ok_of (e_cmp_isNaN a _) rfl (be (by simp))

theorem ok_cmp_Compare {a b : Int} : FnE bs n_cmp_Compare ((Shape.pair (.int .i64) (.int .i64)).compsE (a, b)) (.int .i64) (· = cmpS a b) := by
  refine ok_of (e_cmp_Compare (a, b) _) rfl ?_
  unfold c_cmp_Compare cmpS
  refine callP_eq ok_cmp_isNaN (callP_eq ok_cmp_isNaN (cond_dec (fun h => ?_) fun h => cond_dec (fun h2 => ?_) fun h2 => ?_)) <;> dsimp only [Shape.Val] at *
  · rw [if_pos h]
  · rw [if_neg h, if_pos h2]
  · rw [if_neg h, if_neg h2]

end Go.Proofs.YtocmlcpcnjaaeaaGreatDoor.V


/- The document's answer for days and units: what its functions answer. No condition of its own. -/
namespace Go.Proofs.YtocmlcpcnjaaeaaGreatDoor.V
open Go
set_option linter.unusedVariables false
set_option linter.unusedSimpArgs false

theorem tmod_zero (a b : Int) (hb : 1 ≤ b) : Int.tmod a b = 0 ↔ a % b = 0 := by
  by_cases h : 0 ≤ a
  · rw [tmod_of h]
  · rw [tmod_neg (by omega) hb]
    have h3 := Int.emod_lt_of_pos a (show 0 < b by omega)
    split <;> omega

theorem ok_ref02_Leap {y : Int} : FnE bs n_lustrumref02_Leap ((Shape.int .i64).compsE y) .bool (· = decide (VCal.Leap y)) := by
  refine ok_of (e_lustrumref02_Leap y _) rfl ?_
  unfold c_lustrumref02_Leap
  have h4 := tmod_zero y 4 (by omega)
  have h100 := tmod_zero y 100 (by omega)
  have h400 := tmod_zero y 400 (by omega)
  have L : VCal.Leap y ↔ (y % 400 = 0 ∨ (y % 4 = 0 ∧ y % 100 ≠ 0)) := Iff.rfl
  refine ⟨by decide, cond_dec (fun h => ⟨by decide, cond_not (fun h2 => ?_) fun h2 => ⟨by decide, be ?_⟩⟩) fun h => ⟨by decide, be ?_⟩⟩
  · have h : y.tmod 4 = 0 := h
    have h2 : ¬ y.tmod 100 = 0 := by simpa using h2
    refine be (decide_eq_true (L.2 (.inr ⟨h4.1 h, fun q => h2 (h100.2 q)⟩))).symm
  · have h2 : y.tmod 100 = 0 := by simpa using h2
    rw [Bool.eq_iff_iff, decide_eq_true_iff, decide_eq_true_iff, L]
    have := h100.1 h2
    exact ⟨fun q => .inl (h400.1 q), fun q => h400.2 (by omega)⟩
  · have h : ¬ y.tmod 4 = 0 := h
    rw [Bool.eq_iff_iff, decide_eq_true_iff, decide_eq_true_iff, L]
    have : ¬ y % 4 = 0 := fun q => h (h4.2 q)
    exact ⟨fun q => .inl (h400.1 q), fun q => h400.2 (by omega)⟩

theorem ok_ref02_Days {y m : Int} : FnE bs n_lustrumref02_Days ((Shape.pair (.int .i64) (.int .i64)).compsE (y, m)) (.int .i64) (· = VCal.mlen y m) := by
  refine ok_of (e_lustrumref02_Days (y, m) _) rfl ?_
  unfold c_lustrumref02_Days
  by_cases h : 1 ≤ m ∧ m ≤ 12
  · rcases VCal.months h.1 h.2 with rfl | rfl | rfl | rfl | rfl | rfl | rfl | rfl | rfl | rfl | rfl | rfl
    · exact (show (31 : Int) = VCal.mlen y 1 from rfl)
    · show callP bs 251 (.int .i64) .bool y (fun r => cond r ((fun x : Int => x = VCal.mlen y 2) 29) ((fun x : Int => x = VCal.mlen y 2) 28))
      refine callP_eq ok_ref02_Leap ?_
      rw [VCal.mlen_2]
      exact cond_dec (fun hl => by rw [if_pos hl]) fun hl => by rw [if_neg hl]
    · exact (show (31 : Int) = VCal.mlen y 3 from rfl)
    · exact (show (30 : Int) = VCal.mlen y 4 from rfl)
    · exact (show (31 : Int) = VCal.mlen y 5 from rfl)
    · exact (show (30 : Int) = VCal.mlen y 6 from rfl)
    · exact (show (31 : Int) = VCal.mlen y 7 from rfl)
    · exact (show (31 : Int) = VCal.mlen y 8 from rfl)
    · exact (show (30 : Int) = VCal.mlen y 9 from rfl)
    · exact (show (31 : Int) = VCal.mlen y 10 from rfl)
    · exact (show (30 : Int) = VCal.mlen y 11 from rfl)
    · exact (show (31 : Int) = VCal.mlen y 12 from rfl)
  · rw [VCal.mlen_out h]
    dsimp only
    rw [decide_eq_false (show ¬ m = 1 by omega), decide_eq_false (show ¬ m = 2 by omega), decide_eq_false (show ¬ m = 3 by omega), decide_eq_false (show ¬ m = 4 by omega), decide_eq_false (show ¬ m = 5 by omega), decide_eq_false (show ¬ m = 6 by omega), decide_eq_false (show ¬ m = 7 by omega), decide_eq_false (show ¬ m = 8 by omega), decide_eq_false (show ¬ m = 9 by omega), decide_eq_false (show ¬ m = 10 by omega), decide_eq_false (show ¬ m = 11 by omega), decide_eq_false (show ¬ m = 12 by omega)]
    rfl

theorem ok_ref02_Valid {y m d : Int} : FnE bs n_lustrumref02_Valid ((Shape.pair (.int .i64) (.pair (.int .i64) (.int .i64))).compsE (y, m, d)) .bool (· = decide (VCal.Valid y m d)) := by
  refine ok_of (e_lustrumref02_Valid (y, m, d) _) rfl ?_
  unfold c_lustrumref02_Valid
  have V : VCal.Valid y m d ↔ 0 ≤ y ∧ y ≤ 9999 ∧ 1 ≤ d ∧ d ≤ VCal.mlen y m := Iff.rfl
  refine cond_dec (fun h1 => cond_dec (fun h2 => cond_dec (fun h3 => callP_eq ok_ref02_Days (be ?_)) fun h3 => be (decide_eq_false fun q => ?_).symm) fun h2 => be (decide_eq_false fun q => ?_).symm) fun h1 => be (decide_eq_false fun q => ?_).symm
  · have h1 : 0 ≤ y := h1
    have h2 : y ≤ 9999 := h2
    have h3 : 1 ≤ d := h3
    rw [Bool.eq_iff_iff, decide_eq_true_iff, decide_eq_true_iff, V]
    exact ⟨fun q => ⟨h1, h2, h3, q⟩, fun q => q.2.2.2⟩
  · exact h3 (V.1 q).2.2.1
  · exact h2 (V.1 q).2.1
  · exact h1 (V.1 q).1

theorem ok_ref02_start {y : Int} (h : 0 ≤ y ∧ y ≤ 20000) : FnE bs n_lustrumref02_start ((Shape.int .i64).compsE y) (.int .i64) (· = VCal.start y) := by
  refine ok_of (e_lustrumref02_start y _) rfl ?_
  unfold c_lustrumref02_start VCal.start
  refine ⟨by decide, by decide, by decide, ?_⟩
  simp (disch := omega) only [w64_of, tdiv_of]
  exact ie (by omega)

theorem ok_ref02_Number {y m d : Int} : FnE bs n_lustrumref02_Number ((Shape.pair (.int .i64) (.pair (.int .i64) (.int .i64))).compsE (y, m, d)) (.tup (.pair (.int .i64) .bool)) (· = if VCal.Valid y m d then (VCal.num y m d, true) else (0, false)) := by
  refine ok_of (e_lustrumref02_Number (y, m, d) _) rfl ?_
  unfold c_lustrumref02_Number
  refine callP_eq ok_ref02_Valid (cond_not (fun h => ?_) fun h => ?_)
  · rw [if_neg (by simpa using h)]
  · have hv : VCal.Valid y m d := by simpa using h
    rw [if_pos hv]
    have hm := VCal.valid_month hv
    have hl := VCal.mlen_pos (y := y) hm.1 hm.2
    have hnd := VCal.num_day y m d
    have hj := VCal.num_jan y
    have hb := VCal.num_bounds (y := y) (m := 1) (d := 1) ⟨hv.1, hv.2.1, by omega, by rw [VCal.mlen_1]; omega⟩
    obtain ⟨v0, v1, v2, v3⟩ := hv
    refine callP_eq (ok_ref02_start (y := y) (by omega)) ?_
    dsimp only
    rw [w64_of (n := VCal.start y + d) (by omega), w64_of (n := VCal.start y + d - 1) (by omega)]
    refine loopP_of (fun z : Int × Int => 1 ≤ z.2 ∧ z.2 ≤ m ∧ z.1 = VCal.num y z.2 1 + d - 1 ∧ 0 ≤ z.1 ∧ z.1 ≤ 4000000 + 31 * z.2) (fun z => (m - z.2).toNat) ?_ ⟨by dsimp only; omega, hm.1, by dsimp only; omega, by dsimp only; omega, by dsimp only; omega⟩
    rintro ⟨x, i⟩ A ⟨h1, h2, h3, h4, h5⟩ back
    dsimp only at h1 h2 h3 h4 h5 ⊢
    refine cond_dec (fun h => ?_) fun h => ?_
    · have h : i < m := h
      have hli := VCal.mlen_pos (y := y) (m := i) (by omega) (by omega)
      have hn := VCal.num_month (y := y) (m := i) (by omega) (by omega)
      refine callP_eq ok_ref02_Days ?_
      rw [w64_of (n := x + VCal.mlen y i) (by omega), w64_of (n := i + 1) (by omega)]
      exact back (x + VCal.mlen y i, i + 1) ⟨by dsimp only; omega, by dsimp only; omega, by dsimp only; omega, by dsimp only; omega, by dsimp only; omega⟩ (by dsimp only; omega)
    · have h : ¬ i < m := h
      have : i = m := by omega
      subst this
      show (x, true) = (VCal.num y i d, true)
      rw [show x = VCal.num y i d by omega]

/-! ### Units -/

theorem ok_ref03_Count {kind : Int} : FnE bs n_lustrumref03_Count ((Shape.int .i64).compsE kind) (.int .i64) (· = VCal.ucount kind) := by
  refine ok_of (e_lustrumref03_Count kind _) rfl ?_
  unfold c_lustrumref03_Count
  refine cond_dec (fun h => ?_) fun h0 => cond_dec (fun h => ?_) fun h1 => cond_dec (fun h => ?_) fun h2 => cond_dec (fun h => ?_) fun h3 => cond_dec (fun h => ?_) fun h4 => cond_dec (fun h => ?_) fun h5 => ?_
  · have h : kind = 0 := h; subst h; rfl
  · have h : kind = 1 := h; subst h; rfl
  · have h : kind = 2 := h; subst h; rfl
  · have h : kind = 3 := h; subst h; rfl
  · have h : kind = 4 := h; subst h; rfl
  · have h : kind = 5 := h; subst h; rfl
  · unfold VCal.ucount VCal.tab
    rw [if_neg h0, if_neg h1, if_neg h2, if_neg h3, if_neg h4, if_neg h5]

theorem num_first {q : Int} (h : 0 ≤ q ∧ q < 120000) : FnE bs n_lustrumref02_Number ((Shape.pair (.int .i64) (.pair (.int .i64) (.int .i64))).compsE (q / 12, q % 12 + 1, 1)) (.tup (.pair (.int .i64) .bool)) (· = (VCal.mfirst q, true)) :=
  ok_ref02_Number.mono fun r hr => by rw [hr, if_pos (VCal.valid_first h)]; rfl

theorem ok_ref03_First {kind i : Int} : FnE bs n_lustrumref03_First ((Shape.pair (.int .i64) (.int .i64)).compsE (kind, i)) (.tup (.pair (.int .i64) .bool)) (· = firstS kind i) := by
  refine ok_of (e_lustrumref03_First (kind, i) _) rfl ?_
  unfold c_lustrumref03_First firstS
  refine cond_dec (fun h => by rw [if_neg (by omega)]) fun h0 => callP_eq ok_ref03_Count (cond_dec (fun h => by dsimp only [Shape.Val] at *; rw [if_neg (by omega)]) fun h1 => ?_)
  have h0 : ¬ i < 0 := h0
  have h1 : ¬ VCal.ucount kind ≤ i := h1
  rw [if_pos (by omega)]
  unfold VCal.ufirst
  refine cond_dec (fun hk => ?_) fun hk0 => ?_
  · have hk : kind = 0 := hk
    rw [if_pos hk]
  · have hk0 : ¬ kind = 0 := hk0
    rw [if_neg hk0]
    cases ht : VCal.tab kind with
    | none =>
      have hc : VCal.ucount kind = 0 := by unfold VCal.ucount; rw [if_neg hk0, ht]
      omega
    | some t =>
      obtain ⟨m, f, c⟩ := t
      have hc : VCal.ucount kind = c := by unfold VCal.ucount; rw [if_neg hk0, ht]
      rw [hc] at h1
      have hf := VCal.tab_fit ht (show 0 ≤ i by omega) (show i < c by omega)
      have rn := num_first (q := f + m * i) ⟨hf.1, hf.2.1⟩
      dsimp only
      rcases VCal.tab_cases ht with ⟨rfl, rfl, rfl, rfl⟩ | ⟨rfl, rfl, rfl, rfl⟩ | ⟨rfl, rfl, rfl, rfl⟩ | ⟨rfl, rfl, rfl, rfl⟩ | ⟨rfl, rfl, rfl, rfl⟩
      · rw [tdiv_of (by omega), tmod_of (by omega), w64_of (n := i / 12) (by omega), w64_of (n := i % 12 + 1) (by omega)]
        rw [show (0 + 1 * i) / 12 = i / 12 by omega, show (0 + 1 * i) % 12 + 1 = i % 12 + 1 by omega] at rn
        exact cond_yes rfl ⟨by decide, by decide, callP_eq rn rfl⟩
      · rw [tdiv_of (by omega), tmod_of (by omega), tdiv_of (by omega), tmod_of (by omega), w64_of (n := i / 4) (by omega), w64_of (n := i % 4 * 3) (by omega), w64_of (n := i % 4 * 3 + 3) (by omega)]
        rw [show (2 + 3 * i) / 12 = i / 4 by omega, show (2 + 3 * i) % 12 + 1 = i % 4 * 3 + 3 by omega] at rn
        exact cond_no rfl (cond_yes rfl ⟨by decide, by decide, callP_eq rn rfl⟩)
      · rw [show (0 + 12 * i) / 12 = i by omega, show (0 + 12 * i) % 12 + 1 = 1 by omega] at rn
        exact cond_no rfl (cond_no rfl (cond_yes rfl (callP_eq rn rfl)))
      · rw [w64_of (n := i * 10) (by omega)]
        rw [show (0 + 120 * i) / 12 = i * 10 by omega, show (0 + 120 * i) % 12 + 1 = 1 by omega] at rn
        exact cond_no rfl (cond_no rfl (cond_no rfl (cond_yes rfl (callP_eq rn rfl))))
      · rw [w64_of (n := i * 100) (by omega)]
        rw [show (0 + 1200 * i) / 12 = i * 100 by omega, show (0 + 1200 * i) % 12 + 1 = 1 by omega] at rn
        exact cond_no rfl (cond_no rfl (cond_no rfl (cond_no rfl (callP_eq rn rfl))))

theorem ok_ref03_Last {kind i : Int} : FnE bs n_lustrumref03_Last ((Shape.pair (.int .i64) (.int .i64)).compsE (kind, i)) (.tup (.pair (.int .i64) .bool)) (· = lastS kind i) := by
  refine ok_of (e_lustrumref03_Last (kind, i) _) rfl ?_
  unfold c_lustrumref03_Last lastS
  have hc := VCal.ucount_pos kind
  refine cond_dec (fun h => by rw [if_neg (by omega)]) fun h0 => callP_eq ok_ref03_Count (cond_dec (fun h => by dsimp only [Shape.Val] at *; rw [if_neg (by omega)]) fun h1 => ?_)
  have h0 : ¬ i < 0 := h0
  have h1 : ¬ VCal.ucount kind ≤ i := h1
  rw [if_pos (by omega)]
  dsimp only
  rw [w64_of (n := i + 1) (by omega)]
  refine callP_eq ok_ref03_First ?_
  unfold firstS
  by_cases hl : i = VCal.ucount kind - 1
  · rw [if_neg (by omega)]
    refine cond_no rfl ?_
    unfold VCal.ulast
    rw [if_pos hl]
  · rw [if_pos (by omega)]
    have hn := VCal.ulast_next (kind := kind) (i := i) (by omega)
    have b := VCal.unit_in (kind := kind) (i := i + 1) (by omega) (by omega)
    refine cond_yes rfl ?_
    dsimp only
    rw [w64_of (n := VCal.ufirst kind (i + 1) - 1) (by omega), show VCal.ufirst kind (i + 1) - 1 = VCal.ulast kind i by omega]

end Go.Proofs.YtocmlcpcnjaaeaaGreatDoor.V


/- Sorting runs: what the program's functions answer. No condition of its own. -/
namespace Go.Proofs.YtocmlcpcnjaaeaaGreatDoor.V
open Go
set_option linter.unusedVariables false
set_option linter.unusedSimpArgs false

/-- What compares runs: where they begin. -/
def G : (PR × PR) → Option Int := fun p => some (cmpS p.1.1 p.2.1)

theorem w_succ {a : Nat} (h : a < 4611686018427387904) : w64 ((a : Int) + 1) = ((a + 1 : Nat) : Int) := by rw [w64_of (by omega)]; omega
theorem w_pred {a : Nat} (h : a < 4611686018427387904) (h1 : 1 ≤ a) : w64 ((a : Int) - 1) = ((a - 1 : Nat) : Int) := by rw [w64_of (by omega)]; omega

theorem w_mul2 {a : Nat} (h : a < 2305843009213693952) : w64 ((2 : Int) * (a : Int)) = ((2 * a : Nat) : Int) := by rw [w64_of (by omega)]; omega

end Go.Proofs.YtocmlcpcnjaaeaaGreatDoor.V


/- Sorting runs, the second part: what the program's functions answer. No condition of its own. -/
namespace Go.Proofs.YtocmlcpcnjaaeaaGreatDoor.V
open Go
set_option linter.unusedVariables false
set_option linter.unusedSimpArgs false

/-! ### The pivot: some place of the part -/

end Go.Proofs.YtocmlcpcnjaaeaaGreatDoor.V


/- Sorting runs, the third part: what the program's functions answer. No condition of its own. -/
namespace Go.Proofs.YtocmlcpcnjaaeaaGreatDoor.V
open Go
set_option linter.unusedVariables false
set_option linter.unusedSimpArgs false

/-! ### The scans of a partition -/

end Go.Proofs.YtocmlcpcnjaaeaaGreatDoor.V


/- Sorting runs, the whole: what the program's functions answer. No condition of its own. -/
namespace Go.Proofs.YtocmlcpcnjaaeaaGreatDoor.V
open Go
set_option linter.unusedVariables false
set_option linter.unusedSimpArgs false

end Go.Proofs.YtocmlcpcnjaaeaaGreatDoor.V


/- What two sets have in common; leaves: what the program's functions answer. No condition of its own. -/
namespace Go.Proofs.YtocmlcpcnjaaeaaGreatDoor.V
open Go
set_option linter.unusedVariables false
set_option linter.unusedSimpArgs false

theorem meet_step1 {x y : Int × Int} {A B : Runs} {a b : Int} (hA : SaneFrom a (x :: A)) (hB : SaneFrom b (y :: B)) (h : x.2 < y.2) (n : Int) : (mem (x :: A) n ∧ mem (y :: B) n) ↔ ((x.1 ≤ n ∧ n ≤ x.2) ∧ (y.1 ≤ n ∧ n ≤ y.2)) ∨ (mem A n ∧ mem (y :: B) n) := by
  constructor
  · rintro ⟨h1, h2⟩
    rcases mem_cons.1 h1 with p | p
    · rcases mem_cons.1 h2 with q | q
      · exact .inl ⟨p, q⟩
      · have := SaneFrom.mem_gt hB.2.2.2 q; omega
    · exact .inr ⟨p, h2⟩
  · rintro (⟨p, q⟩ | ⟨p, q⟩)
    · exact ⟨mem_cons.2 (.inl p), mem_cons.2 (.inl q)⟩
    · exact ⟨mem_cons.2 (.inr p), q⟩

theorem meet_step2 {x y : Int × Int} {A B : Runs} {a b : Int} (hA : SaneFrom a (x :: A)) (hB : SaneFrom b (y :: B)) (h : ¬ x.2 < y.2) (n : Int) : (mem (x :: A) n ∧ mem (y :: B) n) ↔ ((x.1 ≤ n ∧ n ≤ x.2) ∧ (y.1 ≤ n ∧ n ≤ y.2)) ∨ (mem (x :: A) n ∧ mem B n) := by
  constructor
  · rintro ⟨h1, h2⟩
    rcases mem_cons.1 h2 with q | q
    · rcases mem_cons.1 h1 with p | p
      · exact .inl ⟨p, q⟩
      · have := SaneFrom.mem_gt hA.2.2.2 p; omega
    · exact .inr ⟨h1, q⟩
  · rintro (⟨p, q⟩ | ⟨p, q⟩)
    · exact ⟨mem_cons.2 (.inl p), mem_cons.2 (.inl q)⟩
    · exact ⟨p, mem_cons.2 (.inr q)⟩

/-- What two sets have in common. -/
def MeetR (a b out : Runs) : Prop := Sane out ∧ out.length ≤ a.length + b.length ∧ ∀ n, mem out n ↔ mem a n ∧ mem b n

theorem SaneFrom.drop : ∀ {s : Runs} {a : Int} (k : Nat), SaneFrom a s → ∃ b, SaneFrom b (s.drop k)
  | s, a, 0, h => ⟨a, h⟩
  | [], a, k + 1, h => ⟨a, trivial⟩
  | x :: s, a, k + 1, h => SaneFrom.drop k h.2.2.2

theorem ok_sets_Meet_gen {a0 b0 a b : Runs} (hka : FnE bs n_sets_known ((Shape.slice sRun).compsE a0) (.slice sRun) (· = a)) (hkb : FnE bs n_sets_known ((Shape.slice sRun).compsE b0) (.slice sRun) (· = b)) (hla : a.length ≤ 1000000000) (hlb : b.length ≤ 1000000000) (ha : Sane a) (hb : Sane b) :
    FnE bs n_sets_Meet ((Shape.pair (.slice sRun) (.slice sRun)).compsE (a0, b0)) (.slice sRun) (MeetR a b) := by
  refine ok_of (e_sets_Meet (a0, b0) _) rfl ?_
  unfold c_sets_Meet
  refine callP_eq hka (callP_eq hkb ?_)
  refine loopP_of (fun z : Unit × Int × Int × Runs => ∃ i k : Nat, z.2.1 = i ∧ z.2.2.1 = k ∧ i ≤ a.length ∧ k ≤ b.length ∧ z.2.2.2.length ≤ i + k ∧ Sane z.2.2.2 ∧
      (∀ n, (mem a n ∧ mem b n) ↔ mem z.2.2.2 n ∨ (mem (a.drop i) n ∧ mem (b.drop k) n)) ∧ (∀ q ∈ z.2.2.2, ∀ x ∈ a.drop i, ∀ y ∈ b.drop k, q.2 + 2 ≤ max x.1 y.1))
    (fun z => a.length - z.2.1.toNat + (b.length - z.2.2.1.toNat)) ?_ ⟨0, 0, rfl, rfl, Nat.zero_le _, Nat.zero_le _, Nat.le_refl _, trivial, fun n => ⟨fun h => .inr (by simpa using h), fun h => h.elim (fun q => (mem_nil q).elim) fun q => by simpa using q⟩, fun q hq => by cases hq⟩
  intro z A ⟨i, k, e1, e2, hi, hk, hlen, hs, hm, hap⟩ back
  obtain ⟨u, zi, zk, out⟩ := z
  dsimp only at *
  subst e1; subst e2
  have fin : (¬ (i < a.length) ∨ ¬ (k < b.length)) → MeetR a b out := fun h => ⟨hs, by omega, fun n => by
    rw [hm n]
    constructor
    · exact .inl
    · rintro (q | ⟨q1, q2⟩)
      · exact q
      · rcases h with h | h
        · rw [List.drop_eq_nil_of_le (by omega)] at q1; exact (mem_nil q1).elim
        · rw [List.drop_eq_nil_of_le (by omega)] at q2; exact (mem_nil q2).elim⟩
  refine cond_dec (fun h1 => cond_dec (fun h2 => ?_) fun h2 => fin (.inr (by dsimp only [Shape.Val] at *; omega))) fun h1 => fin (.inl (by dsimp only [Shape.Val] at *; omega))
  dsimp only [Shape.Val] at h1 h2
  have hi' : i < a.length := by omega
  have hk' : k < b.length := by omega
  have hga := List.getElem?_eq_getElem hi'
  have hgb := List.getElem?_eq_getElem hk'
  generalize a[i] = x at hga
  generalize b[k] = y at hgb
  have ea := drop_cons hga
  have eb := drop_cons hgb
  obtain ⟨ca, hca⟩ := SaneFrom.drop i ha
  obtain ⟨cb, hcb⟩ := SaneFrom.drop k hb
  rw [ea] at hca
  rw [eb] at hcb
  have bx := Sane.bounds ha x (List.mem_of_getElem? hga)
  have by' := Sane.bounds hb y (List.mem_of_getElem? hgb)
  rw [toNat_ofNat, toNat_ofNat, rd_of (s := sRun) hga, rd_of (s := sRun) hgb]
  have hmax : maxI x.1 y.1 = max x.1 y.1 := by unfold maxI; split <;> omega
  have hmin : minI x.2 y.2 = min x.2 y.2 := by unfold minI; split <;> omega
  rw [hmax, hmin, w64_of (n := (i : Int) + 1) (by omega), w64_of (n := (k : Int) + 1) (by omega)]
  rw [ea, eb] at hm hap
  -- the next state
  have next1 : ∀ out' : Runs, x.2 < y.2 → out'.length ≤ i + k + 1 → Sane out' → (∀ n, mem out' n ↔ mem out n ∨ ((x.1 ≤ n ∧ n ≤ x.2) ∧ (y.1 ≤ n ∧ n ≤ y.2))) → (∀ q ∈ out', q ∈ out ∨ q.2 ≤ x.2) → A ((), (i : Int) + 1, (k : Int), out') := by
    intro out' hlt hl' hs' hm' hq'
    refine back ((), (i : Int) + 1, (k : Int), out') ⟨i + 1, k, by simp, rfl, hi', hk, by dsimp only; omega, hs', fun n => ?_, fun q hq p hp r hr => ?_⟩ (by dsimp only; omega)
    · dsimp only
      rw [hm n, meet_step1 hca hcb hlt n, hm' n, eb]
      constructor
      · rintro (h | h | h)
        · exact .inl (.inl h)
        · exact .inl (.inr h)
        · exact .inr h
      · rintro ((h | h) | h)
        · exact .inl h
        · exact .inr (.inl h)
        · exact .inr (.inr h)
    · dsimp only at hq hp hr
      rw [eb] at hr
      rcases hq' q hq with h | h
      · exact hap q h p (List.mem_cons_of_mem _ hp) r hr
      · have := (SaneFrom.lt hca.2.2.2 p hp).1
        omega
  have next2 : ∀ out' : Runs, ¬ x.2 < y.2 → out'.length ≤ i + k + 1 → Sane out' → (∀ n, mem out' n ↔ mem out n ∨ ((x.1 ≤ n ∧ n ≤ x.2) ∧ (y.1 ≤ n ∧ n ≤ y.2))) → (∀ q ∈ out', q ∈ out ∨ q.2 ≤ y.2) → A ((), (i : Int), (k : Int) + 1, out') := by
    intro out' hlt hl' hs' hm' hq'
    refine back ((), (i : Int), (k : Int) + 1, out') ⟨i, k + 1, rfl, by simp, hi, hk', by dsimp only; omega, hs', fun n => ?_, fun q hq p hp r hr => ?_⟩ (by dsimp only; omega)
    · dsimp only
      rw [hm n, meet_step2 hca hcb hlt n, hm' n, ea]
      constructor
      · rintro (h | h | h)
        · exact .inl (.inl h)
        · exact .inl (.inr h)
        · exact .inr h
      · rintro ((h | h) | h)
        · exact .inl h
        · exact .inr (.inl h)
        · exact .inr (.inr h)
    · dsimp only at hq hp hr
      rw [ea] at hp
      rcases hq' q hq with h | h
      · exact hap q h p hp r (List.mem_cons_of_mem _ hr)
      · have := (SaneFrom.lt hcb.2.2.2 r hr).1
        omega
  refine ⟨⟨by omega, h1⟩, ⟨by omega, h2⟩, ⟨by omega, h1⟩, ⟨by omega, h2⟩, ?_⟩
  refine cond_dec (fun h3 => ⟨?_, ⟨by omega, h1⟩, ⟨by omega, h2⟩, ?_⟩) fun h3 => ⟨⟨by omega, h1⟩, ⟨by omega, h2⟩, ?_⟩
  · simp only [List.length_cons, List.length_nil]
    omega
  · have hs' : Sane (out ++ [(max x.1 y.1, min x.2 y.2)]) := SaneFrom.append hs h3 (by dsimp only; omega) (by dsimp only; unfold Lim at *; omega) fun q hq => hap q hq x (List.mem_cons_self ..) y (List.mem_cons_self ..)
    have hm' : ∀ n, mem (out ++ [(max x.1 y.1, min x.2 y.2)]) n ↔ mem out n ∨ ((x.1 ≤ n ∧ n ≤ x.2) ∧ (y.1 ≤ n ∧ n ≤ y.2)) := fun n => by
      rw [mem_append, mem_cons]
      constructor
      · rintro (h | h | h)
        · exact .inl h
        · exact .inr (by dsimp only at h; omega)
        · exact (mem_nil h).elim
      · rintro (h | h)
        · exact .inl h
        · exact .inr (.inl (by dsimp only; omega))
    have hq' : ∀ q ∈ out ++ [(max x.1 y.1, min x.2 y.2)], q ∈ out ∨ (q.2 ≤ x.2 ∧ q.2 ≤ y.2) := fun q hq => by
      rcases List.mem_append.1 hq with h | h
      · exact .inl h
      · rw [List.mem_singleton] at h; subst h; exact .inr (by dsimp only; omega)
    have hl' : (out ++ [(max x.1 y.1, min x.2 y.2)]).length ≤ i + k + 1 := by simp; omega
    exact cond_dec (fun h4 => next1 _ h4 hl' hs' hm' fun q hq => (hq' q hq).imp id (·.1)) fun h4 => next2 _ h4 hl' hs' hm' fun q hq => (hq' q hq).imp id (·.2)
  · have hm' : ∀ n, mem out n ↔ mem out n ∨ ((x.1 ≤ n ∧ n ≤ x.2) ∧ (y.1 ≤ n ∧ n ≤ y.2)) := fun n => ⟨.inl, fun h => h.elim id fun q => by omega⟩
    exact cond_dec (fun h4 => next1 _ h4 (by omega) hs hm' fun q hq => .inl hq) fun h4 => next2 _ h4 (by omega) hs hm' fun q hq => .inl hq

theorem ok_sets_Meet {a b : Runs} (hla : a.length ≤ 1000000000) (hlb : b.length ≤ 1000000000) (ha : Sane a) (hb : Sane b) : FnE bs n_sets_Meet ((Shape.pair (.slice sRun) (.slice sRun)).compsE (a, b)) (.slice sRun) (MeetR a b) :=
  ok_sets_Meet_gen (ok_sets_known hla ha) (ok_sets_known hlb hb) hla hlb ha hb
end Go.Proofs.YtocmlcpcnjaaeaaGreatDoor.V


/- Leaves: what the program's functions answer. No condition of its own. -/
namespace Go.Proofs.YtocmlcpcnjaaeaaGreatDoor.V
open Go
set_option linter.unusedVariables false
set_option linter.unusedSimpArgs false

theorem ok_sets_Clip {s : Runs} {lo hi : Int} (hl : s.length ≤ 1000000000) (h : Sane s) (hb : -Lim ≤ lo ∧ lo ≤ hi ∧ hi ≤ Lim) : FnE bs n_sets_Clip ((Shape.pair (.slice sRun) (.pair (.int .i64) (.int .i64))).compsE (s, lo, hi)) (.slice sRun) (· = clipF s lo hi) := by
  refine ok_of (e_sets_Clip (s, lo, hi) _) rfl ?_
  unfold c_sets_Clip
  have hs : Sane [(lo, hi)] := ⟨hb.2.1, by unfold Lim at hb; dsimp only; omega, hb.2.2, trivial⟩
  refine callP_of (ok_sets_Meet (a := s) (b := [(lo, hi)]) hl (by simp) h hs) fun r hr => ?_
  refine sane_ext hr.1 (sane_clip h) fun n => ?_
  rw [hr.2.2 n, mem_clip, mem_cons]
  constructor
  · rintro ⟨h1, h2 | h2⟩
    · exact ⟨h1, h2⟩
    · exact (mem_nil h2).elim
  · rintro ⟨h1, h2⟩; exact ⟨h1, .inl h2⟩

theorem rd_lo {s : Runs} (h : s ≠ []) : (rd sRun s (0 : Int).toNat).1 = loF s := by
  obtain ⟨r, h1, h2⟩ := loF_get h
  rw [show ((0 : Int).toNat) = 0 from rfl, rd_of (s := sRun) h1, h2]

theorem rd_hi {s : Runs} (h : s ≠ []) (hl : s.length ≤ 1000000000) : (rd sRun s (w64 ((s.length : Int) - 1)).toNat).2 = hiF s := by
  obtain ⟨r, h1, h2⟩ := hiF_get h
  have hp := List.length_pos_iff.2 h
  rw [w64_of (n := (s.length : Int) - 1) (by omega), show ((s.length : Int) - 1).toNat = s.length - 1 by omega, rd_of (s := sRun) h1, h2]

theorem last_in {s : Runs} (h : s ≠ []) (hl : s.length ≤ 1000000000) : (0 : Int) ≤ w64 ((s.length : Int) - 1) ∧ w64 ((s.length : Int) - 1) < (s.length : Int) := by
  have hp := List.length_pos_iff.2 h
  rw [w64_of (n := (s.length : Int) - 1) (by omega)]
  omega

theorem first_in {s : Runs} (h : s ≠ []) : (0 : Int) ≤ 0 ∧ (0 : Int) < (s.length : Int) := by
  have hp := List.length_pos_iff.2 h
  omega

theorem len_zero {s : Runs} : ((s.length : Int) = 0) ↔ s = [] := by
  rw [← List.length_eq_zero_iff]; omega

theorem ok_leaf_within {s : Runs} {m : Int} (hl : s.length ≤ 1000000000) : FnE bs n_leaf_within ((Shape.pair (.slice sRun) (.int .i64)).compsE (s, m)) .bool (· = decide (Within s m)) := by
  refine ok_of (e_leaf_within (s, m) _) rfl ?_
  unfold c_leaf_within Within
  refine callP_eq (ok_runs_Sane hl) (cond_dec (fun h => cond_dec (fun h2 => ?_) fun h2 => ?_) fun h => ?_)
  · have h2 : s = [] := len_zero.1 h2
    have h : Sane s := h
    exact be (decide_eq_true ⟨h, .inl h2⟩).symm
  · have h2 : ¬ s = [] := fun e => h2 (len_zero.2 e)
    refine ⟨first_in h2, ?_⟩
    dsimp only
    rw [rd_lo h2, rd_hi h2 hl]
    refine cond_dec (fun h3 => ⟨last_in h2 hl, be ?_⟩) fun h3 => be ?_
    · have h3 : 0 ≤ loF s := h3
      simp [h, h2, h3]
    · have h3 : ¬ 0 ≤ loF s := h3
      simp [h2, h3]
  · exact be (by simp [h])

theorem ok_leaf_Sane {f : Leaf} (hla : f.2.2.1.length ≤ 1000000000) (hlb : f.2.2.2.length ≤ 1000000000) : FnE bs n_leaf_Sane (sApiLeaf.compsE f) .bool (· = decide (LeafSane f)) := by
  obtain ⟨sp, u, a, b⟩ := f
  dsimp only at hla hlb
  refine ok_of (e_leaf_Sane (sp, u, a, b) _) rfl ?_
  unfold c_leaf_Sane LeafSane
  dsimp only
  cases sp
  · refine cond_no rfl (cond_dec (fun h1 => cond_dec (fun h2 => callP_eq ok_unit_Count ?_) fun h2 => be ?_) fun h1 => be ?_)
    · have := VCal.ucount_pos u
      rw [w64_of (by omega)]
      refine callP_eq (ok_leaf_within hla) (cond_dec (fun h3 => be ?_) fun h3 => be ?_)
      · have h1 : 0 ≤ u := h1
        have h2 : u ≤ 5 := h2
        refine decide_eq_decide.2 ⟨fun q => ?_, fun q => ?_⟩
        · rw [if_neg (by decide)]; exact ⟨⟨h1, h2⟩, h3, len_zero.1 q⟩
        · rw [if_neg (by decide)] at q; exact len_zero.2 q.2.2
      · simp [h3]
    · have h2 : ¬ u ≤ 5 := h2
      simp [h2]
    · have h1 : ¬ 0 ≤ u := h1
      simp [h1]
  · refine cond_yes rfl (cond_dec (fun h1 => callP_eq (ok_leaf_within hla) (cond_dec (fun h2 => callP_eq (ok_leaf_within hlb) (be ?_)) fun h2 => be ?_)) fun h1 => be ?_)
    · have h1 : u = 0 := h1
      simp [h1, h2]
    · simp [h2]
    · have h1 : ¬ u = 0 := h1
      simp [h1]

theorem ok_leaf_of {f : Leaf} (hla : f.2.2.1.length ≤ 1000000000) (hlb : f.2.2.2.length ≤ 1000000000) : FnE bs n_leaf_of (sApiLeaf.compsE f) sLeafFamily (· = ofF f) := by
  obtain ⟨sp, u, a, b⟩ := f
  dsimp only at hla hlb
  refine ok_of (e_leaf_of (sp, u, a, b) _) rfl ?_
  unfold c_leaf_of ofF
  dsimp only
  refine callP_eq (ok_leaf_Sane (f := (sp, u, a, b)) hla hlb) (cond_not (fun h => ?_) fun h => cond_dec (fun h1 => ?_) fun h1 => ?_)
  · rw [if_pos (.inl (by simpa using h))]
  · rw [if_pos (.inr (len_zero.1 h1))]
  · have h : LeafSane (sp, u, a, b) := by simpa using h
    have h1 : ¬ a = [] := fun e => h1 (len_zero.2 e)
    rw [if_neg (by simp [h, h1])]
    cases sp
    · exact cond_yes rfl (by rw [if_pos rfl])
    · refine cond_no rfl (cond_dec (fun h2 => ?_) fun h2 => ⟨first_in h1, ?_⟩)
      · rw [if_neg (by simp), if_pos (.inl (len_zero.1 h2))]
      · have h2 : ¬ b = [] := fun e => h2 (len_zero.2 e)
        have hs := h
        unfold LeafSane at hs
        dsimp only at hs
        rw [if_pos rfl] at hs
        refine ⟨last_in h2 hlb, ?_⟩
        rw [rd_lo h1, rd_hi h2 hlb]
        refine cond_dec (fun h3 => ?_) fun h3 => ⟨last_in h2 hlb, first_in h1, ?_⟩
        · have h3 : hiF b < loF a := h3
          rw [if_neg (by simp), if_pos (.inr h3)]
        · have h3 : ¬ hiF b < loF a := h3
          have b1 := Within.bounds hs.2.1 (mem_lo hs.2.1.1 h1)
          have b2 := Within.bounds hs.2.2 (mem_hi hs.2.2.1 h2)
          refine callP_eq (ok_sets_Clip hla hs.2.1.1 (by unfold Lim; omega)) (callP_eq (ok_sets_Clip hlb hs.2.2.1 (by unfold Lim; omega)) ?_)
          rw [if_neg (by simp), if_neg (by simp [h2, h3])]

/-- A leaf without what is in no pair. -/
def tidyF (f : Leaf) : Leaf := match ofF f with
  | none => (false, 0, [], [])
  | some (.inl (u, s)) => (false, u, s, [])
  | some (.inr (a, b)) => (true, 0, a, b)

theorem ok_leaf_Tidy {f : Leaf} (hla : f.2.2.1.length ≤ 1000000000) (hlb : f.2.2.2.length ≤ 1000000000) : FnE bs n_leaf_Tidy (sApiLeaf.compsE f) sApiLeaf (· = tidyF f) := by
  obtain ⟨sp, u, a, b⟩ := f
  refine ok_of (e_leaf_Tidy (sp, u, a, b) _) rfl ?_
  unfold c_leaf_Tidy tidyF
  refine callP_eq (ok_leaf_of hla hlb) ?_
  dsimp only
  generalize ofF (sp, u, a, b) = x
  rcases x with _ | ⟨y⟩ | ⟨y⟩ <;> rfl

end Go.Proofs.YtocmlcpcnjaaeaaGreatDoor.V


/- Leaves' pairs: what the program's functions answer. No condition of its own. -/
namespace Go.Proofs.YtocmlcpcnjaaeaaGreatDoor.V
open Go
set_option linter.unusedVariables false
set_option linter.unusedSimpArgs false

end Go.Proofs.YtocmlcpcnjaaeaaGreatDoor.V


/- Sets as runs, of whatever runs: what the program's functions answer. No condition of its own. -/
namespace Go.Proofs.YtocmlcpcnjaaeaaGreatDoor.V
open Go
set_option linter.unusedVariables false
set_option linter.unusedSimpArgs false

theorem max_max (a b : Int) : maxI a b = max a b := by unfold maxI; split <;> omega
theorem min_min (a b : Int) : minI a b = min a b := by unfold minI; split <;> omega

section
variable {s a b : Runs} {n lo hi : Int}

end
end Go.Proofs.YtocmlcpcnjaaeaaGreatDoor.V


/- The document's answer for sets: what its functions answer. No condition of its own. -/
namespace Go.Proofs.YtocmlcpcnjaaeaaGreatDoor.V
open Go
set_option linter.unusedVariables false
set_option linter.unusedSimpArgs false

theorem saneFrom_take : ∀ {s : Runs} {a : Int}, SaneFrom a s ↔ ∀ (k : Nat) r, s[k]? = some r → r.1 ≤ r.2 ∧ r.2 ≤ Lim ∧ (k = 0 → a + 2 ≤ r.1) ∧ ∀ q, 1 ≤ k → s[k - 1]? = some q → q.2 + 2 ≤ r.1
  | [], a => ⟨fun _ k r h => by simp at h, fun _ => trivial⟩
  | x :: s, a => by
    constructor
    · intro h k r hk
      cases k with
      | zero => simp at hk; subst hk; exact ⟨h.1, h.2.2.1, fun _ => h.2.1, fun q h1 => by omega⟩
      | succ k =>
        have hk' : s[k]? = some r := by simpa using hk
        have := (saneFrom_take.1 h.2.2.2) k r hk'
        refine ⟨this.1, this.2.1, fun e => by omega, fun q _ hq => ?_⟩
        cases k with
        | zero => simp at hq; subst hq; exact this.2.2.1 rfl
        | succ k => exact this.2.2.2 q (by omega) (by simpa using hq)
    · intro h
      have h0 := h 0 x rfl
      refine ⟨h0.1, h0.2.2.1 rfl, h0.2.1, saneFrom_take.2 fun k r hk => ?_⟩
      have := h (k + 1) r (by simpa using hk)
      refine ⟨this.1, this.2.1, fun e => ?_, fun q hk1 hq => ?_⟩
      · subst e; exact this.2.2.2 x (by omega) rfl
      · obtain ⟨j, rfl⟩ : ∃ j, k = j + 1 := ⟨k - 1, by omega⟩
        exact this.2.2.2 q (by omega) (by simpa using hq)

theorem ok_ref04_Sane {s : Runs} (hl : s.length ≤ 1000000000) : FnE bs n_lustrumref04_Sane ((Shape.slice sRun).compsE s) .bool (· = decide (Sane s)) := by
  refine ok_of (e_lustrumref04_Sane s _) rfl ?_
  unfold c_lustrumref04_Sane
  have hS : Sane s ↔ _ := saneFrom_take
  refine loopP_of (fun z : Int => ∃ k : Nat, z = k ∧ k ≤ s.length ∧ ∀ (i : Nat) r, i < k → s[i]? = some r → r.1 ≤ r.2 ∧ -Lim ≤ r.1 ∧ r.2 ≤ Lim ∧ ∀ q, 1 ≤ i → s[i - 1]? = some q → q.2 + 2 ≤ r.1) (fun z => s.length - z.toNat) ?_ ⟨0, rfl, Nat.zero_le _, fun i r h => by omega⟩
  rintro _ A ⟨k, rfl, hk, hi⟩ back
  refine cond_dec (fun h1 => ?_) fun h1 => ?_
  · have h1 : (k : Int) < s.length := h1
    have hk' : k < s.length := by omega
    have hg := List.getElem?_eq_getElem hk'
    generalize s[k] = r at hg
    rw [toNat_ofNat, rd_of (s := sRun) hg, w64_of (n := (k : Int) + 1) (by omega)]
    have no : ∀ {P : Prop}, (Sane s → P) → ¬ P → (false : Bool) = decide (Sane s) := fun h q => (decide_eq_false fun hs => q (h hs)).symm
    refine ⟨⟨by omega, h1⟩, ⟨by omega, h1⟩, cond_dec (fun h2 => be (no (P := r.1 ≤ r.2) (fun hs => (Sane.bounds hs r (List.mem_of_getElem? hg)).2.1) (by have h2 : r.2 < r.1 := h2; omega))) fun h2 => ⟨⟨by omega, h1⟩, cond_dec (fun h3 => be (no (P := -Lim ≤ r.1) (fun hs => (Sane.bounds hs r (List.mem_of_getElem? hg)).1) (by have h3 : r.1 < -1099511627776 := h3; unfold Lim; omega))) fun h3 => ⟨⟨by omega, h1⟩, cond_dec (fun h4 => be (no (P := r.2 ≤ Lim) (fun hs => (Sane.bounds hs r (List.mem_of_getElem? hg)).2.2) (by have h4 : 1099511627776 < r.2 := h4; unfold Lim; omega))) fun h4 => cond_dec (fun h5 => ?_) fun h5 => ?_⟩⟩⟩
    · have h2 : ¬ r.2 < r.1 := h2
      have h3 : ¬ r.1 < -1099511627776 := h3
      have h4 : ¬ 1099511627776 < r.2 := h4
      have h5 : (0 : Int) < k := h5
      rw [w_pred (by omega) (by omega), toNat_ofNat, w64_of (n := r.1 - 1) (by omega)]
      have hk2 : k - 1 < s.length := by omega
      have hg2 := List.getElem?_eq_getElem hk2
      generalize s[k - 1] = q at hg2
      rw [rd_of (s := sRun) hg2]
      refine ⟨⟨by omega, h1⟩, ⟨by omega, by omega⟩, cond_dec (fun h6 => be (no (P := q.2 + 2 ≤ r.1) (fun hs => SaneFrom.get hs (k - 1) k q r hg2 hg (by omega)) (by have h6 : r.1 - 1 ≤ q.2 := h6; omega))) fun h6 => ?_⟩
      have h6 : ¬ r.1 - 1 ≤ q.2 := h6
      refine back _ ⟨k + 1, by simp, hk', fun i p hik hp => ?_⟩ (by omega)
      by_cases e : i = k
      · subst e
        rw [hg] at hp; cases hp
        exact ⟨by omega, by unfold Lim; omega, by unfold Lim; omega, fun p hp1 hp2 => by rw [hg2] at hp2; cases hp2; omega⟩
      · exact hi i p (by omega) hp
    · have h2 : ¬ r.2 < r.1 := h2
      have h3 : ¬ r.1 < -1099511627776 := h3
      have h4 : ¬ 1099511627776 < r.2 := h4
      have h5 : ¬ (0 : Int) < k := h5
      have : k = 0 := by omega
      subst this
      refine back _ ⟨1, by simp, hk', fun i p hik hp => ?_⟩ (by omega)
      have : i = 0 := by omega
      subst this
      rw [hg] at hp; cases hp
      exact ⟨by omega, by unfold Lim; omega, by unfold Lim; omega, fun p hp1 => by omega⟩
  · refine be (decide_eq_true (hS.2 fun i r hr => ?_)).symm
    have hil := (List.getElem?_eq_some_iff.1 hr).1
    have := hi i r (by have h1 : ¬ (k : Int) < s.length := h1; omega) hr
    exact ⟨this.1, this.2.2.1, fun _ => by unfold Lim at this; omega, this.2.2.2⟩

theorem ok_ref04_put {s : Runs} {r : Int × Int} (hl : s.length ≤ 1000000) (h : Sane s) : FnE bs n_lustrumref04_put ((Shape.pair (.slice sRun) sRun).compsE (s, r)) (.slice sRun) (· = putF s r) := by
  refine ok_of (e_lustrumref04_put (s, r) _) rfl ?_
  unfold c_lustrumref04_put
  dsimp only
  rw [max_max, min_min]
  have hc : clampR r = (max r.1 (-1099511627776), min r.2 1099511627776) := rfl
  refine cond_dec (fun h1 => ?_) fun h1 => ?_
  · show s = putF s r
    have h1 : min r.2 1099511627776 < max r.1 (-1099511627776) := h1
    unfold putF
    rw [hc, if_neg (by dsimp only; omega)]
  · have h1 : ¬ min r.2 1099511627776 < max r.1 (-1099511627776) := h1
    have hput : putF s r = putS s (max r.1 (-1099511627776), min r.2 1099511627776) := by unfold putF; rw [hc, if_pos (by dsimp only; omega)]
    rw [hput]
    generalize hx : (max r.1 (-1099511627776), min r.2 1099511627776) = x0
    have hx1 : max r.1 (-1099511627776) = x0.1 := by rw [← hx]
    have hx2 : min r.2 1099511627776 = x0.2 := by rw [← hx]
    rw [hx1, hx2] at h1
    have hb0 : -Lim ≤ x0.1 ∧ x0.2 ≤ Lim := by rw [← hx1, ← hx2]; unfold Lim; omega
    -- those ahead; then what is still to be looked at, unless some are behind
    refine loopP_of (fun z : Unit × Unit × Int × (Int × Int) × Runs × Runs => ∃ k : Nat, z.2.2.1 = k ∧ k ≤ s.length ∧ z.2.2.2.2.1.length ≤ k ∧ z.2.2.2.2.2.length ≤ k ∧ -Lim ≤ z.2.2.2.1.1 ∧ z.2.2.2.1.1 ≤ z.2.2.2.1.2 ∧ z.2.2.2.1.2 ≤ Lim ∧
        ((z.2.2.2.2.2 = [] ∧ putS s x0 = z.2.2.2.2.1 ++ putS (s.drop k) z.2.2.2.1) ∨ (z.2.2.2.2.2 ≠ [] ∧ putS s x0 = z.2.2.2.2.1 ++ z.2.2.2.1 :: (z.2.2.2.2.2 ++ s.drop k) ∧ ∀ q ∈ s.drop k, z.2.2.2.1.2 + 1 < q.1))) (fun z => s.length - z.2.2.1.toNat) ?_ ⟨0, rfl, Nat.zero_le _, Nat.zero_le _, Nat.zero_le _, hb0.1, by dsimp only; omega, hb0.2, .inl ⟨rfl, rfl⟩⟩
    rintro ⟨_, _, _, x, be', af⟩ A ⟨k, e1, hk, hlb, hla, b1, b2, b3, hcase⟩ back
    dsimp only at e1 hlb hla b1 b2 b3 hcase ⊢
    subst e1
    unfold Lim at b1 b3
    refine cond_dec (fun h2 => ?_) fun h2 => ?_
    · have h2 : (k : Int) < s.length := h2
      have hk' : k < s.length := by omega
      have hg := List.getElem?_eq_getElem hk'
      generalize s[k] = q at hg
      have hq := Sane.bounds h q (List.mem_of_getElem? hg)
      unfold Lim at hq
      have ed := drop_cons hg
      rw [toNat_ofNat, rd_of (s := sRun) hg, w64_of (n := x.1 - 1) (by omega), w64_of (n := x.2 + 1) (by omega), w_succ (by omega)]
      have hafter : ∀ p ∈ s.drop (k + 1), q.2 + 2 ≤ p.1 := fun p hp => by
        obtain ⟨c, hcc⟩ := SaneFrom.drop k h
        rw [ed] at hcc
        exact (SaneFrom.lt hcc.2.2.2 p hp).1
      refine ⟨⟨by omega, h2⟩, cond_dec (fun h3 => ⟨⟨by omega, h2⟩, ?_, ?_⟩) fun h3 => ⟨⟨by omega, h2⟩, cond_dec (fun h4 => ⟨⟨by omega, h2⟩, ?_, ?_⟩) fun h4 => ⟨⟨by omega, h2⟩, ⟨by omega, h2⟩, ?_⟩⟩⟩
      · simp only [List.length_cons, List.length_nil]; omega
      · have h3 : q.2 < x.1 - 1 := h3
        refine back ((), (), ((k + 1 : Nat) : Int), x, be' ++ [q], af) ⟨k + 1, rfl, hk', by simp; omega, by dsimp only; omega, b1, b2, b3, ?_⟩ (by dsimp only; omega)
        dsimp only
        rcases hcase with ⟨c1, c2⟩ | ⟨c1, c2, c3⟩
        · refine .inl ⟨c1, ?_⟩
          rw [c2, ed]
          conv => lhs; unfold putS
          rw [if_pos (by omega)]
          simp
        · have := c3 q (by rw [ed]; exact List.mem_cons_self ..)
          omega
      · simp only [List.length_cons, List.length_nil]; omega
      · have h3 : ¬ q.2 < x.1 - 1 := h3
        have h4 : x.2 + 1 < q.1 := h4
        refine back ((), (), ((k + 1 : Nat) : Int), x, be', af ++ [q]) ⟨k + 1, rfl, hk', by dsimp only; omega, by simp; omega, b1, b2, b3, .inr ⟨by simp, ?_, fun p hp => ?_⟩⟩ (by dsimp only; omega) <;> dsimp only at *
        · rcases hcase with ⟨c1, c2⟩ | ⟨c1, c2, c3⟩
          · rw [c2, ed, c1]
            conv => lhs; unfold putS
            rw [if_neg (by omega), if_pos h4]
            simp
          · rw [c2, ed]
            simp
        · have := hafter p hp; omega
      · have h3 : ¬ q.2 < x.1 - 1 := h3
        have h4 : ¬ x.2 + 1 < q.1 := h4
        rw [max_max, min_min]
        refine back ((), (), ((k + 1 : Nat) : Int), (min x.1 q.1, max x.2 q.2), be', af) ⟨k + 1, rfl, hk', by dsimp only; omega, by dsimp only; omega, by unfold Lim; dsimp only; omega, by dsimp only; omega, by unfold Lim; dsimp only; omega, ?_⟩ (by dsimp only; omega)
        dsimp only
        rcases hcase with ⟨c1, c2⟩ | ⟨c1, c2, c3⟩
        · refine .inl ⟨c1, ?_⟩
          rw [c2, ed]
          conv => lhs; unfold putS
          rw [if_neg (by omega), if_neg h4]
        · have := c3 q (by rw [ed]; exact List.mem_cons_self ..)
          omega
    · have hkl : k = s.length := by have h2 : ¬ (k : Int) < s.length := h2; omega
      subst hkl
      rw [List.drop_length] at hcase
      refine ⟨?_, ?_, ?_⟩
      · simp only [List.length_cons, List.length_nil]; omega
      · simp only [List.length_append, List.length_cons, List.length_nil]; omega
      · show (be' ++ [(x.1, x.2)]) ++ af = putS s x0
        rcases hcase with ⟨c1, c2⟩ | ⟨c1, c2, c3⟩
        · rw [c2, c1]; simp [putS]
        · rw [c2]; simp

theorem ok_ref04_Make {l : Runs} (hl : l.length ≤ 100000) : FnE bs n_lustrumref04_Make ((Shape.slice sRun).compsE l) (.slice sRun) (· = makeF l) := by
  refine ok_of (e_lustrumref04_Make l _) rfl ?_
  unfold c_lustrumref04_Make
  refine loopP_of (fun z : Runs × Int => ∃ k : Nat, z.2 = k ∧ k ≤ l.length ∧ z.1 = makeF (l.take k)) (fun z => l.length - z.2.toNat) ?_ ⟨0, rfl, Nat.zero_le _, rfl⟩
  rintro ⟨_, _⟩ A ⟨k, e1, hk, e2⟩ back
  dsimp only at e1 e2 ⊢
  subst e1
  subst e2
  refine cond_dec (fun h1 => ⟨⟨by omega, h1⟩, ?_⟩) fun h1 => ?_
  · have h1 : (k : Int) < l.length := h1
    have hk' : k < l.length := by omega
    have hg := List.getElem?_eq_getElem hk'
    generalize l[k] = q at hg
    rw [toNat_ofNat, rd_of (s := sRun) hg, w_succ (by omega)]
    have hml := make_length (l.take k)
    rw [List.length_take] at hml
    refine callP_eq (ok_ref04_put (by omega) (make_sane _)) (back _ ⟨k + 1, rfl, hk', ?_⟩ (by dsimp only; omega))
    dsimp only
    rw [List.take_add_one, hg, Option.toList_some]
    unfold makeF
    rw [List.foldl_append]
    rfl
  · rw [List.take_of_length_le (by have h1 : ¬ (k : Int) < l.length := h1; omega)]

theorem ok_ref04_As {s : Runs} (hl : s.length ≤ 100000) : FnE bs n_lustrumref04_As ((Shape.slice sRun).compsE s) (.slice sRun) (· = makeF s) := by
  refine ok_of (e_lustrumref04_As s _) rfl ?_
  unfold c_lustrumref04_As
  exact callP_eq (ok_ref04_Sane (by omega)) (cond_dec (fun h => (make_self h).symm) fun h => callP_eq (ok_ref04_Make hl) rfl)

/-! ### What two sets have in common -/

def meetF (a b : Runs) : Runs := a.flatMap fun x => clipF b x.1 x.2

theorem mem_meet {a b : Runs} {n : Int} : mem (meetF a b) n ↔ mem a n ∧ mem b n := by
  unfold meetF
  constructor
  · rintro ⟨q, hq, h1, h2⟩
    obtain ⟨x, hx, hqx⟩ := List.mem_flatMap.1 hq
    have := (mem_clip (s := b) (lo := x.1) (hi := x.2) (n := n)).1 ⟨q, hqx, h1, h2⟩
    exact ⟨⟨x, hx, this.2⟩, this.1⟩
  · rintro ⟨⟨x, hx, h1, h2⟩, hb⟩
    obtain ⟨q, hq, h3⟩ := (mem_clip (s := b) (lo := x.1) (hi := x.2) (n := n)).2 ⟨hb, h1, h2⟩
    exact ⟨q, List.mem_flatMap.2 ⟨x, hx, hq⟩, h3⟩

theorem saneFrom_append : ∀ {s t : Runs} {a b : Int}, SaneFrom a s → SaneFrom b t → a ≤ b → (∀ q ∈ s, q.2 ≤ b) → SaneFrom a (s ++ t)
  | [], t, a, b, _, h, hab, _ => h.mono hab
  | x :: s, t, a, b, hs, h, hab, hq => ⟨hs.1, hs.2.1, hs.2.2.1, saneFrom_append hs.2.2.2 h (hq x (List.mem_cons_self ..)) fun q hqs => hq q (List.mem_cons_of_mem _ hqs)⟩

theorem clip_in {s : Runs} {lo hi : Int} : ∀ q ∈ clipF s lo hi, lo ≤ q.1 ∧ q.2 ≤ hi := by
  intro q hq
  obtain ⟨r, _, e⟩ := List.mem_filterMap.1 hq
  split at e
  · cases e; dsimp only; omega
  · cases e

theorem clip_from2 {s : Runs} {b a lo hi : Int} (h : SaneFrom b s) (hlo : a + 2 ≤ lo) : SaneFrom a (clipF s lo hi) := by
  rcases Int.lt_or_le b a with hba | hba
  · have h1 := clip_from (b := b) (lo := lo) (hi := hi) h (Int.le_refl _)
    have h2 := fun q (hq : q ∈ clipF s lo hi) => (clip_in q hq).1
    cases he : clipF s lo hi with
    | nil => trivial
    | cons x t =>
      rw [he] at h1 h2
      exact ⟨h1.1, by have := h2 x (List.mem_cons_self ..); omega, h1.2.2.1, h1.2.2.2⟩
  · exact clip_from h hba

theorem meet_from {b : Runs} (hb : Sane b) : ∀ {s : Runs} {a : Int}, SaneFrom a s → SaneFrom a (meetF s b)
  | [], _, _ => trivial
  | x :: s, a, h => by
    unfold meetF
    rw [List.flatMap_cons]
    refine saneFrom_append (clip_from2 hb h.2.1) (meet_from hb h.2.2.2) (by have := h.1; have := h.2.1; omega) fun q hq => (clip_in q hq).2

theorem meet_sane {a b : Runs} (ha : Sane a) (hb : Sane b) : Sane (meetF a b) := meet_from hb ha

/-- Within bounds is what it has in common with one run. -/
theorem meet_clip {s : Runs} {lo hi : Int} (hs : Sane s) : meetF s (makeF [(lo, hi)]) = clipF s lo hi := by
  refine sane_ext (meet_sane hs (make_sane _)) (sane_clip hs) fun n => ?_
  rw [mem_meet, mem_make, mem_clip]
  unfold memL
  rw [mem_cons]
  constructor
  · rintro ⟨h1, h2, h3, h4 | h4⟩
    · exact ⟨h1, h4⟩
    · exact (mem_nil h4).elim
  · rintro ⟨h1, h2⟩
    have := mem_lim hs h1
    exact ⟨h1, this.1, this.2, .inl h2⟩

theorem ok_ref05_Meet {a b : Runs} (hla : a.length ≤ 1000) (hlb : b.length ≤ 1000) : FnE bs n_lustrumref05_Meet ((Shape.pair (.slice sRun) (.slice sRun)).compsE (a, b)) (.slice sRun) (· = meetF (makeF a) (makeF b)) := by
  refine ok_of (e_lustrumref05_Meet (a, b) _) rfl ?_
  unfold c_lustrumref05_Meet
  have la := make_length a
  have lb := make_length b
  refine callP_eq (ok_ref04_As (by dsimp only; omega)) (callP_eq (ok_ref04_As (by dsimp only; omega)) ?_)
  generalize makeF a = p at la
  generalize makeF b = q at lb
  have hcl : ∀ lo hi, (clipF q lo hi).length ≤ 1000 := fun lo hi => Nat.le_trans (clip_length _ _ _) (by omega)
  have hml : ∀ k, (meetF (p.take k) q).length ≤ k * 1000 := by
    intro k
    induction k with
    | zero => simp [meetF]
    | succ k ih =>
      rcases Nat.lt_or_ge k p.length with e | e
      · rw [List.take_add_one, List.getElem?_eq_getElem e, Option.toList_some]
        unfold meetF at *
        rw [List.flatMap_append, List.length_append, List.flatMap_cons, List.flatMap_nil, List.append_nil]
        have := hcl p[k].1 p[k].2
        omega
      · rw [List.take_of_length_le (i := k + 1) (by omega)]
        rw [List.take_of_length_le (i := k) e] at ih
        exact Nat.le_trans ih (Nat.mul_le_mul_right _ (Nat.le_succ k))
  refine loopP_of (fun z : Unit × Int × Runs => ∃ k : Nat, z.2.1 = k ∧ k ≤ p.length ∧ z.2.2 = meetF (p.take k) q) (fun z => p.length - z.2.1.toNat) ?_ ⟨0, rfl, Nat.zero_le _, rfl⟩
  rintro ⟨u, _, _⟩ A ⟨k, e1, hk, e2⟩ back
  dsimp only at e1 e2 ⊢
  subst e1
  subst e2
  refine cond_dec (fun h1 => ?_) fun h1 => ?_
  · have h1 : (k : Int) < p.length := h1
    have hk' : k < p.length := by omega
    have hg := List.getElem?_eq_getElem hk'
    generalize p[k] = x at hg
    rw [toNat_ofNat, rd_of (s := sRun) hg, w_succ (by omega)]
    refine loopP_of (fun z : Unit × Int × Runs => ∃ j : Nat, z.2.1 = j ∧ j ≤ q.length ∧ z.2.2 = meetF (p.take k) q ++ clipF (q.take j) x.1 x.2) (fun z => q.length - z.2.1.toNat) ?_ ⟨0, rfl, Nat.zero_le _, by simp [clipF]⟩
    rintro ⟨u, _, _⟩ A2 ⟨j, e1, hj, e2⟩ back2
    dsimp only at e1 e2 ⊢
    subst e1
    subst e2
    refine cond_dec (fun h2 => ?_) fun h2 => ?_
    · have h2 : (j : Int) < q.length := h2
      have hj' : j < q.length := by omega
      have hg2 := List.getElem?_eq_getElem hj'
      generalize q[j] = y at hg2
      rw [toNat_ofNat, rd_of (s := sRun) hg2, w_succ (by omega), max_max, min_min]
      have step : ∀ t : Runs, t = clipF [y] x.1 x.2 → A2 ((), ((j + 1 : Nat) : Int), (meetF (p.take k) q ++ clipF (q.take j) x.1 x.2) ++ t) := fun t ht => by
        refine back2 ((), ((j + 1 : Nat) : Int), _) ⟨j + 1, rfl, hj', ?_⟩ (by dsimp only; omega)
        dsimp only
        rw [ht, List.append_assoc, List.take_add_one, hg2, Option.toList_some]
        unfold clipF
        rw [List.filterMap_append]
      have hs1 : (clipF (q.take j) x.1 x.2).length ≤ 1000 := Nat.le_trans (clip_length _ _ _) (by rw [List.length_take]; omega)
      have hs2 := hml k
      refine ⟨⟨by omega, h1⟩, ⟨by omega, h2⟩, ⟨by omega, h1⟩, ⟨by omega, h2⟩, cond_dec (fun h3 => ⟨⟨by omega, h1⟩, ⟨by omega, h2⟩, ⟨by omega, h1⟩, ⟨by omega, h2⟩, ?_, ?_⟩) fun h3 => ?_⟩
      · have : k * 1000 ≤ 1000 * 1000 := Nat.mul_le_mul_right _ (by omega)
        simp only [List.length_append, List.length_cons, List.length_nil]; omega
      · have h3 : max x.1 y.1 ≤ min x.2 y.2 := h3
        refine step _ ?_
        unfold clipF
        rw [List.filterMap_cons, if_pos (by omega), Int.max_comm y.1 x.1, Int.min_comm y.2 x.2]
        rfl
      · have h3 : ¬ max x.1 y.1 ≤ min x.2 y.2 := h3
        have := step [] (by unfold clipF; rw [List.filterMap_cons, if_neg (by omega)]; rfl)
        rwa [List.append_nil] at this
    · rw [List.take_of_length_le (l := q) (i := j) (by have h2 : ¬ (j : Int) < q.length := h2; omega)]
      refine back ((), ((k + 1 : Nat) : Int), _) ⟨k + 1, rfl, hk', ?_⟩ (by dsimp only; omega)
      dsimp only
      rw [List.take_add_one, hg, Option.toList_some]
      unfold meetF
      rw [List.flatMap_append, List.flatMap_cons, List.flatMap_nil, List.append_nil]
  · rw [List.take_of_length_le (by have h1 : ¬ (k : Int) < p.length := h1; omega)]

theorem ok_ref05_Clip {s : Runs} {lo hi : Int} (hl : s.length ≤ 1000) : FnE bs n_lustrumref05_Clip ((Shape.pair (.slice sRun) (.pair (.int .i64) (.int .i64))).compsE (s, lo, hi)) (.slice sRun) (· = clipF (makeF s) lo hi) := by
  refine ok_of (e_lustrumref05_Clip (s, lo, hi) _) rfl ?_
  unfold c_lustrumref05_Clip
  exact callP_eq (ok_ref05_Meet (a := s) (b := [(lo, hi)]) hl (by simp)) (meet_clip (make_sane s))
end Go.Proofs.YtocmlcpcnjaaeaaGreatDoor.V


/- lustrumlaw14: the laws of leaves, as conditions on the program's functions alone. No condition of its own. -/
namespace Go.Proofs.YtocmlcpcnjaaeaaGreatDoor.V
open Go
set_option linter.unusedVariables false
set_option linter.unusedSimpArgs false

theorem ok_lustrumref14_Few {f : Leaf} : FnE bs n_lustrumref14_Few (sApiLeaf.compsE f) .bool (· = decide (f.2.2.1.length ≤ 40 ∧ f.2.2.2.length ≤ 40)) := by
  obtain ⟨sp, u, a, b⟩ := f
  refine ok_of (e_lustrumref14_Few (sp, u, a, b) _) rfl ?_
  unfold c_lustrumref14_Few
  refine cond_dec (fun h => be (decide_eq_decide.2 ?_)) fun h => be (decide_eq_false ?_).symm <;> dsimp only [Shape.Val] at *
  · omega
  · omega

end Go.Proofs.YtocmlcpcnjaaeaaGreatDoor.V


/- lustrumlaw14.LeafCovers, as a condition on the program's functions alone. No condition of its own. -/
namespace Go.Proofs.YtocmlcpcnjaaeaaGreatDoor.V
open Go
set_option linter.unusedVariables false

end Go.Proofs.YtocmlcpcnjaaeaaGreatDoor.V


/- lustrumlaw14.LeafPairs, as a condition on the program's functions alone. No condition of its own. -/
namespace Go.Proofs.YtocmlcpcnjaaeaaGreatDoor.V
open Go
set_option linter.unusedVariables false
set_option linter.unusedSimpArgs false

end Go.Proofs.YtocmlcpcnjaaeaaGreatDoor.V


/- lustrumlaw14.LeafTidy, as a condition on the program's functions alone. No condition of its own. -/
namespace Go.Proofs.YtocmlcpcnjaaeaaGreatDoor.V
open Go
set_option linter.unusedVariables false
set_option linter.unusedSimpArgs false

/-! ### Tidied -/

theorem tidy_lens (f : Leaf) : (tidyF f).2.2.1.length ≤ f.2.2.1.length ∧ (tidyF f).2.2.2.length ≤ f.2.2.2.length := by
  rcases ho : ofF f with _ | ⟨u, s⟩ | ⟨a, b⟩
  · have e : tidyF f = (false, 0, [], []) := by unfold tidyF; rw [ho]
    rw [e]; simp
  · obtain ⟨h1, h2, h3, h4, h5, h6, h7⟩ := of_units ho
    have e : tidyF f = (false, u, s, []) := by unfold tidyF; rw [ho]
    rw [e]; simp [h4]
  · obtain ⟨h1, h2, h3, h4, h5, h6, h7, e1, e2⟩ := of_span ho
    have e : tidyF f = (true, 0, a, b) := by unfold tidyF; rw [ho]
    rw [e, e1, e2]
    exact ⟨clip_length _ _ _, clip_length _ _ _⟩

end Go.Proofs.YtocmlcpcnjaaeaaGreatDoor.V


/- The least and greatest days of families: plain facts. No program in sight. -/
namespace Go.Proofs.YtocmlcpcnjaaeaaGreatDoor.V
set_option linter.unusedVariables false
set_option linter.unusedSimpArgs false

/-- The least and the greatest start, the least and the greatest end. -/
abbrev Q4 := Int × Int × Int × Int

def extF (f : Leaf) : Option Q4 := match ofF f with
  | none => none
  | some (.inl (u, s)) => some (VCal.ufirst u (loF s), VCal.ufirst u (hiF s), VCal.ulast u (loF s), VCal.ulast u (hiF s))
  | some (.inr (a, b)) => some (loF a, hiF a, loF b, hiF b)

def comb : Option Q4 → Option Q4 → Option Q4
  | none, q => q
  | some p, none => some p
  | some p, some q => some (min p.1 q.1, max p.2.1 q.2.1, min p.2.2.1 q.2.2.1, max p.2.2.2 q.2.2.2)

def allF (l : List Leaf) : Option Q4 := l.foldl (fun x f => comb x (extF f)) none

theorem comb_none (p : Option Q4) : comb p none = p := by cases p <;> rfl

theorem comb_assoc (p q r : Option Q4) : comb (comb p q) r = comb p (comb q r) := by
  cases p with
  | none => rfl
  | some p =>
    cases q with
    | none => rfl
    | some q =>
      cases r with
      | none => rfl
      | some r =>
        simp only [comb, Option.some.injEq, Prod.mk.injEq]
        omega

theorem foldl_comb : ∀ (l : List Leaf) (x : Option Q4), l.foldl (fun x f => comb x (extF f)) x = comb x (allF l)
  | [], x => (comb_none x).symm
  | f :: l, x => by
    unfold allF
    rw [List.foldl_cons, List.foldl_cons, foldl_comb l (comb x (extF f)), foldl_comb l (comb none (extF f)), comb_assoc]
    rfl

theorem all_append (l m : List Leaf) : allF (l ++ m) = comb (allF l) (allF m) := by
  unfold allF
  rw [List.foldl_append, foldl_comb m]
  rfl

theorem all_cons (f : Leaf) (l : List Leaf) : allF (f :: l) = comb (extF f) (allF l) := by
  rw [show f :: l = [f] ++ l from rfl, all_append]
  rfl

theorem ext_none {f : Leaf} : extF f = none ↔ ofF f = none := by
  unfold extF
  rcases ho : ofF f with _ | ⟨u, s⟩ | ⟨a, b⟩ <;> simp

/-- What a quadruple says of pairs: it bounds them, and each of its days is met. -/
def Bounds (q : Q4) (P : Int × Int → Prop) : Prop := (∀ p, P p → q.1 ≤ p.1 ∧ p.1 ≤ q.2.1 ∧ q.2.2.1 ≤ p.2 ∧ p.2 ≤ q.2.2.2 ∧ p.1 ≤ p.2) ∧ (∃ p, P p ∧ p.1 = q.1) ∧ (∃ p, P p ∧ p.1 = q.2.1) ∧ (∃ p, P p ∧ p.2 = q.2.2.1) ∧ ∃ p, P p ∧ p.2 = q.2.2.2

theorem Bounds.comb {p q : Q4} {P R : Int × Int → Prop} (h : Bounds p P) (k : Bounds q R) : Bounds (min p.1 q.1, max p.2.1 q.2.1, min p.2.2.1 q.2.2.1, max p.2.2.2 q.2.2.2) fun x => P x ∨ R x := by
  obtain ⟨h0, ⟨a1, h1, h1'⟩, ⟨a2, h2, h2'⟩, ⟨a3, h3, h3'⟩, ⟨a4, h4, h4'⟩⟩ := h
  obtain ⟨k0, ⟨b1, k1, k1'⟩, ⟨b2, k2, k2'⟩, ⟨b3, k3, k3'⟩, ⟨b4, k4, k4'⟩⟩ := k
  refine ⟨fun x hx => ?_, ?_, ?_, ?_, ?_⟩
  · rcases hx with hx | hx
    · have := h0 x hx; dsimp only; omega
    · have := k0 x hx; dsimp only; omega
  · rcases Int.le_total p.1 q.1 with e | e
    · exact ⟨a1, .inl h1, by dsimp only; omega⟩
    · exact ⟨b1, .inr k1, by dsimp only; omega⟩
  · rcases Int.le_total p.2.1 q.2.1 with e | e
    · exact ⟨b2, .inr k2, by dsimp only; omega⟩
    · exact ⟨a2, .inl h2, by dsimp only; omega⟩
  · rcases Int.le_total p.2.2.1 q.2.2.1 with e | e
    · exact ⟨a3, .inl h3, by dsimp only; omega⟩
    · exact ⟨b3, .inr k3, by dsimp only; omega⟩
  · rcases Int.le_total p.2.2.2 q.2.2.2 with e | e
    · exact ⟨b4, .inr k4, by dsimp only; omega⟩
    · exact ⟨a4, .inl h4, by dsimp only; omega⟩

theorem Bounds.congr {q : Q4} {P R : Int × Int → Prop} (h : Bounds q P) (k : ∀ p, P p ↔ R p) : Bounds q R := by
  have : P = R := funext fun p => propext (k p)
  subst this
  exact h

end Go.Proofs.YtocmlcpcnjaaeaaGreatDoor.V


/- The document's answer for leaves and their least and greatest days, and the program's: what the functions answer. No condition of its own. -/
namespace Go.Proofs.YtocmlcpcnjaaeaaGreatDoor.V
open Go
set_option linter.unusedVariables false
set_option linter.unusedSimpArgs false

theorem ok_ref14_within {s : Runs} {m : Int} (hl : s.length ≤ 1000000000) : FnE bs n_lustrumref14_within ((Shape.pair (.slice sRun) (.int .i64)).compsE (s, m)) .bool (· = decide (Within s m)) := by
  refine ok_of (e_lustrumref14_within (s, m) _) rfl ?_
  unfold c_lustrumref14_within Within
  refine callP_eq (ok_ref04_Sane hl) (cond_dec (fun h => cond_dec (fun h2 => ?_) fun h2 => ?_) fun h => ?_)
  · have h2 : s = [] := len_zero.1 h2
    have h : Sane s := h
    exact be (decide_eq_true ⟨h, .inl h2⟩).symm
  · have h2 : ¬ s = [] := fun e => h2 (len_zero.2 e)
    refine ⟨first_in h2, ?_⟩
    dsimp only
    rw [rd_lo h2, rd_hi h2 hl]
    refine cond_dec (fun h3 => ⟨last_in h2 hl, be ?_⟩) fun h3 => be ?_
    · have h3 : 0 ≤ loF s := h3
      simp [h, h2, h3]
    · have h3 : ¬ 0 ≤ loF s := h3
      simp [h2, h3]
  · exact be (by simp [h])

theorem ok_ref14_Sane {f : Leaf} (hla : f.2.2.1.length ≤ 1000000000) (hlb : f.2.2.2.length ≤ 1000000000) : FnE bs n_lustrumref14_Sane (sApiLeaf.compsE f) .bool (· = decide (LeafSane f)) := by
  obtain ⟨sp, u, a, b⟩ := f
  dsimp only at hla hlb
  refine ok_of (e_lustrumref14_Sane (sp, u, a, b) _) rfl ?_
  unfold c_lustrumref14_Sane LeafSane
  dsimp only
  cases sp
  · refine cond_no rfl (cond_dec (fun h1 => cond_dec (fun h2 => callP_eq ok_ref03_Count ?_) fun h2 => be ?_) fun h1 => be ?_)
    · have := VCal.ucount_pos u
      rw [w64_of (by omega)]
      refine callP_eq (ok_ref14_within hla) (cond_dec (fun h3 => be ?_) fun h3 => be ?_)
      · have h1 : 0 ≤ u := h1
        have h2 : u ≤ 5 := h2
        refine decide_eq_decide.2 ⟨fun q => ?_, fun q => ?_⟩
        · rw [if_neg (by decide)]; exact ⟨⟨h1, h2⟩, h3, len_zero.1 q⟩
        · rw [if_neg (by decide)] at q; exact len_zero.2 q.2.2
      · simp [h3]
    · have h2 : ¬ u ≤ 5 := h2
      simp [h2]
    · have h1 : ¬ 0 ≤ u := h1
      simp [h1]
  · refine cond_yes rfl (cond_dec (fun h1 => callP_eq (ok_ref14_within hla) (cond_dec (fun h2 => callP_eq (ok_ref14_within hlb) (be ?_)) fun h2 => be ?_)) fun h1 => be ?_)
    · have h1 : u = 0 := h1
      simp [h1, h2]
    · simp [h2]
    · have h1 : ¬ u = 0 := h1
      simp [h1]

def asL (f : Leaf) : Leaf := if LeafSane f then f else (false, 0, [], [])

theorem ok_ref14_As {f : Leaf} (hla : f.2.2.1.length ≤ 1000000000) (hlb : f.2.2.2.length ≤ 1000000000) : FnE bs n_lustrumref14_As (sApiLeaf.compsE f) sApiLeaf (· = asL f) := by
  obtain ⟨sp, u, a, b⟩ := f
  refine ok_of (e_lustrumref14_As (sp, u, a, b) _) rfl ?_
  unfold c_lustrumref14_As asL
  refine callP_eq (ok_ref14_Sane hla hlb) (cond_not (fun h => ?_) fun h => ?_)
  · rw [if_neg (by simpa using h)]
  · rw [if_pos (by simpa using h)]

theorem ok_ref14_Tidy {f : Leaf} (hla : f.2.2.1.length ≤ 1000) (hlb : f.2.2.2.length ≤ 1000) : FnE bs n_lustrumref14_Tidy (sApiLeaf.compsE f) sApiLeaf (· = tidyF f) := by
  obtain ⟨sp, u, a, b⟩ := f
  dsimp only at hla hlb
  refine ok_of (e_lustrumref14_Tidy (sp, u, a, b) _) rfl ?_
  unfold c_lustrumref14_Tidy
  refine callP_eq (ok_ref14_As (by dsimp only; omega) (by dsimp only; omega)) ?_
  unfold tidyF ofF asL
  dsimp only
  by_cases hs : LeafSane (sp, u, a, b)
  · rw [if_pos hs]
    dsimp only
    refine cond_dec (fun h => ?_) fun h => ?_
    · have h : a = [] := len_zero.1 h
      rw [if_pos (.inr h)]
    · have h : ¬ a = [] := fun e => h (len_zero.2 e)
      rw [if_neg (by simp [hs, h])]
      have hs' := hs
      unfold LeafSane at hs'
      dsimp only at hs'
      cases sp with
      | false =>
        rw [if_neg (by decide)] at hs'
        refine cond_no rfl (cond_yes rfl ?_)
        rw [if_pos rfl]
        show (false, u, a, b) = (false, u, a, [])
        rw [hs'.2.2]
      | true =>
        rw [if_pos rfl] at hs'
        refine cond_yes rfl (cond_dec (fun h2 => ?_) fun h2 => ⟨first_in h, ?_⟩)
        · rw [if_neg (by simp), if_pos (.inl (len_zero.1 h2))]
        · have h2 : ¬ b = [] := fun e => h2 (len_zero.2 e)
          refine ⟨last_in h2 (by omega), ?_⟩
          rw [rd_lo h, rd_hi h2 (by omega)]
          refine cond_dec (fun h3 => ?_) fun h3 => cond_no rfl ⟨last_in h2 (by omega), ?_⟩
          · have h3 : hiF b < loF a := h3
            rw [if_neg (by simp), if_pos (.inr h3)]
          · have h3 : ¬ hiF b < loF a := h3
            refine callP_eq (ok_ref05_Clip hla) ⟨first_in h, callP_eq (ok_ref05_Clip hlb) ?_⟩
            rw [if_neg (by simp), if_neg (by simp [h2, h3]), make_self hs'.2.1.1, make_self hs'.2.2.1]
  · rw [if_neg hs]
    dsimp only
    rw [if_pos (.inl hs)]
    exact cond_yes (by decide) rfl

/-! ### The least and greatest days -/

theorem ok_ref16_ends {f : Leaf} {q : Q4} (h : extF f = some q) (hla : (tidyF f).2.2.1.length ≤ 1000000000) (hlb : (tidyF f).2.2.2.length ≤ 1000000000) :
    FnE bs n_lustrumref16_ends (sApiLeaf.compsE (tidyF f)) (.st (.pair (.int .i64) (.pair (.int .i64) (.pair (.int .i64) (.int .i64))))) (· = q) := by
  unfold extF at h
  rcases ho : ofF f with _ | ⟨u, s⟩ | ⟨a, b⟩
  · rw [ho] at h; cases h
  · rw [ho] at h
    cases h
    obtain ⟨h1, h2, h3, h4, h5, h6, h7⟩ := of_units ho
    have e : tidyF f = (false, u, s, []) := by unfold tidyF; rw [ho]
    rw [e] at hla hlb ⊢
    dsimp only at hla hlb
    refine ok_of (e_lustrumref16_ends (false, u, s, []) _) rfl ?_
    unfold c_lustrumref16_ends
    dsimp only
    have b1 := Within.bounds h6 (mem_lo h6.1 h5)
    have b2 := Within.bounds h6 (mem_hi h6.1 h5)
    rw [rd_lo h5, rd_hi h5 hla]
    have f1 : firstS u (loF s) = (VCal.ufirst u (loF s), true) := by unfold firstS; rw [if_pos (by omega)]
    have f2 : firstS u (hiF s) = (VCal.ufirst u (hiF s), true) := by unfold firstS; rw [if_pos (by omega)]
    have f3 : lastS u (loF s) = (VCal.ulast u (loF s), true) := by unfold lastS; rw [if_pos (by omega)]
    have f4 : lastS u (hiF s) = (VCal.ulast u (hiF s), true) := by unfold lastS; rw [if_pos (by omega)]
    refine ⟨first_in h5, last_in h5 hla, cond_no rfl (callP_eq ok_ref03_First (callP_eq ok_ref03_First (callP_eq ok_ref03_Last (callP_eq ok_ref03_Last ?_))))⟩
    rw [f1, f2, f3, f4]
  · rw [ho] at h
    cases h
    obtain ⟨sa, sb, na, nb, l1, l2⟩ := span_ends ho
    have e : tidyF f = (true, 0, a, b) := by unfold tidyF; rw [ho]
    rw [e] at hla hlb ⊢
    dsimp only at hla hlb
    refine ok_of (e_lustrumref16_ends (true, 0, a, b) _) rfl ?_
    unfold c_lustrumref16_ends
    dsimp only
    rw [rd_lo na, rd_hi na hla, rd_lo nb, rd_hi nb hlb]
    exact ⟨first_in na, last_in na hla, cond_yes rfl ⟨first_in nb, last_in nb hlb, rfl⟩⟩

/-- A list of leaves of few runs. -/
def FewL (n : Nat) (l : List Leaf) : Prop := l.length ≤ 1000000 ∧ ∀ f ∈ l, f.2.2.1.length ≤ n ∧ f.2.2.2.length ≤ n

def Q4.out : Option Q4 → Q4 × Bool
  | none => ((0, 0, 0, 0), false)
  | some q => (q, true)

theorem tidy_nil {f : Leaf} : (tidyF f).2.2.1 = [] ↔ extF f = none := by
  rw [ext_none]
  rcases ho : ofF f with _ | ⟨u, s⟩ | ⟨a, b⟩
  · have e : tidyF f = (false, 0, [], []) := by unfold tidyF; rw [ho]
    rw [e]; simp
  · obtain ⟨h1, h2, h3, h4, h5, h6, h7⟩ := of_units ho
    have e : tidyF f = (false, u, s, []) := by unfold tidyF; rw [ho]
    rw [e]; simp [h5]
  · obtain ⟨sa, sb, na, nb, l1, l2⟩ := span_ends ho
    have e : tidyF f = (true, 0, a, b) := by unfold tidyF; rw [ho]
    rw [e]; simp [na]

theorem all_take_succ {l : List Leaf} {k : Nat} {f : Leaf} (h : l[k]? = some f) : allF (l.take (k + 1)) = comb (allF (l.take k)) (extF f) := by
  rw [List.take_add_one, h, Option.toList_some, all_append]
  rfl

theorem ok_ref16_All {l : List Leaf} (hl : FewL 1000 l) : FnE bs n_lustrumref16_All ((Shape.slice sApiLeaf).compsE l) (.tup (.pair (.st (.pair (.int .i64) (.pair (.int .i64) (.pair (.int .i64) (.int .i64))))) .bool)) (· = Q4.out (allF l)) := by
  refine ok_of (e_lustrumref16_All l _) rfl ?_
  unfold c_lustrumref16_All
  have hll := hl.1
  refine loopP_of (fun z : Bool × Int × Int × Int × Int × Int => ∃ k : Nat, z.2.1 = k ∧ k ≤ l.length ∧ (z.2.2, z.1) = Q4.out (allF (l.take k))) (fun z => l.length - z.2.1.toNat) ?_ ⟨0, rfl, Nat.zero_le _, rfl⟩
  rintro ⟨any, _, q⟩ A ⟨k, e1, hk, e2⟩ back
  dsimp only at e1 e2 ⊢
  subst e1
  refine cond_dec (fun h1 => ⟨⟨by omega, h1⟩, ?_⟩) fun h1 => ?_
  · have h1 : (k : Int) < l.length := h1
    have hk' : k < l.length := by omega
    have hg := List.getElem?_eq_getElem hk'
    generalize l[k] = f at hg
    have hf := hl.2 f (List.mem_of_getElem? hg)
    have ht := tidy_lens f
    rw [toNat_ofNat, rd_of (s := sApiLeaf) hg, w_succ (by omega)]
    refine callP_eq (ok_ref14_Tidy (f := f) hf.1 hf.2) (cond_dec (fun h2 => ?_) fun h2 => ?_)
    · have h2 : extF f = none := tidy_nil.1 (len_zero.1 h2)
      refine back _ ⟨k + 1, rfl, hk', ?_⟩ (by dsimp only; omega)
      dsimp only
      rw [all_take_succ hg, h2, comb_none, ← e2]
    · have h2 : ¬ extF f = none := fun e => h2 (len_zero.2 (tidy_nil.2 e))
      obtain ⟨x, hx⟩ := Option.ne_none_iff_exists'.1 h2
      refine callP_eq (ok_ref16_ends hx (by omega) (by omega)) (cond_not (fun h3 => ?_) fun h3 => ?_)
      · refine ⟨by decide, by decide, by decide, by decide, by decide, by decide, by decide, by decide, back _ ⟨k + 1, rfl, hk', ?_⟩ (by dsimp only; omega)⟩
        dsimp only
        have ha : allF (l.take k) = none := by
          cases hq : allF (l.take k) with
          | none => rfl
          | some y => rw [hq] at e2; have := congrArg Prod.snd e2; rw [show any = true from this] at h3; cases h3
        rw [all_take_succ hg, ha, hx, max_max, max_max, min_min, min_min]
        show _ = (x, true)
        rw [Int.min_self, Int.min_self, Int.max_self, Int.max_self]
      · refine ⟨by decide, by decide, by decide, by decide, by decide, by decide, by decide, by decide, back _ ⟨k + 1, rfl, hk', ?_⟩ (by dsimp only; omega)⟩
        dsimp only
        cases hq : allF (l.take k) with
        | none => rw [hq] at e2; have := congrArg Prod.snd e2; rw [show any = false from this] at h3; cases h3
        | some y =>
          rw [hq] at e2
          have e3 : q = y := congrArg Prod.fst e2
          rw [all_take_succ hg, hq, hx, max_max, max_max, min_min, min_min, e3, h3]
          rfl
  · rw [List.take_of_length_le (by have h1 : ¬ (k : Int) < l.length := h1; omega)] at e2
    exact e2

/-- One of the four days, or that there is none. -/
def dayF (sel : Q4 → Int) (l : List Leaf) : Int × Int := match allF l with
  | none => (0, 9)
  | some q => (sel q, 0)

theorem ok_ref16_Earliest {l : List Leaf} (hl : FewL 1000 l) : FnE bs n_lustrumref16_Earliest ((Shape.slice sApiLeaf).compsE l) (.tup (.pair (.int .i64) (.int .i64))) (· = dayF (·.1) l) := by
  refine ok_han (e_lustrumref16_Earliest l _) rfl (HanOK.ofList [(142, .inl g_lustrumref16_Earliest__lustrumref16_told)] rfl rfl ⟨rfl, HanOK.none rfl rfl, trivial⟩) ?_
  unfold c_lustrumref16_Earliest dayF
  refine callP_eq (ok_ref16_All hl) ?_
  cases allF l with
  | none => exact cond_yes rfl rfl
  | some q => exact cond_no rfl ⟨by decide, rfl⟩

theorem ok_ref16_Latest {l : List Leaf} (hl : FewL 1000 l) : FnE bs n_lustrumref16_Latest ((Shape.slice sApiLeaf).compsE l) (.tup (.pair (.int .i64) (.int .i64))) (· = dayF (·.2.2.2) l) := by
  refine ok_han (e_lustrumref16_Latest l _) rfl (HanOK.ofList [(142, .inl g_lustrumref16_Latest__lustrumref16_told)] rfl rfl ⟨rfl, HanOK.none rfl rfl, trivial⟩) ?_
  unfold c_lustrumref16_Latest dayF
  refine callP_eq (ok_ref16_All hl) ?_
  cases allF l with
  | none => exact cond_yes rfl rfl
  | some q => exact cond_no rfl ⟨by decide, rfl⟩

/-! ### The program's -/

theorem ok_env_pick {gr : Bool} {g1 : Int × Int → Option (Int × Bool)} {g2 : Leaf → Option Runs} {s : Runs} (hn : s ≠ []) (hl : s.length ≤ 1000000000) : FnE bs n_env_way_pick ((Shape.pair sEnvWay (.slice sRun)).compsE ((gr, g1, g2), s)) (.int .i64) (· = if gr = true then hiF s else loF s) := by
  refine ok_of (e_env_way_pick ((gr, g1, g2), s) _) rfl ?_
  unfold c_env_way_pick
  dsimp only
  rw [rd_hi hn hl, rd_lo hn]
  exact cond_bool (fun h => ⟨last_in hn hl, by rw [if_pos h]⟩) fun h => ⟨first_in hn, by rw [if_neg (by rw [h]; decide)]⟩

/-- How a way tells a tidied leaf's day. -/
def WayV (gr : Bool) (g1 : Int × Int → Option (Int × Bool)) (g2 : Leaf → Option Runs) (f : Leaf) (v : Int) : Prop :=
  if f.1 = true then ∃ s, g2 f = some s ∧ s ≠ [] ∧ s.length ≤ 1000000000 ∧ (if gr = true then hiF s else loF s) = v
  else ∃ r, g1 (f.2.1, if gr = true then hiF f.2.2.1 else loF f.2.2.1) = some r ∧ r.1 = v

theorem ok_env_all {gr : Bool} {g1 : Int × Int → Option (Int × Bool)} {g2 : Leaf → Option Runs} {sel : Q4 → Int} {l : List Leaf} (hl : FewL 1000 l) (hv : ∀ f q, f ∈ l → extF f = some q → WayV gr g1 g2 (tidyF f) (sel q))
    (hs : ∀ p q : Q4, sel (min p.1 q.1, max p.2.1 q.2.1, min p.2.2.1 q.2.2.1, max p.2.2.2 q.2.2.2) = if gr = true then max (sel p) (sel q) else min (sel p) (sel q)) :
    FnE bs n_env_way_all ((Shape.pair sEnvWay (.slice sApiLeaf)).compsE ((gr, g1, g2), l)) (.tup (.pair (.int .i64) (.int .i64))) (· = dayF sel l) := by
  refine ok_of (e_env_way_all ((gr, g1, g2), l) _) rfl ?_
  unfold c_env_way_all
  have hll := hl.1
  refine loopP_of (fun z : Int × Int × Int => ∃ k : Nat, z.2.2 = k ∧ k ≤ l.length ∧ (z.1, z.2.1) = dayF sel (l.take k)) (fun z => l.length - z.2.2.toNat) ?_ ⟨0, rfl, Nat.zero_le _, rfl⟩
  rintro ⟨best, e, _⟩ A ⟨k, e1, hk, e2⟩ back
  dsimp only at e1 e2 ⊢
  subst e1
  refine cond_dec (fun h1 => ⟨⟨by omega, h1⟩, ?_⟩) fun h1 => ?_
  · have h1 : (k : Int) < l.length := h1
    have hk' : k < l.length := by omega
    have hg := List.getElem?_eq_getElem hk'
    generalize l[k] = f at hg
    have hfm := List.mem_of_getElem? hg
    have hf := hl.2 f hfm
    have ht := tidy_lens f
    rw [toNat_ofNat, rd_of (s := sApiLeaf) hg, w_succ (by omega)]
    refine callP_eq (ok_leaf_Tidy (f := f) (by omega) (by omega)) (cond_dec (fun h2 => ?_) fun h2 => ?_)
    · have h2 : extF f = none := tidy_nil.1 (len_zero.1 h2)
      refine back _ ⟨k + 1, rfl, hk', ?_⟩ (by dsimp only; omega)
      dsimp only
      unfold dayF at e2 ⊢
      rw [all_take_succ hg, h2, comb_none, ← e2]
    · have hne : (tidyF f).2.2.1 ≠ [] := fun e => h2 (len_zero.2 e)
      have h2 : ¬ extF f = none := fun e => hne (tidy_nil.2 e)
      obtain ⟨x, hx⟩ := Option.ne_none_iff_exists'.1 h2
      have hw := hv f x hfm hx
      -- the day is told: is it better?
      have step : ∀ v : Int, v = sel x → cond (!decide (e = (0 : Int))) (A (v, (0 : Int), ((k + 1 : Nat) : Int))) (cond (decide ((decide (best < v)) = gr)) (A (v, (0 : Int), ((k + 1 : Nat) : Int))) (A (best, e, ((k + 1 : Nat) : Int)))) := by
        intro v ev
        have next : ∀ b : Int, (∀ y, allF (l.take k) = some y → b = if gr = true then max (sel y) v else min (sel y) v) → (allF (l.take k) = none → b = v) → A (b, (0 : Int), ((k + 1 : Nat) : Int)) := by
          intro b q1 q2
          refine back _ ⟨k + 1, rfl, hk', ?_⟩ (by dsimp only; omega)
          dsimp only
          unfold dayF
          rw [all_take_succ hg, hx]
          cases hq : allF (l.take k) with
          | none =>
            rw [q2 hq, ev]
            rfl
          | some y =>
            rw [q1 y hq, ev]
            simp only [comb]
            rw [hs]
        unfold dayF at e2
        cases hq : allF (l.take k) with
        | none =>
          rw [hq] at e2
          have e3 : e = 9 := congrArg Prod.snd e2
          subst e3
          exact cond_yes (by decide) (next v (fun y hy => by rw [hq] at hy; cases hy) fun _ => rfl)
        | some y =>
          rw [hq] at e2
          have e3 : e = 0 := congrArg Prod.snd e2
          have e4 : best = sel y := congrArg Prod.fst e2
          subst e3
          refine cond_no (by decide) (cond_dec (fun h3 => next v (fun z hz => ?_) fun hz => absurd (hq.symm.trans hz) (by simp)) fun h3 => next best (fun z hz => ?_) fun hz => absurd (hq.symm.trans hz) (by simp)) <;> rw [hq] at hz <;> cases hz
          · rw [← e4, ← h3]
            by_cases hb : best < v
            · rw [if_pos (by simpa using hb)]; omega
            · rw [if_neg (by simpa using hb)]; omega
          · rw [← e4]
            cases gr with
            | true =>
              have : ¬ best < v := fun q => h3 (by simpa using q)
              rw [if_pos rfl]; omega
            | false =>
              have : best < v := by simpa using h3
              rw [if_neg (by decide)]; omega
      unfold WayV at hw
      refine cond_bool (fun h3 => ?_) fun h3 => ?_
      · have h3 : (tidyF f).1 = true := h3
        rw [if_pos h3] at hw
        obtain ⟨s, w1, w2, w3, w4⟩ := hw
        exact gcall_eq w1 (callP_eq (ok_env_pick w2 w3) (step _ w4))
      · have h3 : (tidyF f).1 = false := h3
        rw [if_neg (by rw [h3]; decide)] at hw
        obtain ⟨r, w1, w2⟩ := hw
        exact callP_eq (ok_env_pick hne (by omega)) (gcall_eq w1 (step _ w2))
  · rw [List.take_of_length_le (by have h1 : ¬ (k : Int) < l.length := h1; omega)] at e2
    exact e2

theorem cl_First : CloSpec bs 136 [] [] (.pair (.int .i64) (.int .i64)) (.tup (.pair (.int .i64) .bool)) (fun x => some (firstS x.1 x.2)) := ⟨(ok_unit_First (kind := 0) (i := 0)).1, fun x r hx => by cases hx; exact ok_unit_First⟩
theorem cl_Last : CloSpec bs 108 [] [] (.pair (.int .i64) (.int .i64)) (.tup (.pair (.int .i64) .bool)) (fun x => some (lastS x.1 x.2)) := ⟨(ok_unit_Last (kind := 0) (i := 0)).1, fun x r hx => by cases hx; exact ok_unit_Last⟩
theorem ok_env_starts {f : Leaf} : FnE bs n_env_starts (sApiLeaf.compsE f) (.slice sRun) (· = f.2.2.1) := ok_of (e_env_starts f _) rfl rfl
theorem ok_env_ends {f : Leaf} : FnE bs n_env_ends (sApiLeaf.compsE f) (.slice sRun) (· = f.2.2.2) := ok_of (e_env_ends f _) rfl rfl
theorem cl_starts : CloSpec bs 141 [] [] sApiLeaf (.slice sRun) (fun x : Leaf => some x.2.2.1) := ⟨(ok_env_starts (f := (false, 0, [], []))).1, fun x r hx => by cases hx; rw [List.append_nil]; exact ok_env_starts⟩
theorem cl_ends : CloSpec bs 139 [] [] sApiLeaf (.slice sRun) (fun x : Leaf => some x.2.2.2) := ⟨(ok_env_ends (f := (false, 0, [], []))).1, fun x r hx => by cases hx; rw [List.append_nil]; exact ok_env_ends⟩

theorem way_of {gr : Bool} {g1 : Int × Int → Option (Int × Bool)} {g2 : Leaf → Option Runs} {f : Leaf} {q : Q4} (h : extF f = some q) (hla : (tidyF f).2.2.1.length ≤ 1000000000) (hlb : (tidyF f).2.2.2.length ≤ 1000000000) {v : Int}
    (hu : ∀ u s, ofF f = some (.inl (u, s)) → (0 ≤ loF s ∧ loF s < VCal.ucount u) → (0 ≤ hiF s ∧ hiF s < VCal.ucount u) → ∃ r, g1 (u, if gr = true then hiF s else loF s) = some r ∧ r.1 = v)
    (hb : ∀ a b, ofF f = some (.inr (a, b)) → ∃ s, g2 (true, 0, a, b) = some s ∧ (s = a ∨ s = b) ∧ (if gr = true then hiF s else loF s) = v) : WayV gr g1 g2 (tidyF f) v := by
  unfold WayV
  rcases ho : ofF f with _ | ⟨u, s⟩ | ⟨a, b⟩
  · rw [ext_none.2 ho] at h; cases h
  · have e : tidyF f = (false, u, s, []) := by unfold tidyF; rw [ho]
    obtain ⟨h1, h2, h3, h4, h5, h6, h7⟩ := of_units ho
    have b1 := Within.bounds h6 (mem_lo h6.1 h5)
    have b2 := Within.bounds h6 (mem_hi h6.1 h5)
    rw [e, if_neg (by simp)]
    exact hu u s ho (by omega) (by omega)
  · have e : tidyF f = (true, 0, a, b) := by unfold tidyF; rw [ho]
    obtain ⟨sa, sb, na, nb, l1, l2⟩ := span_ends ho
    rw [e] at hla hlb
    rw [e, if_pos rfl]
    obtain ⟨s, w1, w2, w3⟩ := hb a b ho
    rcases w2 with rfl | rfl
    · exact ⟨_, w1, na, hla, w3⟩
    · exact ⟨_, w1, nb, hlb, w3⟩

section
variable {l : List Leaf} (hl : FewL 1000 l)

theorem FewL.tidy {f : Leaf} (hl : FewL 1000 l) (hf : f ∈ l) : (tidyF f).2.2.1.length ≤ 1000000000 ∧ (tidyF f).2.2.2.length ≤ 1000000000 := by
  have := hl.2 f hf
  have := tidy_lens f
  omega

theorem ok_env_Earliest (hl : FewL 1000 l) : FnE bs n_env_Earliest ((Shape.slice sApiLeaf).compsE l) (.tup (.pair (.int .i64) (.int .i64))) (· = dayF (·.1) l) := by
  refine ok_of (e_env_Earliest l _) rfl ?_
  unfold c_env_Earliest
  refine ⟨_, cl_First, _, cl_starts, callP_eq (ok_env_all (sel := (·.1)) hl (fun f q hf hq => ?_) fun p q => rfl) rfl⟩
  have ht := hl.tidy hf
  refine way_of hq ht.1 ht.2 (fun u s ho b1 b2 => ⟨_, rfl, ?_⟩) fun a b ho => ⟨_, rfl, .inl rfl, ?_⟩ <;> unfold extF at hq <;> rw [ho] at hq <;> cases hq
  · show (firstS u (loF s)).1 = _
    unfold firstS
    rw [if_pos (by omega)]
  · rfl

theorem ok_env_Latest (hl : FewL 1000 l) : FnE bs n_env_Latest ((Shape.slice sApiLeaf).compsE l) (.tup (.pair (.int .i64) (.int .i64))) (· = dayF (·.2.2.2) l) := by
  refine ok_of (e_env_Latest l _) rfl ?_
  unfold c_env_Latest
  refine ⟨_, cl_Last, _, cl_ends, callP_eq (ok_env_all (sel := (·.2.2.2)) hl (fun f q hf hq => ?_) fun p q => rfl) rfl⟩
  have ht := hl.tidy hf
  refine way_of hq ht.1 ht.2 (fun u s ho b1 b2 => ⟨_, rfl, ?_⟩) fun a b ho => ⟨_, rfl, .inr rfl, ?_⟩ <;> unfold extF at hq <;> rw [ho] at hq <;> cases hq
  · dsimp only; unfold lastS; rw [if_pos rfl, if_pos (by omega)]
  · rfl

theorem ok_env_FirstEnd (hl : FewL 1000 l) : FnE bs n_env_FirstEnd ((Shape.slice sApiLeaf).compsE l) (.tup (.pair (.int .i64) (.int .i64))) (· = dayF (·.2.2.1) l) := by
  refine ok_of (e_env_FirstEnd l _) rfl ?_
  unfold c_env_FirstEnd
  refine ⟨_, cl_Last, _, cl_ends, callP_eq (ok_env_all (sel := (·.2.2.1)) hl (fun f q hf hq => ?_) fun p q => rfl) rfl⟩
  have ht := hl.tidy hf
  refine way_of hq ht.1 ht.2 (fun u s ho b1 b2 => ⟨_, rfl, ?_⟩) fun a b ho => ⟨_, rfl, .inr rfl, ?_⟩ <;> unfold extF at hq <;> rw [ho] at hq <;> cases hq
  · show (lastS u (loF s)).1 = _
    unfold lastS
    rw [if_pos (by omega)]
  · rfl

theorem ok_env_LastStart (hl : FewL 1000 l) : FnE bs n_env_LastStart ((Shape.slice sApiLeaf).compsE l) (.tup (.pair (.int .i64) (.int .i64))) (· = dayF (·.2.1) l) := by
  refine ok_of (e_env_LastStart l _) rfl ?_
  unfold c_env_LastStart
  refine ⟨_, cl_First, _, cl_starts, callP_eq (ok_env_all (sel := (·.2.1)) hl (fun f q hf hq => ?_) fun p q => rfl) rfl⟩
  have ht := hl.tidy hf
  refine way_of hq ht.1 ht.2 (fun u s ho b1 b2 => ⟨_, rfl, ?_⟩) fun a b ho => ⟨_, rfl, .inl rfl, ?_⟩ <;> unfold extF at hq <;> rw [ho] at hq <;> cases hq
  · dsimp only; unfold firstS; rw [if_pos rfl, if_pos (by omega)]
  · rfl
end
end Go.Proofs.YtocmlcpcnjaaeaaGreatDoor.V


/- Places in order: plain facts. No program in sight. -/
namespace Go.Proofs.YtocmlcpcnjaaeaaGreatDoor.V
set_option linter.unusedVariables false
set_option linter.unusedSimpArgs false

/-- A place, its key, and whether it is empty. -/
abbrev Pl := Int × (Int × Int) × Bool

/-- Is one taken ahead of another one, or alike? -/
def leP (a b : Pl) : Prop := (a.2.2 = false ∧ b.2.2 = true) ∨ (a.2.2 = b.2.2 ∧ (a.2.1.1 < b.2.1.1 ∨ (a.2.1.1 = b.2.1.1 ∧ (a.2.1.2 < b.2.1.2 ∨ (a.2.1.2 = b.2.1.2 ∧ a.1 ≤ b.1)))))
instance (a b : Pl) : Decidable (leP a b) := inferInstanceAs (Decidable (_ ∨ _))

theorem ordP : HP.Ord leP := by
  refine ⟨fun a b => ?_, fun a b c h k => ?_⟩
  · obtain ⟨a1, ⟨a2, a3⟩, a4⟩ := a
    obtain ⟨b1, ⟨b2, b3⟩, b4⟩ := b
    unfold leP
    dsimp only
    cases a4 <;> cases b4 <;> simp <;> omega
  · obtain ⟨a1, ⟨a2, a3⟩, a4⟩ := a
    obtain ⟨b1, ⟨b2, b3⟩, b4⟩ := b
    obtain ⟨c1, ⟨c2, c3⟩, c4⟩ := c
    unfold leP at *
    dsimp only at *
    cases a4 <;> cases b4 <;> cases c4 <;> simp at * <;> omega

/-- The key of families, and whether they are empty. -/
def keyF (x : List Leaf) : (Int × Int) × Bool := (((dayF (·.1) x).1, (dayF (·.2.2.2) x).1), !decide ((dayF (·.1) x).2 = 0))

def placesF (l : List (List Leaf)) : List Pl := (List.range l.length).map fun (k : Nat) => ((k : Int), keyF (l.getD k []))

theorem places_take {l : List (List Leaf)} {k : Nat} (h : k < l.length) : placesF (l.take (k + 1)) = placesF (l.take k) ++ [((k : Int), keyF (l.getD k []))] := by
  unfold placesF
  have e1 : (l.take (k + 1)).length = k + 1 := by rw [List.length_take]; omega
  have e2 : (l.take k).length = k := by rw [List.length_take]; omega
  rw [e1, e2, List.range_succ, List.map_append, List.map_singleton]
  congr 1
  · refine List.map_congr_left fun j hj => ?_
    have hj := List.mem_range.1 hj
    rw [List.getD_eq_getElem?_getD, List.getD_eq_getElem?_getD, List.getElem?_take, List.getElem?_take, if_pos (by omega), if_pos (by omega)]
  · rw [List.getD_eq_getElem?_getD, List.getElem?_take, if_pos (by omega), ← List.getD_eq_getElem?_getD]

/-- What sorting answers. -/
def SortR (l : List (List Leaf)) (out : List Int) : Prop := ∃ ps : List Pl, ps.Perm (placesF l) ∧ ps.Pairwise leP ∧ out = ps.map (·.1)

theorem placesF_length (l : List (List Leaf)) : (placesF l).length = l.length := by simp [placesF]

/-- What was taken, and the heap that is left. -/
def Took (all taken heap : List Pl) : Prop := (taken ++ heap).Perm all ∧ taken.Pairwise leP ∧ ∀ a ∈ taken, ∀ b ∈ heap, leP a b

theorem Took.start (all heap : List Pl) (h : heap.Perm all) : Took all [] heap := ⟨h, List.Pairwise.nil, fun a ha => by cases ha⟩

theorem Took.step {all taken heap heap' : List Pl} {x : Pl} (h : Took all taken heap) (hp : heap.Perm (x :: heap')) (hx : ∀ b ∈ heap, leP x b) : Took all (taken ++ [x]) heap' := by
  obtain ⟨h1, h2, h3⟩ := h
  have hxm : x ∈ heap := hp.symm.subset (List.mem_cons_self ..)
  refine ⟨?_, ?_, ?_⟩
  · rw [List.append_assoc]
    exact (List.Perm.append_left taken hp.symm).trans h1
  · rw [List.pairwise_append]
    refine ⟨h2, List.pairwise_singleton _ _, fun a ha b hb => ?_⟩
    cases List.mem_singleton.1 hb
    exact h3 a ha x hxm
  · intro a ha b hb
    have hbm : b ∈ heap := hp.symm.subset (List.mem_cons_of_mem _ hb)
    rcases List.mem_append.1 ha with ha | ha
    · exact h3 a ha b hbm
    · cases List.mem_singleton.1 ha
      exact hx b hbm

theorem Took.done {all taken : List Pl} (h : Took all taken []) : taken.Perm all ∧ taken.Pairwise leP := ⟨by simpa using h.1, h.2.1⟩
end Go.Proofs.YtocmlcpcnjaaeaaGreatDoor.V


/- What sets of units cover: plain facts. No program in sight. -/
namespace Go.Proofs.YtocmlcpcnjaaeaaGreatDoor.V
set_option linter.unusedVariables false
set_option linter.unusedSimpArgs false

end Go.Proofs.YtocmlcpcnjaaeaaGreatDoor.V


/- image.units, image.Cover, cover: their contracts. No condition of its own. -/
namespace Go.Proofs.YtocmlcpcnjaaeaaGreatDoor.V
open Go
set_option linter.unusedVariables false
set_option linter.unusedSimpArgs false

/-! ### Possible -/

/-! ### Days, Sure, Certain -/

end Go.Proofs.YtocmlcpcnjaaeaaGreatDoor.V


/- lustrumlaw16: the laws of the least and greatest days, as conditions on the program's functions alone. No condition of its own. -/
namespace Go.Proofs.YtocmlcpcnjaaeaaGreatDoor.V
open Go
set_option linter.unusedVariables false
set_option linter.unusedSimpArgs false

theorem w_succ63 {a : Nat} (h : a < 9223372036854775807) : w64 ((a : Int) + 1) = ((a + 1 : Nat) : Int) := by rw [w64_of (by omega)]; omega
theorem ok_lustrumref15_Few {l : List Leaf} (hl : l.length ≤ 9223372036854775807) : FnE bs n_lustrumref15_Few ((Shape.slice sApiLeaf).compsE l) .bool (fun r => r = true → l.length ≤ 12 ∧ FewL 40 l) := by
  refine ok_of (e_lustrumref15_Few l _) rfl ?_
  unfold c_lustrumref15_Few
  refine loopP_of (fun z : Int => ∃ k : Nat, z = k ∧ k ≤ l.length ∧ ∀ (i : Nat) f, i < k → l[i]? = some f → f.2.2.1.length ≤ 40 ∧ f.2.2.2.length ≤ 40) (fun z => l.length - z.toNat) ?_ ⟨0, rfl, Nat.zero_le _, fun i f h => by omega⟩
  rintro _ A ⟨k, rfl, hk, hi⟩ back
  refine cond_dec (fun h1 => ⟨⟨by omega, h1⟩, ?_⟩) fun h1 => ?_
  · have h1 : (k : Int) < l.length := h1
    have hk' : k < l.length := by omega
    have hg := List.getElem?_eq_getElem hk'
    generalize l[k] = f at hg
    rw [toNat_ofNat, rd_of (s := sApiLeaf) hg, w_succ63 (by omega)]
    refine callP_eq (ok_lustrumref14_Few (f := f)) (cond_not (fun h => fun q => by cases q) fun h => ?_)
    have hf : f.2.2.1.length ≤ 40 ∧ f.2.2.2.length ≤ 40 := by simpa using h
    refine back _ ⟨k + 1, rfl, hk', fun i g hik hg2 => ?_⟩ (by omega)
    by_cases e : i = k
    · subst e; rw [hg] at hg2; cases hg2; exact hf
    · exact hi i g (by omega) hg2
  · intro h
    have h : (l.length : Int) ≤ 12 := of_decide_eq_true h
    refine ⟨by omega, by omega, fun f hf => ?_⟩
    obtain ⟨i, hi2⟩ := List.getElem?_of_mem hf
    have := (List.getElem?_eq_some_iff.1 hi2).1
    exact hi i f (by have h1 : ¬ (k : Int) < l.length := h1; omega) hi2

theorem FewL.mono {n m : Nat} {l : List Leaf} (h : FewL n l) (hnm : n ≤ m) : FewL m l := ⟨h.1, fun f hf => by have := h.2 f hf; omega⟩

theorem few1000 {l : List Leaf} (h : FewL 40 l) : FewL 1000 l := h.mono (by decide)

end Go.Proofs.YtocmlcpcnjaaeaaGreatDoor.V


/- lustrumlaw17: the laws of the days that are possible, and certain, as conditions on the program's functions alone. No condition of its own. -/
namespace Go.Proofs.YtocmlcpcnjaaeaaGreatDoor.V
open Go
set_option linter.unusedVariables false
set_option linter.unusedSimpArgs false

end Go.Proofs.YtocmlcpcnjaaeaaGreatDoor.V


/- Package order: what its functions answer. No condition of its own. -/
namespace Go.Proofs.YtocmlcpcnjaaeaaGreatDoor.V
open Go
set_option linter.unusedVariables false
set_option linter.unusedSimpArgs false
set_option linter.unusedSectionVars false

theorem ok_order_queue_Len {xs : List Pl} : FnE bs n_order_queue_Len ((Shape.slice sOrderPlace).compsE xs) (.int .i64) (· = (xs.length : Int)) := ok_of (e_order_queue_Len xs _) rfl rfl

theorem ok_cmp_Or {x y : Int} : FnE bs n_cmp_Or ((Shape.slice (.int .i64)).compsE [x, y]) (.int .i64) (· = if x = 0 then y else x) := by
  refine ok_of (e_cmp_Or [x, y] _) rfl ?_
  unfold c_cmp_Or
  refine loopP_of (fun z : Int => ∃ k : Nat, z = k ∧ k ≤ 2 ∧ (1 ≤ k → x = 0) ∧ (2 ≤ k → y = 0)) (fun z => 2 - z.toNat) ?_ ⟨0, rfl, by decide, fun h => by omega, fun h => by omega⟩
  rintro _ A ⟨k, rfl, hk, h1, h2⟩ back
  refine cond_dec (fun q => ?_) fun q => ?_
  · have q : (k : Int) < 2 := q
    refine ⟨⟨by omega, q⟩, ?_⟩
    rw [w_succ (by omega), Int.toNat_natCast]
    match k, h1, h2, q, back with
    | 0, h1, h2, q, back =>
      refine cond_bool (fun e => ?_) fun e => ?_
      · have e : ¬ x = 0 := by simpa [rd] using e
        show x = _
        rw [if_neg e]
      · have e : x = 0 := by simpa [rd] using e
        exact back _ ⟨1, rfl, by decide, fun _ => e, fun h => by omega⟩ (by decide)
    | 1, h1, h2, q, back =>
      have hx := h1 (by decide)
      refine cond_bool (fun e => ?_) fun e => ?_
      · show y = _
        rw [if_pos hx]
      · have e : y = 0 := by simpa [rd] using e
        exact back _ ⟨2, rfl, by decide, fun _ => hx, fun _ => e⟩ (by decide)
    | k + 2, _, _, q, _ => omega
  · have q : ¬ (k : Int) < 2 := q
    show (0 : Int) = _
    rw [if_pos (h1 (by omega)), h2 (by omega)]

/-- How keys compare. -/
def cmpK (a b : Int × Int) : Int := if cmpS a.1 b.1 = 0 then cmpS a.2 b.2 else cmpS a.1 b.1

theorem ok_order_Compare {a b : Int × Int} : FnE bs n_order_Compare ((Shape.pair sRun sRun).compsE (a, b)) (.int .i64) (· = cmpK a b) := by
  refine ok_of (e_order_Compare (a, b) _) rfl ?_
  unfold c_order_Compare
  exact callP_eq ok_cmp_Compare (callP_eq ok_cmp_Compare (callP_eq ok_cmp_Or rfl))

def dP : Pl := (0, (0, 0), false)

theorem cmpS3 (a b : Int) : (cmpS a b = -1 ∧ a < b) ∨ (cmpS a b = 0 ∧ a = b) ∨ (cmpS a b = 1 ∧ b < a) := by
  unfold cmpS
  split
  · exact .inl ⟨rfl, by assumption⟩
  · split
    · exact .inr (.inr ⟨rfl, by assumption⟩)
    · exact .inr (.inl ⟨rfl, by omega⟩)

/-- Is one taken ahead of another one? -/
theorem less_of {a b : Pl} : (if a.2.2 = b.2.2 then (if cmpK a.2.1 b.2.1 = 0 then decide (a.1 < b.1) else decide (cmpK a.2.1 b.2.1 < 0)) else b.2.2) = decide (¬ leP b a) := by
  obtain ⟨a1, ⟨a2, a3⟩, a4⟩ := a
  obtain ⟨b1, ⟨b2, b3⟩, b4⟩ := b
  unfold leP cmpK
  dsimp only
  cases a4 <;> cases b4
  · rw [if_pos rfl]
    rcases cmpS3 a2 b2 with ⟨e1, h1⟩ | ⟨e1, h1⟩ | ⟨e1, h1⟩ <;> rcases cmpS3 a3 b3 with ⟨e2, h2⟩ | ⟨e2, h2⟩ | ⟨e2, h2⟩ <;> rw [e1, e2] <;> apply Bool.eq_iff_iff.2 <;> simp <;> omega
  · simp
  · simp
  · rw [if_pos rfl]
    rcases cmpS3 a2 b2 with ⟨e1, h1⟩ | ⟨e1, h1⟩ | ⟨e1, h1⟩ <;> rcases cmpS3 a3 b3 with ⟨e2, h2⟩ | ⟨e2, h2⟩ | ⟨e2, h2⟩ <;> rw [e1, e2] <;> apply Bool.eq_iff_iff.2 <;> simp <;> omega

theorem ok_order_queue_Less {xs : List Pl} {i k : Nat} (hi : i < xs.length) (hk : k < xs.length) : FnE bs n_order_queue_Less ((Shape.pair (.slice sOrderPlace) (.pair (.int .i64) (.int .i64))).compsE (xs, (i : Int), (k : Int))) .bool (· = decide (¬ leP (HP.el dP xs k) (HP.el dP xs i))) := by
  refine ok_of (e_order_queue_Less (xs, (i : Int), (k : Int)) _) rfl ?_
  unfold c_order_queue_Less
  refine ⟨show (0 : Int) ≤ (i : Int) ∧ (i : Int) < (xs.length : Int) by omega, show (0 : Int) ≤ (k : Int) ∧ (k : Int) < (xs.length : Int) by omega, ?_⟩
  simp only [and_self]
  rw [Int.toNat_natCast, Int.toNat_natCast]
  have e1 : rd sOrderPlace xs i = HP.el dP xs i := rfl
  have e2 : rd sOrderPlace xs k = HP.el dP xs k := rfl
  rw [e1, e2]
  generalize HP.el dP xs i = a
  generalize HP.el dP xs k = b
  rw [← less_of]
  refine cond_bool (fun h => ?_) fun h => ?_
  · have h : ¬ a.2.2 = b.2.2 := by simpa using h
    rw [if_neg h]
  · have h : a.2.2 = b.2.2 := by simpa using h
    rw [if_pos h]
    refine callP_eq (ok_order_Compare (a := a.2.1) (b := b.2.1)) (cond_bool (fun h2 => ?_) fun h2 => ?_)
    · have h2 : ¬ cmpK a.2.1 b.2.1 = 0 := by simpa using h2
      rw [if_neg h2]
    · have h2 : cmpK a.2.1 b.2.1 = 0 := by simpa using h2
      rw [if_pos h2]

theorem ok_order_Of {l : List Leaf} (hl : FewL 1000 l) : FnE bs n_order_Of ((Shape.slice sApiLeaf).compsE l) (.tup (.pair sRun (.int .i64))) (· = (((dayF (·.1) l).1, (dayF (·.2.2.2) l).1), (dayF (·.1) l).2)) := by
  refine ok_of (e_order_Of l _) rfl ?_
  unfold c_order_Of
  exact callP_eq (ok_env_Earliest hl) (callP_eq (ok_env_Latest hl) rfl)

theorem half_eq (j : Nat) (hj : j < 4611686018427387904) : w64 (Int.tdiv (w64 ((j : Int) - 1)) 2) = (((j - 1) / 2 : Nat) : Int) := by
  cases j with
  | zero => rfl
  | succ j =>
    rw [w64_of (n := ((j + 1 : Nat) : Int) - 1) (by omega), tdiv_of (by omega), w64_of (by omega)]
    omega

set_option maxRecDepth 100000 in
theorem ok_order_Sort {l : List (List Leaf)} (hl : ∀ x ∈ l, FewL 1000 x) (hn : l.length ≤ 1000000) : FnE bs n_order_Sort ((Shape.slice (.slice sApiLeaf)).compsE l) (.slice (.int .i64)) (SortR l) := by
  have H1 : HanOK g_order_Sort__heap_Push__heap_up := HanOK.ofLists [] [("Less", .call 108 110 286), ("Swap", .val 108 110 289 g_order_Sort__heap_Push__heap_up__mSwap)] rfl rfl trivial ⟨rfl, HanOK.none rfl rfl, trivial⟩
  have H2 : HanOK g_order_Sort__heap_Push := HanOK.ofLists [(143, .inl g_order_Sort__heap_Push__heap_up)] [("Push", .ptr 108 288 g_order_Sort__heap_Push__mPush), ("Len", .call 108 110 91)] rfl rfl ⟨rfl, H1, trivial⟩ ⟨rfl, HanOK.none rfl rfl, trivial⟩
  have H3 : HanOK g_order_Sort__heap_Pop__heap_down := HanOK.ofLists [] [("Less", .call 108 110 286), ("Swap", .val 108 110 289 g_order_Sort__heap_Pop__heap_down__mSwap)] rfl rfl trivial ⟨rfl, HanOK.none rfl rfl, trivial⟩
  have H4 : HanOK g_order_Sort__heap_Pop := HanOK.ofLists [(144, .inl g_order_Sort__heap_Pop__heap_down)] [("Len", .call 108 110 91), ("Swap", .val 108 110 289 g_order_Sort__heap_Pop__mSwap), ("Pop", .ptr 108 287 g_order_Sort__heap_Pop__mPop)] rfl rfl ⟨rfl, H3, trivial⟩ ⟨rfl, HanOK.none rfl rfl, rfl, HanOK.none rfl rfl, trivial⟩
  refine ok_han (e_order_Sort l _) rfl (HanOK.ofList [(90, .inl g_order_Sort__heap_Push), (92, .inl g_order_Sort__heap_Pop)] rfl rfl ⟨rfl, H2, rfl, H4, trivial⟩) ?_
  unfold c_order_Sort
  refine loopP_of (fun z : Int × List Pl × Unit => ∃ k : Nat, z.1 = k ∧ k ≤ l.length ∧ z.2.1.Perm (placesF (l.take k)) ∧ HP.Heap dP leP z.2.1 z.2.1.length) (fun z => l.length - z.1.toNat) ?_ ⟨0, rfl, Nat.zero_le _, List.Perm.refl _, HP.Heap.nil dP⟩
  rintro ⟨_, xs, _⟩ A ⟨k, e1, hk, hp, hh⟩ back
  dsimp only at e1 hp hh ⊢
  subst e1
  have hxl : xs.length = k := by rw [hp.length_eq, placesF_length, List.length_take]; omega
  refine cond_dec (fun h1 => ⟨⟨by omega, h1⟩, ?_⟩) fun h1 => ?_
  · have h1 : (k : Int) < l.length := h1
    have hk' : k < l.length := by omega
    have hg := List.getElem?_eq_getElem hk'
    have hx := hl l[k] (List.getElem_mem hk')
    have hgd : l.getD k [] = l[k] := by rw [List.getD_eq_getElem?_getD, hg]; rfl
    have hpt := places_take hk'
    rw [hgd] at hpt
    generalize l[k] = x at hg hx hpt
    rw [Int.toNat_natCast, rd_of (s := .slice sApiLeaf) hg, w_succ (by omega)]
    refine callP_eq (ok_order_Of hx) ?_
    refine ⟨by simp only [List.length_cons, List.length_nil]; omega, callP_eq ok_order_queue_Len ?_⟩
    have hkey : (((k : Int), ((dayF (·.1) x).1, (dayF (·.2.2.2) x).1), !decide ((dayF (·.1) x).2 = 0)) : Pl) = ((k : Int), keyF x) := rfl
    dsimp only
    rw [hkey, w64_of (by rw [List.length_append]; simp only [List.length_cons, List.length_nil]; omega)]
    generalize hpp : ((k : Int), keyF x) = p at hpt
    refine loopP_of (fun z : Int × List Pl => ∃ j : Nat, z.1 = j ∧ j < k + 1 ∧ z.2.length = k + 1 ∧ z.2.Perm (xs ++ [p]) ∧ HP.Up dP leP z.2 (k + 1) j) (fun z => z.1.toNat) ?_
      ⟨k, by rw [List.length_append]; simp only [List.length_cons, List.length_nil]; omega, by omega, by rw [List.length_append]; simp only [List.length_cons, List.length_nil]; omega, List.Perm.refl _, by have := HP.Up.start dP (x := p) hh; rw [hxl] at this; exact this⟩
    rintro ⟨_, ys⟩ A2 ⟨j, e1, hj, hyl, hyp, hu⟩ back2
    dsimp only at e1 hyl hyp hu ⊢
    subst e1
    rw [half_eq j (by omega)]
    have hjp : (j - 1) / 2 < k + 1 := by omega
    have fin : HP.Heap dP leP ys (k + 1) → A (((k + 1 : Nat) : Int), ys, ()) := fun q => back (((k + 1 : Nat) : Int), ys, ()) ⟨k + 1, rfl, hk', by dsimp only; rw [hpt]; exact hyp.trans (List.Perm.append_right [p] hp), by dsimp only; rw [hyl]; exact q⟩ (by dsimp only; omega)
    refine ⟨by decide, cond_dec (fun q => ?_) fun q => ?_⟩
    · have q : (((j - 1) / 2 : Nat) : Int) = (j : Int) := q
      exact fin (hu.done dP (.inl (by omega)))
    · have q : ¬ (((j - 1) / 2 : Nat) : Int) = (j : Int) := q
      have hj0 : 0 < j := by omega
      refine callP_eq (ok_order_queue_Less (xs := ys) (i := j) (k := (j - 1) / 2) (by omega) (by omega)) (cond_not (fun q2 => ?_) fun q2 => ?_)
      · have q2 := of_decide_eq_false q2
        exact fin (hu.done dP (.inr (Classical.not_not.1 q2)))
      · have q2 : ¬ leP (HP.el dP ys ((j - 1) / 2)) (HP.el dP ys j) := of_decide_eq_true q2
        have le : leP (HP.el dP ys j) (HP.el dP ys ((j - 1) / 2)) := (ordP.tot _ _).resolve_right q2
        refine ⟨⟨by omega, by omega⟩, ⟨by omega, by omega⟩, ⟨by omega, by omega⟩, ⟨by omega, by rw [List.length_set]; omega⟩, ?_⟩
        rw [Int.toNat_natCast, Int.toNat_natCast]
        refine back2 ((((j - 1) / 2 : Nat) : Int), HP.sw dP ys ((j - 1) / 2) j) ⟨(j - 1) / 2, rfl, hjp, by rw [HP.sw_length]; exact hyl, (HP.sw_perm dP (by omega) (by omega)).trans hyp, hu.step dP ordP (by omega) hj hj0 le⟩ (by dsimp only; omega)
  · have hkl : k = l.length := by have h1 : ¬ (k : Int) < l.length := h1; omega
    subst hkl
    rw [List.take_length] at hp
    refine loopP_of (fun z : Unit × List Pl × Unit × List Int => ∃ taken : List Pl, z.2.2.2 = taken.map (·.1) ∧ Took (placesF l) taken z.2.1 ∧ HP.Heap dP leP z.2.1 z.2.1.length) (fun z => z.2.1.length) ?_ ⟨[], rfl, Took.start _ _ hp, hh⟩
    clear hp hh hxl xs back
    rintro ⟨_, xs, _, out⟩ A3 ⟨taken, e1, ht, hh⟩ back
    dsimp only at e1 ht hh ⊢
    subst e1
    have hlen : taken.length + xs.length = l.length := by
      have := ht.1.length_eq
      rw [List.length_append, placesF_length] at this
      exact this
    refine callP_eq ok_order_queue_Len (cond_dec (fun q => ?_) fun q => ?_)
    · have q : (0 : Int) < (xs.length : Int) := q
      obtain ⟨n, hnx⟩ : ∃ n, xs.length = n + 1 := ⟨xs.length - 1, by omega⟩
      refine callP_eq ok_order_queue_Len ?_
      have hw : w64 ((xs.length : Int) - 1) = (n : Int) := by rw [w64_of (by omega)]; omega
      rw [hw, Int.toNat_natCast]
      refine ⟨⟨by omega, by omega⟩, ⟨by decide, q⟩, ⟨by decide, q⟩, ⟨by omega, by rw [List.length_set]; omega⟩, ?_⟩
      have hx0 := HP.el_sw dP (xs := xs) (i := 0) (j := n) (k := n) (by omega) (by omega)
      rw [if_pos rfl] at hx0
      rw [hnx] at hh
      refine loopP_of (fun z : Int × List Pl => ∃ i : Nat, z.1 = i ∧ i ≤ n ∧ z.2.length = n + 1 ∧ z.2.Perm xs ∧ HP.el dP z.2 n = HP.el dP xs 0 ∧ HP.Down dP leP z.2 n i) (fun z => n + 1 - z.1.toNat) ?_
        ⟨0, rfl, Nat.zero_le _, by show (HP.sw dP xs 0 n).length = n + 1; rw [HP.sw_length]; exact hnx, HP.sw_perm dP (by omega) (by omega), hx0, HP.Down.start dP (by omega) hh⟩
      rintro ⟨_, ys⟩ A4 ⟨i, e1, hi, hyl, hyp, hyn, hd⟩ back4
      dsimp only at e1 hyl hyp hyn hd ⊢
      subst e1
      have hw2 : w64 ((ys.length : Int) - 1) = (n : Int) := by rw [w64_of (by omega)]; omega
      rw [hw2, w_mul2 (by omega), w_succ (a := 2 * i) (by omega), w_succ (a := 2 * i + 1) (by omega)]
      simp only [Int.toNat_natCast]
      have fin : HP.Heap dP leP ys n → chk ((0 : Int) ≤ (n : Int) ∧ (n : Int) < (ys.length : Int)) (chk ((0 : Int) ≤ (n : Int) ∧ (n : Int) ≤ (ys.length : Int)) (chk (((taken.map (·.1)).length + [(rd sOrderPlace ys n).1].length) * 8 ≤ 140737488355328) (A3 ((), List.take n ys, (), taken.map (·.1) ++ [(rd sOrderPlace ys n).1])))) := fun hq => by
        refine ⟨⟨by omega, by omega⟩, ⟨by omega, by omega⟩, by rw [List.length_map]; simp only [List.length_cons, List.length_nil]; omega, ?_⟩
        refine back ((), List.take n ys, (), taken.map (·.1) ++ [(rd sOrderPlace ys n).1]) ⟨taken ++ [HP.el dP ys n], by rw [List.map_append]; rfl, ?_, ?_⟩ (by dsimp only; rw [List.length_take]; omega)
        · refine ht.step (hyp.symm.trans (HP.take_perm dP hyl)) fun b hb => ?_
          rw [hyn]
          obtain ⟨c, hc, he⟩ := List.getElem_of_mem hb
          have := HP.Heap.top dP ordP hh c (by omega)
          have e : HP.el dP xs c = b := by rw [← he]; have := HP.el_get dP hc; rw [List.getElem?_eq_getElem hc] at this; exact (Option.some.inj this).symm
          rw [e] at this
          exact this
        · dsimp only
          rw [List.length_take, show min n ys.length = n by omega]
          exact HP.Heap.take dP (by omega) hq
      have stp : ∀ j : Nat, j < n → (j - 1) / 2 = i → 0 < j → ¬ leP (HP.el dP ys i) (HP.el dP ys j) → (∀ c, 0 < c → c < n → (c - 1) / 2 = i → leP (HP.el dP ys j) (HP.el dP ys c)) →
          chk ((0 : Int) ≤ (j : Int) ∧ (j : Int) < (ys.length : Int)) (chk ((0 : Int) ≤ (i : Int) ∧ (i : Int) < (ys.length : Int)) (chk ((0 : Int) ≤ (i : Int) ∧ (i : Int) < (ys.length : Int)) (chk ((0 : Int) ≤ (j : Int) ∧ (j : Int) < ((List.set ys i (rd sOrderPlace ys j)).length : Int)) (A4 ((j : Int), HP.sw dP ys i j))))) := fun j hj hpar hj0 hlt hks => by
        have le : leP (HP.el dP ys j) (HP.el dP ys i) := (ordP.tot _ _).resolve_right hlt
        refine ⟨⟨by omega, by omega⟩, ⟨by omega, by omega⟩, ⟨by omega, by omega⟩, ⟨by omega, by rw [List.length_set]; omega⟩, ?_⟩
        refine back4 ((j : Int), HP.sw dP ys i j) ⟨j, rfl, by omega, by rw [HP.sw_length]; exact hyl, (HP.sw_perm dP (by omega) (by omega)).trans hyp, ?_, hd.step dP ordP (by omega) hj hj0 hpar le hks⟩ (by dsimp only; omega)
        dsimp only
        rw [HP.el_sw dP (by omega) (by omega), if_neg (by omega), if_neg (by omega)]
        exact hyn
      have child : ∀ c, 0 < c → (c - 1) / 2 = i → c = 2 * i + 1 ∨ c = 2 * i + 2 := fun c h0 h => by omega
      refine cond_dec (fun q1 => ?_) fun q1 => cond_dec (fun q2 => ?_) fun q2 => cond_dec (fun q3 => ?_) fun q3 => ?_
      · have q1 : (n : Int) ≤ ((2 * i + 1 : Nat) : Int) := q1
        exact fin (hd.done dP fun c c0 c1 c2 => by have := child c c0 c2; omega)
      · have q2 : ((2 * i + 1 : Nat) : Int) < 0 := q2
        omega
      · have q1 : ¬ (n : Int) ≤ ((2 * i + 1 : Nat) : Int) := q1
        have q3 : ((2 * i + 1 + 1 : Nat) : Int) < (n : Int) := q3
        refine callP_eq (ok_order_queue_Less (xs := ys) (i := 2 * i + 1 + 1) (k := 2 * i + 1) (by omega) (by omega)) (cond_bool (fun h2 => ?_) fun h2 => ?_)
        · have h2 : ¬ leP (HP.el dP ys (2 * i + 1)) (HP.el dP ys (2 * i + 1 + 1)) := of_decide_eq_true h2
          have h2' : leP (HP.el dP ys (2 * i + 1 + 1)) (HP.el dP ys (2 * i + 1)) := (ordP.tot _ _).resolve_right h2
          have hks : ∀ c, 0 < c → c < n → (c - 1) / 2 = i → leP (HP.el dP ys (2 * i + 1 + 1)) (HP.el dP ys c) := fun c c0 c1 c2 => by
            rcases child c c0 c2 with e | e <;> rw [e]
            · exact h2'
            · rcases ordP.tot (HP.el dP ys (2 * i + 1 + 1)) (HP.el dP ys (2 * i + 2)) with q | q <;> exact q
          refine callP_eq (ok_order_queue_Less (xs := ys) (i := 2 * i + 1 + 1) (k := i) (by omega) (by omega)) (cond_not (fun h3 => ?_) fun h3 => ?_)
          · have h3 := Classical.not_not.1 (of_decide_eq_false h3)
            exact fin (hd.done dP fun c c0 c1 c2 => ordP.trans _ _ _ h3 (hks c c0 c1 c2))
          · exact stp (2 * i + 1 + 1) (by omega) (by omega) (by omega) (of_decide_eq_true h3) hks
        · have h2 : leP (HP.el dP ys (2 * i + 1)) (HP.el dP ys (2 * i + 1 + 1)) := Classical.not_not.1 (of_decide_eq_false h2)
          have hks : ∀ c, 0 < c → c < n → (c - 1) / 2 = i → leP (HP.el dP ys (2 * i + 1)) (HP.el dP ys c) := fun c c0 c1 c2 => by
            rcases child c c0 c2 with e | e <;> rw [e]
            · rcases ordP.tot (HP.el dP ys (2 * i + 1)) (HP.el dP ys (2 * i + 1)) with q | q <;> exact q
            · exact h2
          refine callP_eq (ok_order_queue_Less (xs := ys) (i := 2 * i + 1) (k := i) (by omega) (by omega)) (cond_not (fun h3 => ?_) fun h3 => ?_)
          · have h3 := Classical.not_not.1 (of_decide_eq_false h3)
            exact fin (hd.done dP fun c c0 c1 c2 => ordP.trans _ _ _ h3 (hks c c0 c1 c2))
          · exact stp (2 * i + 1) (by omega) (by omega) (by omega) (of_decide_eq_true h3) hks
      · have q1 : ¬ (n : Int) ≤ ((2 * i + 1 : Nat) : Int) := q1
        have q3 : ¬ ((2 * i + 1 + 1 : Nat) : Int) < (n : Int) := q3
        have hks : ∀ c, 0 < c → c < n → (c - 1) / 2 = i → leP (HP.el dP ys (2 * i + 1)) (HP.el dP ys c) := fun c c0 c1 c2 => by
          rcases child c c0 c2 with e | e
          · rw [e]
            rcases ordP.tot (HP.el dP ys (2 * i + 1)) (HP.el dP ys (2 * i + 1)) with q | q <;> exact q
          · omega
        refine callP_eq (ok_order_queue_Less (xs := ys) (i := 2 * i + 1) (k := i) (by omega) (by omega)) (cond_not (fun h3 => ?_) fun h3 => ?_)
        · have h3 := Classical.not_not.1 (of_decide_eq_false h3)
          exact fin (hd.done dP fun c c0 c1 c2 => ordP.trans _ _ _ h3 (hks c c0 c1 c2))
        · exact stp (2 * i + 1) (by omega) (by omega) (by omega) (of_decide_eq_true h3) hks
    · have q : ¬ (0 : Int) < (xs.length : Int) := q
      have hx : xs = [] := List.length_eq_zero_iff.1 (by omega)
      subst hx
      have := ht.done
      exact ⟨taken, this.1, this.2, rfl⟩
end Go.Proofs.YtocmlcpcnjaaeaaGreatDoor.V


/- Layer 21: what comes ahead; the example; laws OrderIs, OrderRelates. No condition of its own. -/
namespace Go.Proofs.YtocmlcpcnjaaeaaGreatDoor.V
open Go
set_option linter.unusedVariables false
set_option linter.unusedSimpArgs false
set_option linter.unusedSectionVars false

open Classical in
/-- A day of families, as a function value. -/
noncomputable def gDay (s : Q4 → Int) : List Leaf → Option (Int × Int) := fun l => if FewL 1000 l then some (dayF s l) else none

theorem gDay_spec {f : FuncId} {s : Q4 → Int} (h : ∀ {l : List Leaf}, FewL 1000 l → FnE bs f ((Shape.slice sApiLeaf).compsE l) (.tup (.pair (.int .i64) (.int .i64))) (· = dayF s l)) : CloSpec bs f [] [] (.slice sApiLeaf) (.tup (.pair (.int .i64) (.int .i64))) (gDay s) := by
  refine ⟨(h (l := []) ⟨by decide, fun f hf => by cases hf⟩).1, fun l r hr => ?_⟩
  rw [List.nil_append, List.append_nil]
  unfold gDay at hr
  split at hr
  · rename_i hv
    cases hr
    exact h hv
  · cases hr

/-- Does a day of some families come ahead of one of others? -/
def certF (s1 s2 : Q4 → Int) (l m : List Leaf) : Bool × Int := match allF l, allF m with
  | some p, some q => (decide (s1 p < s2 q), 0)
  | _, _ => (false, 9)

theorem ok_order_ahead {l m : List Leaf} {s1 s2 : Q4 → Int} (hl : FewL 1000 l) (hm : FewL 1000 m) : FnE bs n_order_ahead ((Shape.pair (.slice sApiLeaf) (.pair (.slice sApiLeaf) (.pair (.func (.slice sApiLeaf) (.tup (.pair (.int .i64) (.int .i64)))) (.func (.slice sApiLeaf) (.tup (.pair (.int .i64) (.int .i64))))))).compsE (l, m, gDay s1, gDay s2)) (.tup (.pair .bool (.int .i64))) (· = certF s1 s2 l m) := by
  refine ok_of (e_order_ahead (l, m, gDay s1, gDay s2) _) rfl ?_
  unfold c_order_ahead certF
  refine gcall_eq (r := dayF s1 l) (by unfold gDay; exact if_pos hl) ?_
  have h1 : dayF s1 l = match allF l with | none => (0, 9) | some q => (s1 q, 0) := rfl
  have h2 : dayF s2 m = match allF m with | none => (0, 9) | some q => (s2 q, 0) := rfl
  cases e1 : allF l with
  | none =>
    rw [e1] at h1
    rw [h1]
    exact cond_yes rfl rfl
  | some p =>
    rw [e1] at h1
    rw [h1]
    refine cond_no rfl (gcall_eq (r := dayF s2 m) (by unfold gDay; exact if_pos hm) ?_)
    cases e2 : allF m with
    | none =>
      rw [e2] at h2
      rw [h2]
      exact cond_no rfl rfl
    | some q =>
      rw [e2] at h2
      rw [h2]
      exact cond_yes rfl rfl

theorem ok_order_Certainly {l m : List Leaf} (hl : FewL 1000 l) (hm : FewL 1000 m) : FnE bs n_order_Certainly ((Shape.pair (.slice sApiLeaf) (.slice sApiLeaf)).compsE (l, m)) (.tup (.pair .bool (.int .i64))) (· = certF (·.2.2.2) (·.1) l m) := by
  refine ok_of (e_order_Certainly (l, m) _) rfl ?_
  unfold c_order_Certainly
  exact ⟨gDay (·.2.2.2), gDay_spec ok_env_Latest, gDay (·.1), gDay_spec ok_env_Earliest, callP_eq (ok_order_ahead hl hm) rfl⟩

theorem ok_order_Possibly {l m : List Leaf} (hl : FewL 1000 l) (hm : FewL 1000 m) : FnE bs n_order_Possibly ((Shape.pair (.slice sApiLeaf) (.slice sApiLeaf)).compsE (l, m)) (.tup (.pair .bool (.int .i64))) (· = certF (·.2.2.1) (·.2.1) l m) := by
  refine ok_of (e_order_Possibly (l, m) _) rfl ?_
  unfold c_order_Possibly
  exact ⟨gDay (·.2.2.1), gDay_spec ok_env_FirstEnd, gDay (·.2.1), gDay_spec ok_env_LastStart, callP_eq (ok_order_ahead hl hm) rfl⟩

theorem leP_anti {a b : Pl} (h : leP a b) (k : leP b a) : a = b := by
  obtain ⟨a1, ⟨a2, a3⟩, a4⟩ := a
  obtain ⟨b1, ⟨b2, b3⟩, b4⟩ := b
  unfold leP at h k
  dsimp only at h k
  cases a4 <;> cases b4 <;> simp at h k ⊢ <;> omega

/-- Things in order stand in one order alone. -/
theorem sort_unique : ∀ {a b : List Pl}, a.Perm b → a.Pairwise leP → b.Pairwise leP → a = b
  | [], b, h, _, _ => (h.nil_eq)
  | x :: t, [], h, _, _ => by have := h.length_eq; simp at this
  | x :: t, y :: u, h, ha, hb => by
    have ha' := List.pairwise_cons.1 ha
    have hb' := List.pairwise_cons.1 hb
    have hxy : x = y := by
      have h1 : x ∈ y :: u := h.subset (List.mem_cons_self ..)
      have h2 : y ∈ x :: t := h.symm.subset (List.mem_cons_self ..)
      rcases List.mem_cons.1 h1 with e | h1
      · exact e
      · rcases List.mem_cons.1 h2 with e | h2
        · exact e.symm
        · exact leP_anti (ha'.1 y h2) (hb'.1 x h1)
    subst hxy
    rw [sort_unique (List.Perm.cons_inv h) ha'.2 hb'.2]

def exO : List (List Leaf) := [[(false, 3, [(5, 5)], [])], [], [(false, 3, [(4, 4)], [])]]
def yrs (lo hi : Int) : List Leaf := [(false, 3, [(lo, hi)], [])]
theorem yrs_few {lo hi : Int} : FewL 1000 (yrs lo hi) := ⟨by simp [yrs], fun f hf => by cases List.mem_singleton.1 hf; simp⟩

theorem ex_places : placesF exO = [HP.el dP (placesF exO) 0, HP.el dP (placesF exO) 1, HP.el dP (placesF exO) 2] := by decide +kernel
theorem ex_sorted : [HP.el dP (placesF exO) 2, HP.el dP (placesF exO) 0, HP.el dP (placesF exO) 1].Pairwise leP := by decide +kernel
theorem ex_at : [HP.el dP (placesF exO) 2, HP.el dP (placesF exO) 0, HP.el dP (placesF exO) 1].map (·.1) = [2, 0, 1] := by decide +kernel
theorem ex_sort {out : List Int} (h : SortR exO out) : out = [2, 0, 1] := by
  obtain ⟨ps, h1, h2, rfl⟩ := h
  have hp : [HP.el dP (placesF exO) 2, HP.el dP (placesF exO) 0, HP.el dP (placesF exO) 1].Perm (placesF exO) := by
    conv => rhs; rw [ex_places]
    exact List.perm_append_comm (l₁ := [HP.el dP (placesF exO) 2]) (l₂ := [HP.el dP (placesF exO) 0, HP.el dP (placesF exO) 1])
  rw [sort_unique (h1.trans hp.symm) h2 ex_sorted]
  exact ex_at

theorem ex_c1 : certF (·.2.2.2) (·.1) (yrs 1984 1984) (yrs 1985 1985) = (true, 0) := by decide +kernel
theorem ex_c2 : certF (·.2.2.1) (·.2.1) (yrs 1980 1989) (yrs 1984 1984) = (true, 0) := by decide +kernel
theorem ex_c3 : certF (·.2.2.2) (·.1) (yrs 1980 1989) (yrs 1984 1984) = (false, 0) := by decide +kernel
theorem ex_k : (((dayF (·.1) (yrs 1 1)).1, (dayF (·.2.2.2) (yrs 1 1)).1), (dayF (·.1) (yrs 1 1)).2) = ((366, 730), 0) := by decide +kernel

theorem ok_lustrumlaw21_years {lo hi : Int} : FnE bs n_lustrumlaw21_years ((Shape.pair (.int .i64) (.int .i64)).compsE (lo, hi)) (.slice sApiLeaf) (· = yrs lo hi) := ok_of (e_lustrumlaw21_years (lo, hi) _) rfl rfl

theorem ok_lustrumlaw21_awake : FnE bs n_lustrumlaw21_awake ((Shape.unit).compsE ()) .bool (· = true) := by
  refine ok_of (e_lustrumlaw21_awake _) rfl ?_
  unfold c_lustrumlaw21_awake
  refine callP_eq ok_lustrumlaw21_years (callP_eq ok_lustrumlaw21_years (callP_eq (ok_order_Certainly yrs_few yrs_few) ?_))
  rw [ex_c1]
  refine callP_eq ok_lustrumlaw21_years (callP_eq ok_lustrumlaw21_years (callP_eq (ok_order_Possibly yrs_few yrs_few) ?_))
  rw [ex_c2]
  refine callP_eq ok_lustrumlaw21_years (callP_eq ok_lustrumlaw21_years (callP_eq (ok_order_Certainly yrs_few yrs_few) ?_))
  rw [ex_c3]
  refine callP_eq ok_lustrumlaw21_years (callP_eq (ok_order_Of yrs_few) ?_)
  rw [ex_k]
  refine callP_eq ok_lustrumlaw21_years (callP_eq ok_lustrumlaw21_years (callP_of (ok_order_Sort (l := exO) (fun x hx => ?_) (by decide)) fun out hout => ?_))
  · have hx : x ∈ [yrs 5 5, [], yrs 4 4] := hx
    simp only [List.mem_cons, List.not_mem_nil, or_false] at hx
    rcases hx with rfl | rfl | rfl
    · exact yrs_few
    · exact ⟨by decide, fun f hf => by cases hf⟩
    · exact yrs_few
  · have := ex_sort hout
    subst this
    refine cond_yes rfl (cond_yes rfl (cond_yes rfl (cond_yes rfl (cond_yes rfl (cond_yes rfl (cond_yes rfl (cond_yes rfl (cond_yes rfl (cond_yes rfl ⟨by decide, cond_yes rfl ⟨by decide, cond_yes rfl ⟨by decide, cond_yes rfl (callP_eq ok_order_Compare ?_)⟩⟩⟩)))))))))
    decide

theorem ok_ref21_Of {l : List Leaf} (hl : FewL 1000 l) : FnE bs n_lustrumref21_Of ((Shape.slice sApiLeaf).compsE l) (.tup (.pair sRun (.int .i64))) (· = (((dayF (·.1) l).1, (dayF (·.2.2.2) l).1), (dayF (·.1) l).2)) := by
  refine ok_of (e_lustrumref21_Of l _) rfl ?_
  unfold c_lustrumref21_Of
  refine callP_eq (ok_ref16_Earliest hl) (callP_eq (ok_ref16_Latest hl) ?_)
  unfold dayF
  cases allF l with
  | none => exact cond_yes rfl rfl
  | some p => exact cond_no rfl rfl

theorem ok_ref21_Compare {a b : Int × Int} : FnE bs n_lustrumref21_Compare ((Shape.pair sRun sRun).compsE (a, b)) (.int .i64) (· = cmpK a b) := by
  refine ok_of (e_lustrumref21_Compare (a, b) _) rfl ?_
  unfold c_lustrumref21_Compare cmpK
  obtain ⟨a1, a2⟩ := a
  obtain ⟨b1, b2⟩ := b
  dsimp only
  rcases cmpS3 a1 b1 with ⟨e1, h1⟩ | ⟨e1, h1⟩ | ⟨e1, h1⟩ <;> rw [e1]
  · exact cond_yes (decide_eq_true h1) rfl
  · refine cond_no (decide_eq_false (by omega)) (cond_yes (decide_eq_true h1) ?_)
    rcases cmpS3 a2 b2 with ⟨e2, h2⟩ | ⟨e2, h2⟩ | ⟨e2, h2⟩ <;> rw [e2]
    · exact cond_yes (decide_eq_true h2) rfl
    · exact cond_no (decide_eq_false (by omega)) (cond_yes (by simp [h1, h2]) rfl)
    · exact cond_no (decide_eq_false (by omega)) (cond_no (by simp; omega) rfl)
  · refine cond_no (decide_eq_false (by omega)) (cond_no (decide_eq_false (by omega)) (cond_no ?_ rfl))
    simp; omega

end Go.Proofs.YtocmlcpcnjaaeaaGreatDoor.V


/- Layer 21's laws OrderKeys, OrderCompare, OrderPairs, OrderThree. No condition of its own. -/
namespace Go.Proofs.YtocmlcpcnjaaeaaGreatDoor.V
open Go
set_option linter.unusedVariables false
set_option linter.unusedSimpArgs false
set_option linter.unusedSectionVars false

theorem day_some {s : Q4 → Int} {l : List Leaf} {p : Q4} (h : allF l = some p) : dayF s l = (s p, 0) := by unfold dayF; rw [h]
theorem day_none {s : Q4 → Int} {l : List Leaf} (h : allF l = none) : dayF s l = (0, 9) := by unfold dayF; rw [h]

end Go.Proofs.YtocmlcpcnjaaeaaGreatDoor.V


/- Layer 21's law OrderRises. No condition of its own. -/
namespace Go.Proofs.YtocmlcpcnjaaeaaGreatDoor.V
open Go
set_option linter.unusedVariables false
set_option linter.unusedSimpArgs false
set_option linter.unusedSectionVars false

theorem ok_lustrumlaw21_few {l : List (List Leaf)} (hl : l.length ≤ 9223372036854775807) (hx : ∀ x ∈ l, x.length ≤ 9223372036854775807) : FnE bs n_lustrumlaw21_few ((Shape.slice (.slice sApiLeaf)).compsE l) .bool (fun r => r = true → l.length ≤ 20 ∧ ∀ x ∈ l, FewL 40 x) := by
  refine ok_of (e_lustrumlaw21_few l _) rfl ?_
  unfold c_lustrumlaw21_few
  refine loopP_of (fun z : Int => ∃ k : Nat, z = k ∧ k ≤ l.length ∧ ∀ (i : Nat) x, i < k → l[i]? = some x → FewL 40 x) (fun z => l.length - z.toNat) ?_ ⟨0, rfl, Nat.zero_le _, fun i f h => by omega⟩
  rintro _ A ⟨k, rfl, hk, hi⟩ back
  refine cond_dec (fun h1 => ⟨⟨by omega, h1⟩, ?_⟩) fun h1 => ?_
  · have h1 : (k : Int) < l.length := h1
    have hk' : k < l.length := by omega
    have hg := List.getElem?_eq_getElem hk'
    have hxl := hx l[k] (List.getElem_mem hk')
    generalize l[k] = x at hg hxl
    rw [Int.toNat_natCast, rd_of (s := .slice sApiLeaf) hg, w_succ63 (by omega)]
    refine callP_of (ok_lustrumref15_Few hxl) fun r hr => cond_not (fun h => fun q => by cases q) fun h => ?_
    refine back _ ⟨k + 1, rfl, hk', fun i g hik hg2 => ?_⟩ (by omega)
    by_cases e : i = k
    · subst e; rw [hg] at hg2; cases hg2; exact (hr h).2
    · exact hi i g (by omega) hg2
  · intro h
    have h : (l.length : Int) ≤ 20 := of_decide_eq_true h
    refine ⟨by omega, fun x hx => ?_⟩
    obtain ⟨i, hi2⟩ := List.getElem?_of_mem hx
    have := (List.getElem?_eq_some_iff.1 hi2).1
    exact hi i x (by have h1 : ¬ (k : Int) < l.length := h1; omega) hi2

theorem mem_places {l : List (List Leaf)} {p : Pl} (h : p ∈ placesF l) : ∃ k : Nat, k < l.length ∧ p = ((k : Int), keyF (l.getD k [])) := by
  unfold placesF at h
  obtain ⟨k, hk, rfl⟩ := List.mem_map.1 h
  exact ⟨k, List.mem_range.1 hk, rfl⟩

end Go.Proofs.YtocmlcpcnjaaeaaGreatDoor.V

