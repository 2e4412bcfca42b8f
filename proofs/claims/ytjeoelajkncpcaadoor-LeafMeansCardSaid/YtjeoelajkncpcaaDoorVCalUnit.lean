/- Plain facts about months and the units made of them: each unit is the days from its first month's first one up to the next unit's. No program in sight. -/
import Derived.Test.YtjeoelajkncpcaaDoorVCal
set_option linter.unusedVariables false
namespace Go.Proofs.YtjeoelajkncpcaaDoor.VCal

def mfirst (k : Int) : Int := num (k / 12) (k % 12 + 1) 1
def mon (n : Int) : Int := 12 * (dateOf n).1 + (dateOf n).2.1 - 1
theorem mfirst_succ {k : Int} (h : 0 ≤ k) : mfirst (k + 1) = mfirst k + mlen (k / 12) (k % 12 + 1) := by
  unfold mfirst
  by_cases e : k % 12 = 11
  · rw [show (k + 1) / 12 = k / 12 + 1 by omega, show (k + 1) % 12 + 1 = 1 by omega, e, num_december]
    rfl
  · rw [show (k + 1) / 12 = k / 12 by omega, show (k + 1) % 12 + 1 = k % 12 + 1 + 1 by omega, num_month (by omega) (by omega)]
theorem mfirst_step {k : Int} (h : 0 ≤ k) : mfirst k + 28 ≤ mfirst (k + 1) ∧ mfirst (k + 1) ≤ mfirst k + 31 := by
  rw [mfirst_succ h]
  have := mlen_pos (y := k / 12) (m := k % 12 + 1) (by omega) (by omega)
  omega
theorem mfirst_add {k : Int} (h : 0 ≤ k) (j : Nat) : mfirst k + 28 * j ≤ mfirst (k + j) := by
  induction j with
  | zero => simp
  | succ j ih =>
    have := mfirst_step (k := k + j) (by omega)
    rw [show k + ((j + 1 : Nat) : Int) = k + j + 1 by omega]
    omega
theorem mfirst_mono {a b : Int} (h : 0 ≤ a) (hab : a ≤ b) : mfirst a ≤ mfirst b := by
  have := mfirst_add h (b - a).toNat
  rw [show a + ((b - a).toNat : Int) = b by omega] at this
  omega
theorem mfirst_lt {a b : Int} (h : 0 ≤ a) (hab : a < b) : mfirst a + 28 ≤ mfirst b := by
  have := mfirst_add h (b - a).toNat
  rw [show a + ((b - a).toNat : Int) = b by omega] at this
  omega
theorem mfirst_0 : mfirst 0 = 0 := by decide
theorem mfirst_120000 : mfirst 120000 = 3652425 := by decide
theorem mon_spec {n : Int} (h : 0 ≤ n ∧ n ≤ 3652424) : (0 ≤ mon n ∧ mon n < 120000) ∧ mfirst (mon n) ≤ n ∧ n < mfirst (mon n + 1) := by
  obtain ⟨v, e⟩ := date_num h
  have hm := valid_month v
  obtain ⟨v0, v1, v2, v3⟩ := v
  have hd : (mon n) / 12 = (dateOf n).1 ∧ (mon n) % 12 + 1 = (dateOf n).2.1 := by unfold mon; omega
  have hp : 0 ≤ mon n ∧ mon n < 120000 := by unfold mon; omega
  have hf : mfirst (mon n) = num (dateOf n).1 (dateOf n).2.1 1 := by unfold mfirst; rw [hd.1, hd.2]
  have hs := mfirst_succ hp.1
  rw [hd.1, hd.2] at hs
  have := num_day (dateOf n).1 (dateOf n).2.1 (dateOf n).2.2
  exact ⟨hp, by omega, by omega⟩
theorem le_mon {n k : Int} (h : 0 ≤ n ∧ n ≤ 3652424) (hk : 0 ≤ k) : mfirst k ≤ n ↔ k ≤ mon n := by
  obtain ⟨h0, h1, h2⟩ := mon_spec h
  constructor
  · intro hl
    apply Classical.byContradiction
    intro hn
    have := mfirst_mono (a := mon n + 1) (b := k) (by omega) (by omega)
    omega
  · intro hl
    have := mfirst_mono hk hl
    omega
theorem mfirst_bounds {k : Int} (h : 0 ≤ k ∧ k < 120000) : 0 ≤ mfirst k ∧ mfirst k ≤ 3652424 := by
  have := mfirst_mono (a := 0) (b := k) (by omega) h.1
  have := mfirst_lt h.1 h.2
  rw [mfirst_0] at *
  rw [mfirst_120000] at *
  omega
theorem mon_mfirst {k : Int} (h : 0 ≤ k ∧ k < 120000) : mon (mfirst k) = k := by
  have hb := mfirst_bounds h
  have h1 := (le_mon hb h.1).mp (Int.le_refl _)
  have h2 : ¬ k + 1 ≤ mon (mfirst k) := by
    intro z
    have := (le_mon hb (by omega)).mpr z
    have := mfirst_step h.1
    omega
  omega
theorem valid_first {k : Int} (h : 0 ≤ k ∧ k < 120000) : Valid (k / 12) (k % 12 + 1) 1 := by
  have := mlen_pos (y := k / 12) (m := k % 12 + 1) (by omega) (by omega)
  exact ⟨by omega, by omega, by omega, by omega⟩

/-- Kinds of units: how many months each, the first one's month, how many units. -/
def tab (kind : Int) : Option (Int × Int × Int) := if kind = 1 then some (1, 0, 120000) else if kind = 2 then some (3, 2, 40000) else if kind = 3 then some (12, 0, 10000) else if kind = 4 then some (120, 0, 1000) else if kind = 5 then some (1200, 0, 100) else none
theorem tab_cases {kind m f c : Int} (h : tab kind = some (m, f, c)) : (kind = 1 ∧ m = 1 ∧ f = 0 ∧ c = 120000) ∨ (kind = 2 ∧ m = 3 ∧ f = 2 ∧ c = 40000) ∨ (kind = 3 ∧ m = 12 ∧ f = 0 ∧ c = 10000) ∨ (kind = 4 ∧ m = 120 ∧ f = 0 ∧ c = 1000) ∨ (kind = 5 ∧ m = 1200 ∧ f = 0 ∧ c = 100) := by
  unfold tab at h
  repeat' (split at h)
  all_goals first | (simp at h; omega) | cases h
def ucount (kind : Int) : Int := if kind = 0 then 3652425 else match tab kind with | some (_, _, c) => c | none => 0
def ufirst (kind i : Int) : Int := if kind = 0 then i else match tab kind with | some (m, f, _) => mfirst (f + m * i) | none => 0
def ulast (kind i : Int) : Int := if i = ucount kind - 1 then 3652424 else ufirst kind (i + 1) - 1
/-- The unit in which a day is, if there is one. -/
def uof (kind day : Int) : Option Int := if 0 ≤ day ∧ day ≤ 3652424 then (if kind = 0 then some day else match tab kind with | some (m, f, _) => if mon day - f < 0 then none else some ((mon day - f) / m) | none => none) else none
theorem ucount_0 : ucount 0 = 3652425 := rfl
theorem ucount_pos (kind : Int) : 0 ≤ ucount kind ∧ ucount kind ≤ 3652425 := by
  unfold ucount
  split
  · omega
  · split
    · rename_i m f c h; have := tab_cases h; omega
    · omega
theorem tab_fit {kind m f c i : Int} (h : tab kind = some (m, f, c)) (h0 : 0 ≤ i) (h1 : i < c) : 0 ≤ f + m * i ∧ f + m * i < 120000 ∧ (i < c - 1 → f + m * (i + 1) < 120000) ∧ (i = c - 1 → 120000 ≤ f + m * (i + 1)) := by
  rcases tab_cases h with ⟨rfl, rfl, rfl, rfl⟩ | ⟨rfl, rfl, rfl, rfl⟩ | ⟨rfl, rfl, rfl, rfl⟩ | ⟨rfl, rfl, rfl, rfl⟩ | ⟨rfl, rfl, rfl, rfl⟩ <;> omega
theorem uof_some {kind day n : Int} : uof kind day = some n ↔ (0 ≤ n ∧ n < ucount kind ∧ ufirst kind n ≤ day ∧ day ≤ ulast kind n) := by
  unfold uof ulast
  by_cases h0 : kind = 0
  · subst h0
    have e : ∀ i, ufirst 0 i = i := fun i => rfl
    rw [ucount_0, e, e]
    simp only [if_true]
    by_cases hd : 0 ≤ day ∧ day ≤ 3652424
    · rw [if_pos hd]
      constructor
      · intro h; obtain rfl := Option.some.inj h; refine ⟨by omega, by omega, by omega, ?_⟩; split <;> omega
      · rintro ⟨a, b, c, d⟩; congr 1; split at d <;> omega
    · rw [if_neg hd]
      constructor
      · intro h; cases h
      · rintro ⟨a, b, c, d⟩; exfalso; split at d <;> omega
  · rw [if_neg h0]
    cases ht : tab kind with
    | none =>
      have hc : ucount kind = 0 := by unfold ucount; rw [if_neg h0, ht]
      constructor
      · intro h; split at h <;> cases h
      · rintro ⟨a, b, _⟩; omega
    | some t =>
      obtain ⟨m, f, c⟩ := t
      have hc : ucount kind = c := by unfold ucount; rw [if_neg h0, ht]
      have hu : ∀ i, ufirst kind i = mfirst (f + m * i) := by intro i; unfold ufirst; rw [if_neg h0, ht]
      have hm : 1 ≤ m ∧ 0 ≤ f := by have := tab_cases ht; omega
      rw [hc, hu, hu]
      by_cases hd : 0 ≤ day ∧ day ≤ 3652424
      · rw [if_pos hd]
        obtain ⟨hb, hl, hg⟩ := mon_spec hd
        constructor
        · intro h
          simp only at h
          split at h
          · cases h
          · rename_i hf
            obtain rfl := Option.some.inj h
            have q1 := Int.mul_ediv_self_le (x := mon day - f) (k := m) (by omega)
            have q2 := Int.lt_mul_ediv_self_add (x := mon day - f) (k := m) (by omega)
            have q0 := Int.ediv_nonneg (a := mon day - f) (b := m) (by omega) (by omega)
            generalize (mon day - f) / m = n at *
            have hn : n < c := by rcases tab_cases ht with ⟨_, rfl, rfl, rfl⟩ | ⟨_, rfl, rfl, rfl⟩ | ⟨_, rfl, rfl, rfl⟩ | ⟨_, rfl, rfl, rfl⟩ | ⟨_, rfl, rfl, rfl⟩ <;> omega
            refine ⟨q0, hn, (le_mon hd (by have := tab_fit ht q0 hn; omega)).mpr (by omega), ?_⟩
            split
            · omega
            · have hk := tab_fit ht q0 hn
              have : ¬ f + m * (n + 1) ≤ mon day := by rw [Int.mul_add, Int.mul_one]; omega
              have : ¬ mfirst (f + m * (n + 1)) ≤ day := fun z => this ((le_mon hd (by rw [Int.mul_add, Int.mul_one]; omega)).mp z)
              omega
        · rintro ⟨n0, n1, n2, n3⟩
          have hk := tab_fit ht n0 n1
          have a1 := (le_mon hd hk.1).mp n2
          have a2 : mon day < f + m * (n + 1) := by
            by_cases e : n = c - 1
            · have := hk.2.2.2 e; omega
            · rw [if_neg e] at n3
              have hp : 0 ≤ f + m * (n + 1) := by rw [Int.mul_add, Int.mul_one]; omega
              have : ¬ f + m * (n + 1) ≤ mon day := fun z => by have := (le_mon hd hp).mpr z; omega
              omega
          simp only
          have : 0 ≤ m * n := Int.mul_nonneg (by omega) n0
          rw [if_neg (by omega)]
          congr 1
          rw [Int.ediv_eq_iff_of_pos (by omega)]
          rw [Int.mul_add, Int.mul_one] at a2
          rw [Int.mul_comm] at this
          constructor
          · rw [Int.mul_comm]; omega
          · rw [Int.mul_comm n m]; omega
      · rw [if_neg hd]
        constructor
        · intro h; cases h
        · rintro ⟨n0, n1, n2, n3⟩
          exfalso
          have hk := tab_fit ht n0 n1
          have b := mfirst_bounds ⟨hk.1, hk.2.1⟩
          split at n3
          · omega
          · have b' := mfirst_bounds (k := f + m * (n + 1)) ⟨by rw [Int.mul_add, Int.mul_one]; omega, hk.2.2.1 (by omega)⟩
            omega
theorem unit_in {kind i : Int} (h0 : 0 ≤ i) (h1 : i < ucount kind) : 0 ≤ ufirst kind i ∧ ufirst kind i ≤ ulast kind i ∧ ulast kind i ≤ 3652424 := by
  unfold ulast
  by_cases hk : kind = 0
  · subst hk
    have e : ∀ i, ufirst 0 i = i := fun i => rfl
    rw [ucount_0] at h1 ⊢
    rw [e, e]
    split <;> omega
  · cases ht : tab kind with
    | none => have hc : ucount kind = 0 := by unfold ucount; rw [if_neg hk, ht]
              omega
    | some t =>
      obtain ⟨m, f, c⟩ := t
      have hc : ucount kind = c := by unfold ucount; rw [if_neg hk, ht]
      have hu : ∀ i, ufirst kind i = mfirst (f + m * i) := by intro i; unfold ufirst; rw [if_neg hk, ht]
      have hm : 1 ≤ m ∧ 0 ≤ f := by have := tab_cases ht; omega
      rw [hc] at h1 ⊢
      rw [hu, hu]
      have hf := tab_fit ht h0 h1
      have b := mfirst_bounds ⟨hf.1, hf.2.1⟩
      split
      · omega
      · have b' := mfirst_bounds (k := f + m * (i + 1)) ⟨by rw [Int.mul_add, Int.mul_one]; omega, hf.2.2.1 (by omega)⟩
        have := mfirst_lt (a := f + m * i) (b := f + m * (i + 1)) hf.1 (by rw [Int.mul_add, Int.mul_one]; omega)
        omega
theorem ulast_next {kind i : Int} (h1 : i < ucount kind - 1) : ufirst kind (i + 1) = ulast kind i + 1 := by
  unfold ulast
  rw [if_neg (by omega)]
  omega
theorem ulast_last {kind : Int} : ulast kind (ucount kind - 1) = 3652424 := by
  unfold ulast
  rw [if_pos rfl]
end Go.Proofs.YtjeoelajkncpcaaDoor.VCal
