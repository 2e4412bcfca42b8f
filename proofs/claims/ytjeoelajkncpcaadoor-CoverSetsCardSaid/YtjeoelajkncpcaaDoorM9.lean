/- The calculus of the program's functions and their contracts, part 9. No condition of its own. -/
import Derived.Test.YtjeoelajkncpcaaDoorM8

/- lustrumlaw14.LeafMore as a condition on the program's functions. No condition of its own. -/
namespace Go.Proofs.YtjeoelajkncpcaaDoor.V
open Go
set_option linter.unusedVariables false
set_option linter.unusedSimpArgs false

theorem within_of {s : Runs} {m : Int} (h : Sane s) (k : ∀ n, mem s n → 0 ≤ n ∧ n ≤ m) : Within s m := by
  refine ⟨h, ?_⟩
  by_cases e : s = []
  · exact .inl e
  · exact .inr ⟨(k _ (mem_lo h e)).1, (k _ (mem_hi h e)).2⟩

theorem mem_union {a b : Runs} (ha : Sane a) (hb : Sane b) {n : Int} : mem (makeF (a ++ b)) n ↔ mem a n ∨ mem b n := by
  rw [mem_make]
  unfold memL
  rw [mem_append]
  constructor
  · exact fun h => h.2.2
  · rintro (h | h)
    · have := mem_lim ha h; exact ⟨this.1, this.2, .inl h⟩
    · have := mem_lim hb h; exact ⟨this.1, this.2, .inr h⟩

theorem within_union {a b : Runs} {m : Int} (ha : Within a m) (hb : Within b m) : Within (makeF (a ++ b)) m :=
  within_of (make_sane _) fun n hn => ((mem_union ha.1 hb.1).1 hn).elim (fun h => Within.bounds ha h) fun h => Within.bounds hb h

theorem of_none {f : Leaf} : ofF f = none ↔ ∀ p, ¬ HasF f p := by
  rw [← fam_some]
  constructor
  · intro h p hp
    have := fam_has hp
    rw [h] at this
    cases this
  · intro h
    cases e : famPairs (ofF f) with
    | nil => rfl
    | cons p l => exact absurd (fam_pair (p := p) (by rw [e]; exact List.mem_cons_self)).2.1 (h p)

theorem covers_of {f g : Leaf} (h : ∀ p, HasF f p → HasF g p) {d : Int} (k : CoversF f d) : CoversF g d := by
  obtain ⟨p, hp, h1, h2⟩ := fam_covers k
  have hg := fam_has (h p (fam_pair hp).2.1)
  exact (fam_pair hg).2.2 d h1 h2

theorem more_span {A A' B B' : Runs} (hf : LeafSane (true, 0, A, B)) (hg : LeafSane (true, 0, A', B')) :
    LeafSane (true, 0, makeF (A ++ A'), B) ∧ LeafSane (true, 0, A', B) ∧ ∀ p, HasF (true, 0, makeF (A ++ A'), B) p ↔ HasF (true, 0, A, B) p ∨ HasF (true, 0, A', B) p := by
  have hf' := hf
  have hg' := hg
  unfold LeafSane at hf' hg'
  rw [if_pos rfl] at hf' hg'
  have h1 : LeafSane (true, 0, makeF (A ++ A'), B) := by unfold LeafSane; rw [if_pos rfl]; exact ⟨rfl, within_union hf'.2.1 hg'.2.1, hf'.2.2⟩
  have h2 : LeafSane (true, 0, A', B) := by unfold LeafSane; rw [if_pos rfl]; exact ⟨rfl, hg'.2.1, hf'.2.2⟩
  refine ⟨h1, h2, fun p => ?_⟩
  rw [has_span h1 rfl, has_span hf rfl, has_span h2 rfl]
  dsimp only
  rw [mem_union hf'.2.1.1 hg'.2.1.1]
  constructor
  · rintro ⟨a, b | b, c⟩
    · exact .inl ⟨a, b, c⟩
    · exact .inr ⟨a, b, c⟩
  · rintro (⟨a, b, c⟩ | ⟨a, b, c⟩)
    · exact ⟨a, .inl b, c⟩
    · exact ⟨a, .inr b, c⟩

theorem more_units {u : Int} {A A' B B' : Runs} (hf : LeafSane (false, u, A, B)) (hg : LeafSane (false, u, A', B')) :
    LeafSane (false, u, makeF (A ++ A'), B) ∧ LeafSane (false, u, A', B) ∧ ∀ p, HasF (false, u, makeF (A ++ A'), B) p ↔ HasF (false, u, A, B) p ∨ HasF (false, u, A', B) p := by
  have hf' := hf
  have hg' := hg
  unfold LeafSane at hf' hg'
  rw [if_neg Bool.false_ne_true] at hf' hg'
  have h1 : LeafSane (false, u, makeF (A ++ A'), B) := by unfold LeafSane; rw [if_neg Bool.false_ne_true]; exact ⟨hf'.1, within_union hf'.2.1 hg'.2.1, hf'.2.2⟩
  have h2 : LeafSane (false, u, A', B) := by unfold LeafSane; rw [if_neg Bool.false_ne_true]; exact ⟨hf'.1, hg'.2.1, hf'.2.2⟩
  refine ⟨h1, h2, fun p => ?_⟩
  rw [has_units h1 rfl, has_units hf rfl, has_units h2 rfl]
  dsimp only
  simp only [mem_union hf'.2.1.1 hg'.2.1.1]
  constructor
  · rintro ⟨i, a, b | b, c⟩
    · exact .inl ⟨i, a, b, c⟩
    · exact .inr ⟨i, a, b, c⟩
  · rintro (⟨i, a, b, c⟩ | ⟨i, a, b, c⟩)
    · exact ⟨i, a, .inl b, c⟩
    · exact ⟨i, a, .inr b, c⟩

/-- The last part of the law, whatever the leaves are: three of them, h having what f or x has. -/
theorem more_rest {f h x : Leaf} {p : Int × Int} (hl : ∀ l ∈ [f, h, x], l.2.2.1.length ≤ 1000 ∧ l.2.2.2.length ≤ 1000) (hs : LeafSane h) (hh : ∀ p, HasF h p ↔ HasF f p ∨ HasF x p) :
    ∃ a b e1 e2 c1 c2 : Bool, (c1 = true → c2 = true) ∧ FnE bs n_leaf_Sane (sApiLeaf.compsE h) .bool (· = true) ∧ FnE bs n_leaf_Has ((Shape.pair sApiLeaf sRun).compsE (h, p)) .bool (· = (a || b)) ∧ FnE bs n_leaf_Has ((Shape.pair sApiLeaf sRun).compsE (f, p)) .bool (· = a) ∧ FnE bs n_leaf_Has ((Shape.pair sApiLeaf sRun).compsE (x, p)) .bool (· = b)
      ∧ FnE bs n_leaf_Empty (sApiLeaf.compsE h) .bool (· = (e1 && e2)) ∧ FnE bs n_leaf_Empty (sApiLeaf.compsE f) .bool (· = e1) ∧ FnE bs n_leaf_Empty (sApiLeaf.compsE x) .bool (· = e2) ∧ FnE bs n_leaf_Covers ((Shape.pair sApiLeaf (.int .i64)).compsE (f, p.1)) .bool (· = c1) ∧ FnE bs n_leaf_Covers ((Shape.pair sApiLeaf (.int .i64)).compsE (h, p.1)) .bool (· = c2) := by
  classical
  have l1 := hl f (by simp)
  have l2 := hl h (by simp)
  have l3 := hl x (by simp)
  refine ⟨decide (HasF f p), decide (HasF x p), (ofF f).isNone, (ofF x).isNone, decide (CoversF f p.1), decide (CoversF h p.1), ?_, ?_, ?_, ?_, ?_, ?_, ok_leaf_Empty (by omega) (by omega), ok_leaf_Empty (by omega) (by omega), ?_, ?_⟩
  · exact fun q => decide_eq_true (covers_of (fun p hp => (hh p).2 (.inl hp)) (of_decide_eq_true q))
  · exact FnE.mono (ok_leaf_Sane (by omega) (by omega)) fun r hr => by rw [hr]; exact decide_eq_true hs
  · exact FnE.mono (ok_leaf_Has (by omega) (by omega)) fun r hr => by
      rw [hr]
      have : @decide (HasF h p) (Classical.propDecidable _) = (decide (HasF f p) || decide (HasF x p)) := by simp only [hh, Bool.decide_or]
      exact this
  · exact FnE.mono (ok_leaf_Has (by omega) (by omega)) fun r hr => by rw [hr]
  · exact FnE.mono (ok_leaf_Has (by omega) (by omega)) fun r hr => by rw [hr]
  · refine FnE.mono (ok_leaf_Empty (by omega) (by omega)) fun r hr => ?_
    rw [hr]
    have : (ofF h).isNone = ((ofF f).isNone && (ofF x).isNone) := by
      rw [Bool.eq_iff_iff, Bool.and_eq_true, Option.isNone_iff_eq_none, Option.isNone_iff_eq_none, Option.isNone_iff_eq_none, of_none, of_none, of_none]
      exact ⟨fun q => ⟨fun p hp => q p ((hh p).2 (.inl hp)), fun p hp => q p ((hh p).2 (.inr hp))⟩, fun q p hp => ((hh p).1 hp).elim (q.1 p) (q.2 p)⟩
    exact this
  · exact FnE.mono (ok_leaf_Covers (by omega) (by omega)) fun r hr => by rw [hr]
  · exact FnE.mono (ok_leaf_Covers (by omega) (by omega)) fun r hr => by rw [hr]

theorem ok_LeafMore (a : Leaf × Leaf × (Int × Int)) : FnE bs n_lustrumlaw14_LeafMore ((Shape.pair sApiLeaf (.pair sApiLeaf sRun)).compsE a) .bool (· = true) := by
  obtain ⟨⟨s, u, A, B⟩, ⟨s', u', A', B'⟩, p⟩ := a
  refine ok_of (e_lustrumlaw14_LeafMore _ _) rfl ?_
  unfold c_lustrumlaw14_LeafMore
  refine callP_eq ok_lustrumlaw14_awake (callP_eq ok_lustrumref14_Few (cond_not (fun h => rfl) fun h => callP_eq ok_lustrumref14_Few (cond_not (fun h => rfl) fun k => ?_)))
  have h := of_decide_eq_true h
  have k := of_decide_eq_true k
  dsimp only at h k
  refine callP_eq (ok_leaf_Sane (by dsimp only; omega) (by dsimp only; omega)) (cond_not (fun h => rfl) fun hf => callP_eq (ok_leaf_Sane (by dsimp only; omega) (by dsimp only; omega)) (cond_not (fun h => rfl) fun hg => cond_not (fun h => rfl) fun es => ?_))
  have hf := of_decide_eq_true hf
  have hg := of_decide_eq_true hg
  have es : s = s' := of_decide_eq_true es
  subst es
  have hlen : (makeF (A ++ A')).length ≤ 80 := by
    have := make_length (A ++ A')
    rw [List.length_append] at this
    omega
  have hU : FnE bs n_sets_Union ((Shape.pair (.slice sRun) (.slice sRun)).compsE (A, A')) (.slice sRun) (· = makeF (A ++ A')) := ok_sets_Union (by omega)
  have ends : ∀ l ∈ [((s, u, A, B) : Leaf), (s, u, makeF (A ++ A'), B), (s, u', A', B)], l.2.2.1.length ≤ 1000 ∧ l.2.2.2.length ≤ 1000 := by
    intro l hl
    simp only [List.mem_cons, List.not_mem_nil, or_false] at hl
    rcases hl with rfl | rfl | rfl <;> dsimp only <;> omega
  cases s with
  | false =>
    refine cond_yes rfl (cond_not (fun h => rfl) fun eu => ?_)
    have eu : u = u' := of_decide_eq_true eu
    subst eu
    obtain ⟨m1, m2, m3⟩ := more_units hf hg
    obtain ⟨a, b, e1, e2, c1, c2, q, s1, s2, s3, s4, s5, s6, s7, s8, s9⟩ := more_rest (p := p) ends m1 m3
    clear ends m1 m2 m3 hf hg
    refine ⟨?_, ?_⟩ <;> refine callP_eq hU (cond_yes rfl (callP_eq s1 (cond_yes rfl (callP_eq s2 (callP_eq s3 ?_))))) <;> cases a
    all_goals first
      | refine cond_no rfl (callP_eq s4 (cond_yes (decide_eq_true rfl) ?_))
      | refine cond_yes rfl (cond_yes rfl ?_)
    all_goals refine callP_eq s5 (callP_eq s6 ?_)
    all_goals cases e1
    all_goals first
      | refine cond_no rfl (cond_yes rfl ?_)
      | refine cond_yes rfl (callP_eq s7 (cond_yes (decide_eq_true rfl) ?_))
    all_goals refine callP_eq s8 ?_
    all_goals cases c1
    all_goals first
      | exact cond_yes rfl rfl
      | exact cond_no rfl (callP_eq s9 (q rfl))
  | true =>
    have z := hf
    have z' := hg
    unfold LeafSane at z z'
    rw [if_pos rfl] at z z'
    have e1 : u = 0 := z.1
    have e2 : u' = 0 := z'.1
    subst e1
    subst e2
    clear z z'
    obtain ⟨m1, m2, m3⟩ := more_span hf hg
    obtain ⟨a, b, e1, e2, c1, c2, q, s1, s2, s3, s4, s5, s6, s7, s8, s9⟩ := more_rest (p := p) ends m1 m3
    clear ends m1 m2 m3 hf hg
    refine cond_no rfl ?_
    refine ⟨?_, ?_⟩ <;> refine callP_eq hU (cond_yes rfl (callP_eq s1 (cond_yes rfl (callP_eq s2 (callP_eq s3 ?_))))) <;> cases a
    all_goals first
      | refine cond_no rfl (callP_eq s4 (cond_yes (decide_eq_true rfl) ?_))
      | refine cond_yes rfl (cond_yes rfl ?_)
    all_goals refine callP_eq s5 (callP_eq s6 ?_)
    all_goals cases e1
    all_goals first
      | refine cond_no rfl (cond_yes rfl ?_)
      | refine cond_yes rfl (callP_eq s7 (cond_yes (decide_eq_true rfl) ?_))
    all_goals refine callP_eq s8 ?_
    all_goals cases c1
    all_goals first
      | exact cond_yes rfl rfl
      | exact cond_no rfl (callP_eq s9 (q rfl))
end Go.Proofs.YtjeoelajkncpcaaDoor.V

/- What sets of units cover: plain facts. No program in sight. -/
namespace Go.Proofs.YtjeoelajkncpcaaDoor.V
set_option linter.unusedVariables false
set_option linter.unusedSimpArgs false

def unitsF (u : Int) (s : Runs) : Runs := clipF (makeF s) 0 (VCal.ucount u - 1)
theorem units_sane (u : Int) (s : Runs) : Sane (unitsF u s) := sane_clip (make_sane s)
theorem units_length (u : Int) (s : Runs) : (unitsF u s).length ≤ s.length := Nat.le_trans (clip_length _ _ _) (make_length s)
theorem mem_units {u : Int} {s : Runs} {n : Int} : mem (unitsF u s) n ↔ mem (makeF s) n ∧ 0 ≤ n ∧ n < VCal.ucount u := by
  unfold unitsF
  rw [mem_clip]
  constructor
  · rintro ⟨a, b, c⟩; exact ⟨a, b, by omega⟩
  · rintro ⟨a, b, c⟩; exact ⟨a, b, by omega⟩

theorem units_in {u : Int} {s : Runs} {r : Int × Int} (h : r ∈ unitsF u s) : 0 ≤ r.1 ∧ r.1 ≤ r.2 ∧ r.2 < VCal.ucount u := by
  have h1 := (Sane.bounds (units_sane u s) r h).2.1
  have a := (mem_units (u := u) (s := s) (n := r.1)).1 ⟨r, h, Int.le_refl _, h1⟩
  have b := (mem_units (u := u) (s := s) (n := r.2)).1 ⟨r, h, h1, Int.le_refl _⟩
  omega

/-- A set of units that are within is what it is. -/
theorem units_self {u : Int} {s : Runs} (h : Within s (VCal.ucount u - 1)) : unitsF u s = s := by
  refine sane_ext (units_sane u s) h.1 fun n => ?_
  rw [mem_units, make_self h.1]
  exact ⟨fun q => q.1, fun q => ⟨q, by have := Within.bounds h q; omega⟩⟩

def spanOf (u : Int) (r : Int × Int) : Int × Int := (VCal.ufirst u r.1, VCal.ulast u r.2)
def coverF (u : Int) (s : Runs) : Runs := makeF ((unitsF u s).map (spanOf u))

theorem cover_length (u : Int) (s : Runs) : (coverF u s).length ≤ s.length := by
  have := make_length ((unitsF u s).map (spanOf u))
  rw [List.length_map] at this
  exact Nat.le_trans this (units_length u s)

theorem cover_sane (u : Int) (s : Runs) : Sane (coverF u s) := make_sane _

theorem unit_at {u : Int} : ∀ (n : Nat) (i j d : Int), j - i ≤ n → 0 ≤ i → j < VCal.ucount u → i ≤ j → VCal.ufirst u i ≤ d → d ≤ VCal.ulast u j → ∃ k, VCal.uof u d = some k ∧ i ≤ k ∧ k ≤ j
  | 0, i, j, d, hn, h0, hj, hij, h1, h2 => by
    obtain rfl : i = j := by omega
    exact ⟨i, VCal.uof_some.2 ⟨h0, hj, h1, h2⟩, by omega, by omega⟩
  | n + 1, i, j, d, hn, h0, hj, hij, h1, h2 => by
    by_cases e : d ≤ VCal.ulast u i
    · exact ⟨i, VCal.uof_some.2 ⟨h0, by omega, h1, e⟩, by omega, hij⟩
    · by_cases e2 : i = j
      · subst e2; omega
      · have := VCal.ulast_next (kind := u) (i := i) (by omega)
        obtain ⟨k, a, b, c⟩ := unit_at n (i + 1) j d (by omega) (by omega) hj (by omega) (by omega) h2
        exact ⟨k, a, by omega, c⟩

theorem mem_cover {u : Int} {s : Runs} {d : Int} : mem (coverF u s) d ↔ ∃ i, VCal.uof u d = some i ∧ mem (makeF s) i := by
  unfold coverF
  rw [mem_make]
  constructor
  · rintro ⟨_, _, q, hq, h1, h2⟩
    obtain ⟨r, hr, rfl⟩ := List.mem_map.1 hq
    have hi := units_in hr
    obtain ⟨k, a, b, c⟩ := unit_at (r.2 - r.1).toNat r.1 r.2 d (by omega) hi.1 hi.2.2 hi.2.1 h1 h2
    exact ⟨k, a, (mem_units.1 ⟨r, hr, b, c⟩).1⟩
  · rintro ⟨i, hi, hm⟩
    obtain ⟨a, b, c, d'⟩ := VCal.uof_some.1 hi
    have hd := VCal.unit_in a b
    obtain ⟨r, hr, h1, h2⟩ := (mem_units (u := u)).2 ⟨hm, a, b⟩
    have hr' := units_in hr
    have l1 := ufirst_le (u := u) (i := r.1) (j := i) hr'.1 h1 b
    have l2 := ufirst_le (u := u) (i := i) (j := r.2) a h2 hr'.2.2
    refine ⟨by unfold Lim; omega, by unfold Lim; omega, spanOf u r, List.mem_map.2 ⟨r, hr, rfl⟩, ?_, ?_⟩
    · show VCal.ufirst u r.1 ≤ d; omega
    · show d ≤ VCal.ulast u r.2; omega

/-- The days of a leaf. -/
def partF (f : Leaf) : Runs := match ofF f with
  | none => []
  | some (.inl (u, s)) => coverF u s
  | some (.inr (a, b)) => [(loF a, hiF b)]

theorem mem_lim2 {s : Runs} {m n : Int} (h : Within s m) (hn : mem s n) (hm : m ≤ 3652424) : 0 ≤ n ∧ n ≤ 3652424 := by
  have := Within.bounds h hn
  omega

theorem mem_part {f : Leaf} {d : Int} : memL (partF f) d ↔ CoversF f d := by
  unfold memL partF CoversF
  rcases ho : ofF f with _ | ⟨u, s⟩ | ⟨a, b⟩
  · exact ⟨fun h => mem_nil h.2.2, False.elim⟩
  · obtain ⟨h1, h2, h3, h4, h5, h6, h7⟩ := of_units ho
    dsimp only
    rw [mem_cover, make_self h6.1]
    constructor
    · exact fun h => h.2.2
    · rintro ⟨i, hi, hm⟩
      obtain ⟨q1, q2, q3, q4⟩ := VCal.uof_some.1 hi
      have := VCal.unit_in q1 q2
      exact ⟨by unfold Lim; omega, by unfold Lim; omega, i, hi, hm⟩
  · obtain ⟨h1, h2, h3, h4, h5, h6, h7, rfl, rfl⟩ := of_span ho
    obtain ⟨sa, sb, na, nb, l1, l2⟩ := span_ends ho
    have b1 := Within.bounds h6 (mem_lo h6.1 h3)
    have b2 := Within.bounds h7 (mem_hi h7.1 h4)
    dsimp only
    rw [mem_cons, l1, l2]
    constructor
    · rintro ⟨_, _, h | h⟩
      · exact h
      · exact (mem_nil h).elim
    · exact fun h => ⟨by unfold Lim; omega, by unfold Lim; omega, .inl h⟩

theorem part_length (f : Leaf) : (partF f).length ≤ f.2.2.1.length + 1 := by
  unfold partF
  rcases ho : ofF f with _ | ⟨u, s⟩ | ⟨a, b⟩
  · exact Nat.zero_le _
  · obtain ⟨h1, h2, rfl, rfl, h5, h6, h7⟩ := of_units ho
    exact Nat.le_trans (cover_length _ _) (Nat.le_succ _)
  · simp

theorem memL_append {a b : Runs} {n : Int} : memL (a ++ b) n ↔ memL a n ∨ memL b n := by
  unfold memL
  rw [mem_append]
  constructor
  · rintro ⟨a, b, h | h⟩
    · exact .inl ⟨a, b, h⟩
    · exact .inr ⟨a, b, h⟩
  · rintro (⟨a, b, h⟩ | ⟨a, b, h⟩)
    · exact ⟨a, b, .inl h⟩
    · exact ⟨a, b, .inr h⟩

def daysL (l : List Leaf) : Runs := l.flatMap partF
theorem days_length : ∀ (l : List Leaf) {n : Nat}, (∀ f ∈ l, f.2.2.1.length ≤ n) → (daysL l).length ≤ l.length * (n + 1)
  | [], _, _ => by simp [daysL]
  | f :: l, n, h => by
    have h1 := days_length l fun g hg => h g (List.mem_cons_of_mem _ hg)
    have h2 := part_length f
    have h3 := h f List.mem_cons_self
    unfold daysL at *
    rw [List.flatMap_cons, List.length_append, List.length_cons, Nat.add_mul]
    omega

theorem mem_days : ∀ {l : List Leaf} {d : Int}, memL (daysL l) d ↔ ∃ f ∈ l, CoversF f d
  | [], d => ⟨fun h => (mem_nil h.2.2).elim, fun ⟨f, hf, _⟩ => by cases hf⟩
  | f :: l, d => by
    unfold daysL
    rw [List.flatMap_cons, memL_append, mem_part]
    have := mem_days (l := l) (d := d)
    unfold daysL at this
    rw [this]
    simp

/-- All days that are possible. -/
def daysF (l : List Leaf) : Runs := makeF (daysL l)
theorem mem_daysF {l : List Leaf} {d : Int} : mem (daysF l) d ↔ ∃ f ∈ l, CoversF f d := mem_make.trans mem_days

/-- All that are certain. -/
def sureF (l : List Leaf) : Runs := match allF l with
  | none => []
  | some q => makeF [(q.2.1, q.2.2.1)]

theorem covers_iff {f : Leaf} {d : Int} : CoversF f d ↔ ∃ p ∈ famPairs (ofF f), p.1 ≤ d ∧ d ≤ p.2 :=
  ⟨fam_covers, fun ⟨p, hp, h1, h2⟩ => (fam_pair hp).2.2 d h1 h2⟩

theorem any_covers {l : List Leaf} {d : Int} : (∃ f ∈ l, CoversF f d) ↔ ∃ p, anyP l p ∧ p.1 ≤ d ∧ d ≤ p.2 := by
  constructor
  · rintro ⟨f, hf, h⟩
    obtain ⟨p, hp, h1, h2⟩ := covers_iff.1 h
    exact ⟨p, ⟨f, hf, hp⟩, h1, h2⟩
  · rintro ⟨p, ⟨f, hf, hp⟩, h1, h2⟩
    exact ⟨f, hf, covers_iff.2 ⟨p, hp, h1, h2⟩⟩

theorem any_in {l : List Leaf} {p : Int × Int} (h : anyP l p) : 0 ≤ p.1 ∧ p.1 ≤ p.2 ∧ p.2 ≤ 3652424 := by
  obtain ⟨f, hf, hp⟩ := h
  exact (fam_pair hp).1

/-- Certain: in each pair, of which there is one. -/
theorem mem_sure {l : List Leaf} {d : Int} : mem (sureF l) d ↔ (∃ p, anyP l p) ∧ ∀ p, anyP l p → p.1 ≤ d ∧ d ≤ p.2 := by
  unfold sureF
  rcases all_spec l with ⟨h1, h2⟩ | ⟨q, h1, h0, ⟨p1, c1, d1⟩, ⟨p2, c2, d2⟩, ⟨p3, c3, d3⟩, ⟨p4, c4, d4⟩⟩
  · rw [h1]
    refine ⟨fun h => (mem_nil h).elim, ?_⟩
    rintro ⟨⟨p, f, hf, hp⟩, _⟩
    rw [h2 f hf] at hp
    cases hp
  · rw [h1]
    dsimp only
    rw [mem_make]
    unfold memL
    rw [mem_cons]
    constructor
    · rintro ⟨_, _, h | h⟩
      · refine ⟨⟨p1, c1⟩, fun p hp => ?_⟩
        have := h0 p hp
        dsimp only at h
        omega
      · exact (mem_nil h).elim
    · rintro ⟨_, h⟩
      have a := h p2 c2
      have b := h p3 c3
      have := any_in c2
      have := any_in c3
      refine ⟨by unfold Lim; omega, by unfold Lim; omega, .inl ⟨by dsimp only; omega, by dsimp only; omega⟩⟩
end Go.Proofs.YtjeoelajkncpcaaDoor.V

/- image.units, image.Cover, cover: their contracts. No condition of its own. -/
namespace Go.Proofs.YtjeoelajkncpcaaDoor.V
open Go
set_option linter.unusedVariables false
set_option linter.unusedSimpArgs false

theorem ok_image_units {u : Int} {s : Runs} (hl : s.length < 65536) : FnE bs n_image_units ((Shape.pair (.int .i64) (.slice sRun)).compsE (u, s)) (.slice sRun) (· = unitsF u s) := by
  refine ok_of (e_image_units (u, s) _) rfl ?_
  unfold c_image_units
  have hc := VCal.ucount_pos u
  refine callP_eq ok_unit_Count ?_
  rw [w64_of (n := VCal.ucount u - 1) (by omega)]
  exact callP_eq (ok_sets_ClipA hl) rfl

theorem ok_image_Cover {u : Int} {s : Runs} (hl : s.length < 65536) : FnE bs n_image_Cover ((Shape.pair (.int .i64) (.slice sRun)).compsE (u, s)) (.slice sRun) (· = coverF u s) := by
  refine ok_of (e_image_Cover (u, s) _) rfl ?_
  unfold c_image_Cover
  refine callP_eq (ok_image_units hl) ?_
  have hlen := units_length u s
  unfold coverF
  have hin : ∀ r ∈ unitsF u s, 0 ≤ r.1 ∧ r.1 ≤ r.2 ∧ r.2 < VCal.ucount u := fun r => units_in
  generalize unitsF u s = us at hlen hin
  refine loopP_of (fun z : Unit × Int × Runs => ∃ k : Nat, z.2.1 = k ∧ k ≤ us.length ∧ z.2.2 = (us.take k).map (spanOf u)) (fun z => us.length - z.2.1.toNat) ?_ ⟨0, rfl, Nat.zero_le _, rfl⟩
  rintro ⟨_, _, _⟩ A ⟨k, e1, hk, e2⟩ back
  dsimp only at e1 e2 ⊢
  subst e1 e2
  refine cond_dec (fun h1 => ⟨⟨by omega, h1⟩, ?_⟩) fun h1 => ?_
  · have h1 : (k : Int) < us.length := h1
    have hk' : k < us.length := by omega
    have hg := List.getElem?_eq_getElem hk'
    generalize us[k] = r at hg
    have hr := hin r (List.mem_of_getElem? hg)
    rw [toNat_ofNat, rd_of (s := sRun) hg, w_succ (a := k) (by omega)]
    refine callP_eq ok_unit_First (callP_eq ok_unit_Last ⟨?_, ?_⟩)
    · rw [List.length_map, List.length_take]
      show (_ + 1) * 16 ≤ _
      omega
    · refine back _ ⟨k + 1, rfl, hk', ?_⟩ (by dsimp only; omega)
      dsimp only
      have e : ((firstS u r.1).1, (lastS u r.2).1) = spanOf u r := by
        unfold firstS lastS spanOf
        rw [if_pos (by omega), if_pos (by omega)]
      rw [List.take_add_one, hg, List.map_append, e]
      rfl
  · rw [List.take_of_length_le (by have h1 : ¬ (k : Int) < us.length := h1; omega)]
    exact callP_eq (ok_runs_Make (by rw [List.length_map]; omega)) rfl

/-! ### Possible -/

noncomputable def covG (d : Int) (f : Leaf) : Option Bool := if f.2.2.1.length ≤ 1000000000 ∧ f.2.2.2.length ≤ 1000000000 then some (@decide (CoversF f d) (Classical.propDecidable _)) else none

theorem ok_cover_Possible_1 {d : Int} {f : Leaf} (hla : f.2.2.1.length ≤ 1000000000) (hlb : f.2.2.2.length ≤ 1000000000) : FnE bs n_cover_Possible_1 ([] ++ Shape.compsE sApiLeaf f ++ [(.ip [(.p (.int .i64) d)] 0)]) .bool (· = @decide (CoversF f d) (Classical.propDecidable _)) := by
  refine ok_of (e_cover_Possible_1 d f _) rfl ?_
  unfold c_cover_Possible_1
  exact callP_of (ok_leaf_Covers hla hlb) fun r hr => by rw [hr]

theorem cl_Possible {d : Int} : CloSpec bs 104 [] [(.ip [(.p (.int .i64) d)] 0)] sApiLeaf .bool (covG d) := ⟨(ok_cover_Possible_1 (d := 0) (f := (false, 0, [], [])) (by decide) (by decide)).1, fun x r hx => by
  unfold covG at hx
  split at hx
  · rename_i h
    cases hx
    exact ok_cover_Possible_1 h.1 h.2
  · cases hx⟩

open Classical in
theorem ok_slices_IndexFunc {l : List Leaf} {d : Int} (hl : FewL 1000 l) : FnE bs n_slices_IndexFunc ((Shape.pair (.slice sApiLeaf) (.func sApiLeaf .bool)).compsE (l, covG d)) (.int .i64) (fun r => 0 ≤ r ↔ ∃ f ∈ l, CoversF f d) := by
  refine ok_of (e_slices_IndexFunc (l, covG d) _) rfl ?_
  unfold c_slices_IndexFunc
  have hll := hl.1
  refine loopP_of (fun z : Int => ∃ k : Nat, z = k ∧ k ≤ l.length ∧ ∀ (i : Nat) f, i < k → l[i]? = some f → ¬ CoversF f d) (fun z => l.length - z.toNat) ?_ ⟨0, rfl, Nat.zero_le _, fun i f h => by omega⟩
  rintro _ A ⟨k, rfl, hk, hi⟩ back
  refine cond_dec (fun h1 => ⟨⟨by omega, h1⟩, ?_⟩) fun h1 => ?_
  · have h1 : (k : Int) < l.length := h1
    have hk' : k < l.length := by omega
    have hg := List.getElem?_eq_getElem hk'
    generalize l[k] = f at hg
    have hfm := List.mem_of_getElem? hg
    have hf := hl.2 f hfm
    dsimp only
    rw [toNat_ofNat, rd_of (s := sApiLeaf) hg, w_succ (by omega)]
    refine gcall_eq (show covG d f = _ from if_pos (by omega)) (cond_dec (fun h => ?_) fun h => ?_)
    · exact ⟨fun _ => ⟨f, hfm, h⟩, fun _ => Int.natCast_nonneg k⟩
    · refine back _ ⟨k + 1, rfl, hk', fun i g hik hg2 => ?_⟩ (by omega)
      by_cases e : i = k
      · subst e; rw [hg] at hg2; cases hg2; exact h
      · exact hi i g (by omega) hg2
  · refine ⟨fun h => absurd h (by decide), ?_⟩
    rintro ⟨f, hf, hh⟩
    obtain ⟨i, hi2⟩ := List.getElem?_of_mem hf
    have := (List.getElem?_eq_some_iff.1 hi2).1
    exact absurd hh (hi i f (by have h1 : ¬ (k : Int) < l.length := h1; omega) hi2)

open Classical in
theorem ok_slices_ContainsFunc {l : List Leaf} {d : Int} (hl : FewL 1000 l) : FnE bs n_slices_ContainsFunc ((Shape.pair (.slice sApiLeaf) (.func sApiLeaf .bool)).compsE (l, covG d)) .bool (· = decide (∃ f ∈ l, CoversF f d)) := by
  refine ok_of (e_slices_ContainsFunc (l, covG d) _) rfl ?_
  unfold c_slices_ContainsFunc
  exact callP_of (ok_slices_IndexFunc hl) fun r hr => be (decide_eq_decide.2 hr)

open Classical in
theorem ok_cover_Possible {l : List Leaf} {d : Int} (hl : FewL 1000 l) : FnE bs n_cover_Possible ((Shape.pair (.slice sApiLeaf) (.int .i64)).compsE (l, d)) .bool (· = decide (∃ f ∈ l, CoversF f d)) := by
  refine ok_of (e_cover_Possible (l, d) _) rfl ?_
  unfold c_cover_Possible
  exact ⟨_, cl_Possible, callP_eq (ok_slices_ContainsFunc hl) rfl⟩

/-! ### Days, Sure, Certain -/

theorem ok_cover_Days {l : List Leaf} (hn : l.length ≤ 24) (hl : FewL 1000 l) : FnE bs n_cover_Days ((Shape.slice sApiLeaf).compsE l) (.tup (.pair (.slice sRun) (.int .i64))) (· = if 400 < (daysF l).length then ([], 8) else (daysF l, 0)) := by
  refine ok_of (e_cover_Days l _) rfl ?_
  unfold c_cover_Days
  have dl := days_length l fun f hf => (hl.2 f hf).1
  have dl : (daysL l).length ≤ 24024 := by
    have : l.length * (1000 + 1) ≤ 24 * (1000 + 1) := Nat.mul_le_mul_right _ hn
    omega
  refine loopP_of (fun z : Unit × Int × Runs => ∃ k : Nat, z.2.1 = k ∧ k ≤ l.length ∧ z.2.2 = daysL (l.take k)) (fun z => l.length - z.2.1.toNat) ?_ ⟨0, rfl, Nat.zero_le _, rfl⟩
  rintro ⟨_, _, _⟩ A ⟨k, e1, hk, e2⟩ back
  dsimp only at e1 e2 ⊢
  subst e1 e2
  refine cond_dec (fun h1 => ⟨⟨by omega, h1⟩, ?_⟩) fun h1 => ?_
  · have h1 : (k : Int) < l.length := h1
    have hk' : k < l.length := by omega
    have hg := List.getElem?_eq_getElem hk'
    generalize l[k] = f at hg
    have hfm := List.mem_of_getElem? hg
    have hf := hl.2 f hfm
    have e : daysL (l.take (k + 1)) = daysL (l.take k) ++ partF f := by
      unfold daysL
      rw [List.take_add_one, hg, List.flatMap_append]
      simp
    have hle : (daysL (l.take k)).length ≤ 24024 := by
      have := days_length (l.take k) (n := 1000) fun f hf => (hl.2 f (List.mem_of_mem_take hf)).1
      rw [List.length_take] at this
      have : min k l.length * (1000 + 1) ≤ 24 * (1000 + 1) := Nat.mul_le_mul_right _ (by omega)
      omega
    rw [toNat_ofNat, rd_of (s := sApiLeaf) hg, w_succ (a := k) (by omega)]
    refine callP_eq (ok_leaf_Tidy (f := f) (by omega) (by omega)) ?_
    have go : A ((), ((k + 1 : Nat) : Int), daysL (l.take k) ++ partF f) := back _ ⟨k + 1, rfl, hk', e.symm⟩ (by dsimp only; omega)
    have pl := part_length f
    unfold partF at go pl
    unfold tidyF
    rcases ho : ofF f with _ | ⟨u, s⟩ | ⟨a, b⟩
    · rw [ho] at go
      rw [List.append_nil] at go
      exact cond_yes rfl go
    · rw [ho] at go pl
      obtain ⟨q1, q2, rfl, rfl, q5, q6, q7⟩ := of_units ho
      dsimp only at go pl ⊢
      refine cond_no (decide_eq_false ?_) (cond_no rfl ?_)
      · intro q
        have q : (f.2.2.1.length : Int) = 0 := q
        exact q5 (List.length_eq_zero_iff.1 (by omega))
      · refine callP_eq (ok_image_Cover (by omega)) ⟨?_, go⟩
        omega
    · rw [ho] at go pl
      obtain ⟨sa, sb, na, nb, l1, l2⟩ := span_ends ho
      dsimp only at go pl ⊢
      have ha := List.length_pos_iff.2 na
      have hb := List.length_pos_iff.2 nb
      have lb : b.length ≤ f.2.2.2.length := by
        obtain ⟨_, _, _, _, _, _, _, _, rfl⟩ := of_span ho
        exact clip_length _ _ _
      refine cond_no (decide_eq_false ?_) (cond_yes rfl ⟨⟨by decide, ?_⟩, ?_⟩)
      · intro q
        have q : (a.length : Int) = 0 := q
        omega
      · show (0 : Int) < a.length; omega
      · rw [w_pred (a := b.length) (by omega) (by omega), toNat_ofNat]
        refine ⟨⟨by omega, by show ((b.length - 1 : Nat) : Int) < b.length; omega⟩, ?_, go⟩
        show (_ + 1) * 16 ≤ _
        omega
  · rw [List.take_of_length_le (by have h1 : ¬ (k : Int) < l.length := h1; omega)]
    refine callP_eq (ok_runs_Make (by omega)) (callP_eq (ok_sets_WideA (s := makeF (daysL l)) (by have := make_length (daysL l); omega)) ?_)
    rw [make_self (make_sane _)]
    show cond _ _ _
    refine cond_dec (fun h => ?_) fun h => ?_
    · exact (if_pos h).symm
    · exact (if_neg h).symm

theorem dayF_of {l : List Leaf} {sel : Q4 → Int} : dayF sel l = match allF l with | none => (0, 9) | some q => (sel q, 0) := rfl

theorem ok_cover_Sure {l : List Leaf} (hl : FewL 1000 l) : FnE bs n_cover_Sure ((Shape.slice sApiLeaf).compsE l) (.tup (.pair (.slice sRun) (.int .i64))) (· = (sureF l, if (allF l).isSome then 0 else 9)) := by
  refine ok_of (e_cover_Sure l _) rfl ?_
  unfold c_cover_Sure
  refine callP_eq (ok_env_LastStart hl) (callP_eq (ok_env_FirstEnd hl) ?_)
  unfold dayF sureF
  cases allF l with
  | none => exact cond_yes rfl rfl
  | some q => exact cond_no rfl (callP_eq (ok_runs_Make (by simp)) rfl)

open Classical in
theorem ok_cover_Certain {l : List Leaf} {d : Int} (hl : FewL 1000 l) : FnE bs n_cover_Certain ((Shape.pair (.slice sApiLeaf) (.int .i64)).compsE (l, d)) .bool (· = decide (mem (sureF l) d)) := by
  refine ok_of (e_cover_Certain (l, d) _) rfl ?_
  unfold c_cover_Certain
  refine callP_eq (ok_cover_Sure hl) ?_
  unfold sureF
  cases allF l with
  | none => exact cond_no rfl (be (decide_eq_false mem_nil).symm)
  | some q =>
    refine cond_yes rfl (callP_of (ok_runs_HasA (by have := make_length [(q.2.1, q.2.2.1)]; simp at this; dsimp only; omega)) fun r hr => ?_)
    rw [hr]
    dsimp only
    simp only [make_self (make_sane _)]
end Go.Proofs.YtjeoelajkncpcaaDoor.V

/- lustrumlaw17: the laws of the days that are possible, and certain, as conditions on the program's functions alone. No condition of its own. -/
namespace Go.Proofs.YtjeoelajkncpcaaDoor.V
open Go
set_option linter.unusedVariables false
set_option linter.unusedSimpArgs false

def exCover : List Leaf := [(true, 0, [(724641, 724641)], [(724700, 724700), (724731, 724731), (724761, 724761)])]
theorem exCover_days : daysF exCover = [(724641, 724761)] := by decide +kernel
theorem exCover_sure : sureF exCover = [(724641, 724700)] := by decide +kernel
theorem exCover_all : (allF exCover).isSome = true := by decide +kernel
theorem exCover_few : FewL 1000 exCover := ⟨by decide, fun f hf => by
  rcases List.mem_cons.1 hf with e | hf
  · subst e; decide
  · cases hf⟩

open Classical in
theorem ok_lustrumlaw17_awake : FnE bs n_lustrumlaw17_awake ((Shape.unit).compsE ()) .bool (· = true) := by
  refine ok_of (e_lustrumlaw17_awake _) rfl ?_
  unfold c_lustrumlaw17_awake
  have h1 := ok_cover_Days (l := exCover) (by decide) exCover_few
  have h2 := ok_cover_Sure exCover_few
  have p : ∃ f ∈ exCover, CoversF f 724750 := mem_daysF.1 (by rw [exCover_days]; exact ⟨_, List.mem_cons_self, by decide, by decide⟩)
  have q : mem (sureF exCover) 724641 := by rw [exCover_sure]; exact ⟨_, List.mem_cons_self, by decide, by decide⟩
  have h3 := FnE.mono (ok_cover_Possible (d := 724750) exCover_few) (R' := fun r => r = true) fun r hr => by rw [hr]; exact decide_eq_true p
  have h4 := FnE.mono (ok_cover_Certain (d := 724641) exCover_few) (R' := fun r => r = true) fun r hr => hr.trans (@decide_eq_true _ _ q)
  rw [exCover_days] at h1
  rw [exCover_sure, exCover_all] at h2
  refine callP_eq h1 (callP_eq h2 ?_)
  exact cond_yes rfl (cond_yes rfl (cond_yes rfl ⟨by decide, cond_yes rfl (cond_yes rfl ⟨by decide, cond_yes rfl ⟨by decide, cond_yes rfl (callP_eq h3 (cond_yes rfl (callP_eq h4 rfl)))⟩⟩)⟩))

theorem sure_length (l : List Leaf) : (sureF l).length ≤ 1 := by
  unfold sureF
  cases allF l with
  | none => exact Nat.zero_le _
  | some q => exact make_length [(q.2.1, q.2.2.1)]

theorem sure_sane (l : List Leaf) : Sane (sureF l) := by
  unfold sureF
  cases allF l with
  | none => trivial
  | some q => exact make_sane _

theorem days_sane (l : List Leaf) : Sane (daysF l) := make_sane _

theorem days_few {l : List Leaf} (h : l.length ≤ 24) (hl : FewL 1000 l) : (daysF l).length ≤ 24024 := by
  have h1 := days_length l fun f hf => (hl.2 f hf).1
  have h2 := make_length (daysL l)
  have : l.length * (1000 + 1) ≤ 24 * (1000 + 1) := Nat.mul_le_mul_right _ h
  unfold daysF
  omega

theorem sure_possible {l : List Leaf} {d : Int} (h : mem (sureF l) d) : ∃ f ∈ l, CoversF f d := by
  obtain ⟨⟨p, hp⟩, hall⟩ := mem_sure.1 h
  exact any_covers.2 ⟨p, hp, hall p hp⟩

theorem all_none_possible {l : List Leaf} {d : Int} (h : allF l = none) : ¬ ∃ f ∈ l, CoversF f d := by
  rintro ⟨f, hf, hc⟩
  obtain ⟨p, hp, _⟩ := covers_iff.1 hc
  rw [(all_none_iff.1 h) f hf] at hp
  cases hp

open Classical in
theorem ok_CoverSets (a : List Leaf × Int) (hl : a.1.length ≤ 9223372036854775807) : FnE bs n_lustrumlaw17_CoverSets ((Shape.pair (.slice sApiLeaf) (.int .i64)).compsE a) .bool (· = true) := by
  obtain ⟨l, d⟩ := a
  refine ok_of (e_lustrumlaw17_CoverSets (l, d) _) rfl ?_
  unfold c_lustrumlaw17_CoverSets
  refine callP_eq ok_lustrumlaw17_awake (callP_of (ok_lustrumref15_Few hl) fun r hr => cond_not (fun h => rfl) fun h => ?_)
  have h12 := (hr h).1
  have hf := few1000 (hr h).2
  dsimp only at h12 hf ⊢
  refine callP_eq (ok_cover_Days (by omega) hf) (callP_eq (ok_cover_Sure hf) (callP_eq (ok_cover_Possible hf) (callP_eq (ok_cover_Certain hf) ?_)))
  have hn := days_few (by omega) hf
  have hd : decide (mem (daysF l) d) = decide (∃ f ∈ l, CoversF f d) := decide_eq_decide.2 mem_daysF
  have hA := ok_runs_HasA (s := daysF l) (n := d) (by omega)
  rw [make_self (days_sane l)] at hA
  have hS : FnE bs n_runs_Sane ((Shape.slice sRun).compsE (daysF l)) .bool (· = true) := FnE.mono (ok_runs_Sane (by omega)) fun r hr => by rw [hr]; exact decide_eq_true (days_sane l)
  refine join_of (fun _ => True) (fun J hJ => ?_) fun _ _ => ?_
  · by_cases hw : 400 < (daysF l).length
    · rw [if_pos hw]
      exact cond_yes rfl (cond_no rfl (cond_no rfl (cond_no rfl (hJ () trivial))))
    · rw [if_neg hw]
      refine cond_no rfl (cond_yes rfl (callP_eq hS (cond_no rfl (callP_eq hA ?_))))
      refine cond_no ?_ (cond_no (decide_eq_false (by dsimp only; omega)) (hJ () trivial))
      rw [Bool.not_eq_false', decide_eq_true_eq, ← hd]
  · have sl := sure_length l
    have hA2 := ok_runs_HasA (s := sureF l) (n := d) (by omega)
    rw [make_self (sure_sane l)] at hA2
    have hS2 : FnE bs n_runs_Sane ((Shape.slice sRun).compsE (sureF l)) .bool (· = true) := FnE.mono (ok_runs_Sane (by omega)) fun r hr => by rw [hr]; exact decide_eq_true (sure_sane l)
    cases ha : allF l with
    | none =>
      have e : sureF l = [] := by unfold sureF; rw [ha]
      rw [e]
      exact cond_yes rfl (cond_yes rfl (cond_yes rfl (cond_yes rfl (cond_yes (by rw [decide_eq_false mem_nil]; rfl) (by rw [decide_eq_false (all_none_possible ha)]; rfl)))))
    | some q =>
      refine cond_no rfl (cond_yes rfl (callP_eq hS2 (cond_yes rfl (cond_yes (decide_eq_true (by dsimp only; omega)) (callP_eq hA2 ?_)))))
      refine cond_yes (decide_eq_true (by congr)) (cond_not (fun _ => rfl) fun h => ?_)
      exact decide_eq_true (sure_possible (of_decide_eq_true h))

theorem days_ne {l : List Leaf} {q : Q4} (h : allF l = some q) : daysF l ≠ [] ∧ loF (daysF l) = q.1 ∧ hiF (daysF l) = q.2.2.2 := by
  rcases all_spec l with ⟨h1, _⟩ | ⟨q', h1, h0, ⟨p1, c1, d1⟩, _, _, ⟨p4, c4, d4⟩⟩
  · rw [h1] at h; cases h
  · rw [h1] at h
    cases h
    have m1 : mem (daysF l) q.1 := mem_daysF.2 (any_covers.2 ⟨p1, c1, by omega, by have := h0 p1 c1; omega⟩)
    have m4 : mem (daysF l) q.2.2.2 := mem_daysF.2 (any_covers.2 ⟨p4, c4, by have := h0 p4 c4; omega, by omega⟩)
    have hne : daysF l ≠ [] := fun e => by rw [e] at m1; exact mem_nil m1
    have b1 := mem_between (days_sane l) m1
    have b4 := mem_between (days_sane l) m4
    obtain ⟨x, hx, x1, x2⟩ := any_covers.1 (mem_daysF.1 (mem_lo (days_sane l) hne))
    obtain ⟨y, hy, y1, y2⟩ := any_covers.1 (mem_daysF.1 (mem_hi (days_sane l) hne))
    have := h0 x hx
    have := h0 y hy
    exact ⟨hne, by omega, by omega⟩

theorem days_nil {l : List Leaf} (h : allF l = none) : daysF l = [] :=
  sane_nil (days_sane l) fun n hn => all_none_possible h (mem_daysF.1 hn)

open Classical in
theorem ok_CoverEnds (l : List Leaf) (hl : l.length ≤ 9223372036854775807) : FnE bs n_lustrumlaw17_CoverEnds ((Shape.slice sApiLeaf).compsE l) .bool (· = true) := by
  refine ok_of (e_lustrumlaw17_CoverEnds l _) rfl ?_
  unfold c_lustrumlaw17_CoverEnds
  refine callP_eq ok_lustrumlaw17_awake (callP_of (ok_lustrumref15_Few hl) fun r hr => cond_not (fun h => rfl) fun h => ?_)
  have h12 := (hr h).1
  have hf := few1000 (hr h).2
  refine callP_eq (ok_cover_Days (by omega) hf) (callP_eq (ok_env_Earliest hf) (callP_eq (ok_env_Latest hf) ?_))
  have hn := days_few (by omega) hf
  unfold dayF
  cases ha : allF l with
  | none =>
    rw [days_nil ha]
    exact cond_no rfl (cond_yes rfl (cond_yes rfl rfl))
  | some q =>
    obtain ⟨hne, h1, h2⟩ := days_ne ha
    by_cases hw : 400 < (daysF l).length
    · rw [if_pos hw]
      exact cond_yes rfl (cond_yes rfl rfl)
    · rw [if_neg hw]
      have hp := List.length_pos_iff.2 hne
      have p1 : ∃ f ∈ l, CoversF f q.1 := mem_daysF.1 (by rw [← h1]; exact mem_lo (days_sane l) hne)
      have p2 : ∃ f ∈ l, CoversF f q.2.2.2 := mem_daysF.1 (by rw [← h2]; exact mem_hi (days_sane l) hne)
      refine cond_no rfl (cond_no rfl (cond_yes rfl (cond_yes (decide_eq_true (by dsimp only; omega)) ⟨first_in hne, cond_yes (decide_eq_true ((rd_lo hne).trans h1)) ⟨last_in hne (by dsimp only; omega), cond_yes (decide_eq_true ((rd_hi hne (by omega)).trans h2)) ?_⟩⟩)))
      exact callP_eq (ok_cover_Possible hf) (cond_yes (decide_eq_true p1) (callP_of (ok_cover_Possible hf) fun r hr => by rw [hr]; exact decide_eq_true p2))

theorem ok_lustrumlaw17_none {l : List Leaf} (hl : FewL 1000 l) : FnE bs n_lustrumlaw17_none ((Shape.slice sApiLeaf).compsE l) .bool (fun r => r = true ↔ ¬ ∃ p, anyP l p) := by
  refine ok_of (e_lustrumlaw17_none l _) rfl ?_
  unfold c_lustrumlaw17_none
  have hll := hl.1
  refine loopP_of (fun z : Int => ∃ k : Nat, z = k ∧ k ≤ l.length ∧ ∀ (i : Nat) f, i < k → l[i]? = some f → ofF f = none) (fun z => l.length - z.toNat) ?_ ⟨0, rfl, Nat.zero_le _, fun i f h => by omega⟩
  rintro _ A ⟨k, rfl, hk, hi⟩ back
  refine cond_dec (fun h1 => ⟨⟨by omega, h1⟩, ?_⟩) fun h1 => ?_
  · have h1 : (k : Int) < l.length := h1
    have hk' : k < l.length := by omega
    have hg := List.getElem?_eq_getElem hk'
    generalize l[k] = f at hg
    have hfm := List.mem_of_getElem? hg
    have hf := hl.2 f hfm
    rw [toNat_ofNat, rd_of (s := sApiLeaf) hg, w_succ (by omega)]
    refine callP_eq (ok_leaf_Empty (f := f) (by omega) (by omega)) (cond_not (fun h => ?_) fun h => ?_)
    · refine ⟨fun q => (by cases q), fun q => absurd ?_ q⟩
      cases e : famPairs (ofF f) with
      | nil => rw [fam_some.1 e] at h; cases h
      | cons p t => exact ⟨p, f, hfm, by rw [e]; exact List.mem_cons_self⟩
    · refine back _ ⟨k + 1, rfl, hk', fun i g hik hg2 => ?_⟩ (by omega)
      by_cases e : i = k
      · subst e; rw [hg] at hg2; cases hg2; exact Option.isNone_iff_eq_none.1 h
      · exact hi i g (by omega) hg2
  · refine ⟨fun _ => ?_, fun _ => rfl⟩
    rintro ⟨p, f, hf, hh⟩
    obtain ⟨i, hi2⟩ := List.getElem?_of_mem hf
    have := (List.getElem?_eq_some_iff.1 hi2).1
    rw [hi i f (by have h1 : ¬ (k : Int) < l.length := h1; omega) hi2] at hh
    cases hh

theorem any_append {l m : List Leaf} {p : Int × Int} : anyP (l ++ m) p ↔ anyP l p ∨ anyP m p := by
  unfold anyP
  constructor
  · rintro ⟨f, hf, h⟩
    rcases List.mem_append.1 hf with e | e
    · exact .inl ⟨f, e, h⟩
    · exact .inr ⟨f, e, h⟩
  · rintro (⟨f, hf, h⟩ | ⟨f, hf, h⟩)
    · exact ⟨f, List.mem_append_left _ hf, h⟩
    · exact ⟨f, List.mem_append_right _ hf, h⟩

open Classical in
/-- More families: what is certain, and possible. -/
theorem more_bools {l m : List Leaf} {d : Int} {nl nm : Bool} (hnl : nl = true ↔ ¬ ∃ p, anyP l p) (hnm : nm = true ↔ ¬ ∃ p, anyP m p) :
    decide (∃ f ∈ l ++ m, CoversF f d) = (decide (∃ f ∈ l, CoversF f d) || decide (∃ f ∈ m, CoversF f d)) ∧ decide (mem (sureF (l ++ m)) d) = (decide (mem (sureF l) d) && decide (mem (sureF m) d) || decide (mem (sureF l) d) && nm || decide (mem (sureF m) d) && nl) := by
  constructor
  · rw [← Bool.decide_or]
    refine decide_eq_decide.2 ?_
    constructor
    · rintro ⟨f, hf, h⟩
      rcases List.mem_append.1 hf with e | e
      · exact .inl ⟨f, e, h⟩
      · exact .inr ⟨f, e, h⟩
    · rintro (⟨f, hf, h⟩ | ⟨f, hf, h⟩)
      · exact ⟨f, List.mem_append_left _ hf, h⟩
      · exact ⟨f, List.mem_append_right _ hf, h⟩
  · rw [Bool.eq_iff_iff, Bool.or_eq_true, Bool.or_eq_true, Bool.and_eq_true, Bool.and_eq_true, Bool.and_eq_true, decide_eq_true_eq, decide_eq_true_eq, decide_eq_true_eq, hnl, hnm, mem_sure, mem_sure, mem_sure]
    simp only [any_append]
    constructor
    · rintro ⟨_, h⟩
      by_cases el : ∃ p, anyP l p
      · by_cases em : ∃ p, anyP m p
        · exact .inl (.inl ⟨⟨el, fun p hp => h p (.inl hp)⟩, em, fun p hp => h p (.inr hp)⟩)
        · exact .inl (.inr ⟨⟨el, fun p hp => h p (.inl hp)⟩, em⟩)
      · by_cases em : ∃ p, anyP m p
        · exact .inr ⟨⟨em, fun p hp => h p (.inr hp)⟩, el⟩
        · rename_i q
          obtain ⟨p, hp | hp⟩ := q
          · exact absurd ⟨p, hp⟩ el
          · exact absurd ⟨p, hp⟩ em
    · rintro ((⟨⟨⟨p, hp⟩, a⟩, _, b⟩ | ⟨⟨⟨p, hp⟩, a⟩, b⟩) | ⟨⟨⟨p, hp⟩, a⟩, b⟩)
      · exact ⟨⟨p, .inl hp⟩, fun p hp => hp.elim (a p) (b p)⟩
      · exact ⟨⟨p, .inl hp⟩, fun p hp => hp.elim (a p) fun q => absurd ⟨p, q⟩ b⟩
      · exact ⟨⟨p, .inr hp⟩, fun p hp => hp.elim (fun q => absurd ⟨p, q⟩ b) (a p)⟩

open Classical in
theorem ok_CoverMore (a : List Leaf × List Leaf × Int) (hl : a.1.length ≤ 9223372036854775807) (hm : a.2.1.length ≤ 9223372036854775807) : FnE bs n_lustrumlaw17_CoverMore ((Shape.pair (.slice sApiLeaf) (.pair (.slice sApiLeaf) (.int .i64))).compsE a) .bool (· = true) := by
  obtain ⟨l, m, d⟩ := a
  refine ok_of (e_lustrumlaw17_CoverMore (l, m, d) _) rfl ?_
  unfold c_lustrumlaw17_CoverMore
  refine callP_eq ok_lustrumlaw17_awake ?_
  refine join_of (fun b : Bool => b = false → (l.length ≤ 12 ∧ FewL 40 l) ∧ (m.length ≤ 12 ∧ FewL 40 m)) (fun J hJ => ?_) fun b hb => ?_
  · refine callP_of (ok_lustrumref15_Few hl) fun r hr => cond_not (fun h => hJ _ fun q => (by cases q)) fun h => callP_of (ok_lustrumref15_Few hm) fun r2 hr2 => hJ _ fun q => ⟨hr h, hr2 (by simpa using q)⟩
  · refine cond_bool (fun _ => rfl) fun h => ?_
    obtain ⟨hf, hg⟩ := hb h
    have fl := few1000 hf.2
    have fm := few1000 hg.2
    have fb := few_append hf hg
    dsimp only
    refine ⟨by simp only [List.length_nil]; omega, by simp only [List.nil_append]; omega, ?_⟩
    rw [List.nil_append]
    obtain ⟨nl, hnl⟩ : ∃ nl : Bool, nl = true ↔ ¬ ∃ p, anyP l p := ⟨decide _, decide_eq_true_iff ..⟩
    obtain ⟨nm, hnm⟩ : ∃ nm : Bool, nm = true ↔ ¬ ∃ p, anyP m p := ⟨decide _, decide_eq_true_iff ..⟩
    obtain ⟨e1, e2⟩ := more_bools (d := d) hnl hnm
    have s1 : FnE bs n_cover_Possible ((Shape.pair (.slice sApiLeaf) (.int .i64)).compsE (l ++ m, d)) .bool (· = (decide (∃ f ∈ l, CoversF f d) || decide (∃ f ∈ m, CoversF f d))) := FnE.mono (ok_cover_Possible fb) fun r hr => by rw [hr, e1]
    have s2 : FnE bs n_cover_Certain ((Shape.pair (.slice sApiLeaf) (.int .i64)).compsE (l ++ m, d)) .bool (· = (decide (mem (sureF l) d) && decide (mem (sureF m) d) || decide (mem (sureF l) d) && nm || decide (mem (sureF m) d) && nl)) := FnE.mono (ok_cover_Certain fb) fun r hr => by rw [hr, e2]
    have s3 : FnE bs n_lustrumlaw17_none ((Shape.slice sApiLeaf).compsE l) .bool (· = nl) := FnE.mono (ok_lustrumlaw17_none fl) fun r hr => Bool.eq_iff_iff.2 (hr.trans hnl.symm)
    have s4 : FnE bs n_lustrumlaw17_none ((Shape.slice sApiLeaf).compsE m) .bool (· = nm) := FnE.mono (ok_lustrumlaw17_none fm) fun r hr => Bool.eq_iff_iff.2 (hr.trans hnm.symm)
    have t1 := ok_cover_Possible (d := d) fl
    have t2 := ok_cover_Possible (d := d) fm
    have t3 := ok_cover_Certain (d := d) fl
    have t4 := ok_cover_Certain (d := d) fm
    refine callP_eq t3 (callP_eq t4 (cond_yes rfl (callP_eq s1 (callP_eq t1 ?_))))
    clear e1 e2 hnl hnm hb
    have rest : ∀ {K : Bool → Prop}, K true → callP bs 75 ((Shape.pair (.slice sApiLeaf) (.int .i64))) .bool (l ++ m, d) K → True := fun _ _ => trivial
    generalize decide (∃ f ∈ l, CoversF f d) = pl at *
    generalize decide (∃ f ∈ m, CoversF f d) = pm at *
    generalize decide (mem (sureF l) d) = A at *
    generalize decide (mem (sureF m) d) = B at *
    cases pl
    all_goals first
      | refine cond_yes rfl (cond_yes rfl ?_)
      | refine cond_no rfl (callP_eq t2 (cond_yes (decide_eq_true rfl) ?_))
    all_goals refine callP_eq s2 ?_
    all_goals cases A <;> cases B
    all_goals first
      | exact cond_yes rfl (cond_yes rfl rfl)
      | (refine cond_yes rfl (cond_no rfl (cond_yes rfl (callP_eq s4 ?_))); cases nm <;> first | exact cond_yes rfl rfl | exact cond_no rfl (cond_no rfl rfl))
      | (refine cond_no rfl (cond_no rfl (cond_yes rfl (callP_eq s3 ?_))); cases nl <;> rfl)
      | (exact cond_no rfl (cond_no rfl (cond_no rfl rfl)))

open Classical in
theorem ok_CoverPairs (a : List Leaf × Int) (hl : a.1.length ≤ 9223372036854775807) : FnE bs n_lustrumlaw17_CoverPairs ((Shape.pair (.slice sApiLeaf) (.int .i64)).compsE a) .bool (· = true) := by
  obtain ⟨l, d⟩ := a
  refine ok_of (e_lustrumlaw17_CoverPairs (l, d) _) rfl ?_
  unfold c_lustrumlaw17_CoverPairs
  refine callP_eq ok_lustrumlaw17_awake (callP_of (ok_lustrumref15_Few hl) fun r hr => cond_not (fun h => rfl) fun h => ?_)
  have hf := few1000 (hr h).2
  have hll := (hr h).1
  dsimp only at hf hll ⊢
  let In (p : Int × Int) : Prop := p.1 ≤ d ∧ d ≤ p.2
  let Met (P : Int × Int → Prop) (x y : Bool) : Prop := (x = true ↔ ∃ p, P p ∧ In p) ∧ (y = true ↔ ∀ p, P p → In p)
  have metP : ∀ {P R : Int × Int → Prop} {x y : Bool}, (∀ p, P p ↔ R p) → Met P x y → Met R x y := fun {P R} _ _ h k => by
    have : P = R := funext fun p => propext (h p)
    rw [← this]; exact k
  refine loopP_of (fun z : Bool × Bool × Int × Int => ∃ k : Nat, z.2.2.2 = k ∧ k ≤ l.length ∧ Met (anyP (l.take k)) z.1 z.2.1 ∧ ∃ N : Nat, z.2.2.1 = N ∧ N ≤ 1000 * k ∧ (0 < N ↔ ∃ p, anyP (l.take k) p)) (fun z => l.length - z.2.2.2.toNat) ?_ ⟨0, rfl, Nat.zero_le _, ⟨⟨fun h => (by cases h), fun ⟨p, ⟨f, hf, _⟩, _⟩ => (by simp at hf)⟩, ⟨fun _ p ⟨f, hf, _⟩ => (by simp at hf), fun _ => rfl⟩⟩, 0, rfl, Nat.le_refl _, ⟨fun h => (by omega), fun ⟨p, f, hf, _⟩ => (by simp at hf)⟩⟩
  rintro ⟨z1, z2, _, _⟩ A ⟨k, e1, hk, hm, N, e2, hN, hNp⟩ back
  dsimp only at e1 e2 hm ⊢
  subst e1 e2
  refine cond_dec (fun h1 => ⟨⟨by omega, h1⟩, ?_⟩) fun h1 => ?_
  · have h1 : (k : Int) < l.length := h1
    have hk' : k < l.length := by omega
    have hg := List.getElem?_eq_getElem hk'
    generalize l[k] = f at hg
    have hfm := List.mem_of_getElem? hg
    have hff := hf.2 f hfm
    have ht : l.take (k + 1) = l.take k ++ [f] := by rw [List.take_add_one, hg]; rfl
    rw [toNat_ofNat, rd_of (s := sApiLeaf) hg, w_succ (a := k) (by omega)]
    refine callP_eq (ok_leaf_Pairs (f := f) (by omega) (by omega)) (cond_dec (fun _ => rfl) fun h2 => ?_)
    have hall : pairsF f 1000 = famPairs (ofF f) := by
      have h2 : ¬ ((pairsF f 1000).length : Int) = 1000 := h2
      unfold pairsF at *
      rw [List.length_take] at h2
      exact List.take_of_length_le (by omega)
    have hlen : (pairsF f 1000).length ≤ 1000 := by unfold pairsF; rw [List.length_take]; omega
    rw [hall] at hlen ⊢
    have hany : ∀ p, anyP (l.take (k + 1)) p ↔ anyP (l.take k) p ∨ p ∈ famPairs (ofF f) := fun p => by
      rw [ht, any_append]
      unfold anyP
      simp
    generalize famPairs (ofF f) = ps at hlen hany
    rw [w_add (a := N) (b := ps.length) (by omega)]
    refine loopP_of (fun z : Bool × Bool × Int => ∃ j : Nat, z.2.2 = j ∧ j ≤ ps.length ∧ Met (fun p => anyP (l.take k) p ∨ p ∈ ps.take j) z.1 z.2.1) (fun z => ps.length - z.2.2.toNat) ?_ ⟨0, rfl, Nat.zero_le _, metP (fun p => by simp) hm⟩
    rintro ⟨y1, y2, _⟩ A2 ⟨j, e1, hj, hm2⟩ back2
    dsimp only at e1 hm2 ⊢
    subst e1
    refine cond_dec (fun h3 => ⟨⟨by omega, h3⟩, ?_⟩) fun h3 => ?_
    · have h3' : (j : Int) < ps.length := h3
      have hj' : j < ps.length := by omega
      have hgp := List.getElem?_eq_getElem hj'
      generalize ps[j] = p at hgp
      have htp : ps.take (j + 1) = ps.take j ++ [p] := by rw [List.take_add_one, hgp]; rfl
      rw [toNat_ofNat, rd_of (s := sRun) hgp, w_succ (a := j) (by omega)]
      have hq : ∀ q, (anyP (l.take k) q ∨ q ∈ ps.take (j + 1)) ↔ (anyP (l.take k) q ∨ q ∈ ps.take j) ∨ q = p := fun q => by
        rw [htp, List.mem_append, List.mem_singleton, or_assoc]
      have go : ∀ x y : Bool, (x = true ↔ y1 = true ∨ In p) → (y = true ↔ y2 = true ∧ In p) → A2 (x, y, ((j + 1 : Nat) : Int)) := by
        intro x y hx hy
        refine back2 _ ⟨j + 1, rfl, hj', metP (fun q => (hq q).symm) ⟨?_, ?_⟩⟩ (by dsimp only; omega)
        · rw [hx, hm2.1]
          constructor
          · rintro (⟨q, h, i⟩ | h)
            · exact ⟨q, .inl h, i⟩
            · exact ⟨p, .inr rfl, h⟩
          · rintro ⟨q, h | rfl, i⟩
            · exact .inl ⟨q, h, i⟩
            · exact .inr i
        · rw [hy, hm2.2]
          constructor
          · rintro ⟨h, i⟩ q (hq | rfl)
            · exact h q hq
            · exact i
          · exact fun h => ⟨fun q hq => h q (.inl hq), h p (.inr rfl)⟩
      refine cond_dec (fun h5 => ⟨⟨by omega, h3⟩, ?_⟩) fun h5 => ?_
      · have hin : In p ↔ d ≤ p.2 := ⟨fun h => h.2, fun h => ⟨h5, h⟩⟩
        cases y1 <;> cases y2
        · exact go _ _ (by rw [hin, decide_eq_true_iff]; simp) (by simp)
        · exact go _ _ (by rw [hin, decide_eq_true_iff]; simp) (by rw [hin, decide_eq_true_iff]; simp)
        · exact go _ _ (by simp) (by simp)
        · exact go _ _ (by simp) (by rw [hin, decide_eq_true_iff]; simp)
      · have hin : ¬ In p := fun h => h5 h.1
        cases y1 <;> cases y2 <;> exact go _ _ (by simp [hin]) (by simp [hin])
    · rw [show ps.take j = ps from List.take_of_length_le (by have h3 : ¬ (j : Int) < ps.length := h3; omega)] at hm2
      refine back _ ⟨k + 1, rfl, hk', metP (fun p => (hany p).symm) hm2, N + ps.length, rfl, by omega, ?_⟩ (by dsimp only; omega)
      constructor
      · intro h
        rcases Nat.eq_zero_or_pos N with e | e
        · obtain ⟨p, t, rfl⟩ : ∃ p t, ps = p :: t := by
            cases ps with
            | nil => simp at h; omega
            | cons p t => exact ⟨p, t, rfl⟩
          exact ⟨p, (hany p).2 (.inr List.mem_cons_self)⟩
        · obtain ⟨p, hp⟩ := hNp.1 e
          exact ⟨p, (hany p).2 (.inl hp)⟩
      · rintro ⟨p, hp⟩
        rcases (hany p).1 hp with h | h
        · have := hNp.2 ⟨p, h⟩; omega
        · have := List.length_pos_of_mem h; omega
  · rw [List.take_of_length_le (by have h1 : ¬ (k : Int) < l.length := h1; omega)] at hm hNp
    have e1 : decide (∃ f ∈ l, CoversF f d) = z1 := by
      rw [Bool.eq_iff_iff, decide_eq_true_iff, hm.1]
      exact any_covers
    have e2 : decide (mem (sureF l) d) = (decide (0 < N) && z2) := by
      rw [Bool.eq_iff_iff, Bool.and_eq_true, decide_eq_true_iff, decide_eq_true_iff, hm.2, hNp]
      exact mem_sure
    have t1 : FnE bs n_cover_Possible ((Shape.pair (.slice sApiLeaf) (.int .i64)).compsE (l, d)) .bool (· = z1) := FnE.mono (ok_cover_Possible hf) fun r hr => by rw [hr, e1]
    have t2 : FnE bs n_cover_Certain ((Shape.pair (.slice sApiLeaf) (.int .i64)).compsE (l, d)) .bool (· = (decide (0 < N) && z2)) := FnE.mono (ok_cover_Certain hf) fun r hr => by rw [hr, e2]
    refine cond_yes rfl (callP_eq t1 (cond_yes (decide_eq_true rfl) (callP_eq t2 ?_)))
    cases z2
    · refine cond_no rfl (decide_eq_true ?_)
      simp
    · refine cond_yes rfl (decide_eq_true ?_)
      rw [Bool.and_true]
      exact decide_eq_decide.2 (by omega)
end Go.Proofs.YtjeoelajkncpcaaDoor.V

