/- The calculus of the program's functions and their contracts, part 9. No condition of its own. -/
import Derived.Test.YtjeoelajkncpcaaDoorM8
import Derived.RangeFuncBound
import Derived.RangeFuncCalls
import Derived.Shelf.Abstract
import Derived.Shelf.RegionOpen
import Derived.WalkKit
import Derived.OwnWalkIn
import Derived.TacticsInMore
import Derived.LoopNIn
import Derived.LoopIn

/- lustrumlaw14.LeafMore as a condition on the program's functions. No condition of its own. -/
namespace Go.Proofs.YtjeoelajkncpcaaDoor.V
open Go
set_option linter.unusedVariables false
set_option linter.unusedSimpArgs false

theorem within_of {s : Runs} {m : Int} (h : Sane s) (k : ∀ n, mem s n → 0 ≤ n ∧ n ≤ m) : Within s m := by
  refine ⟨h, ?_⟩
  by_cases e : s = []
  · exact .inl e
  · exact .inr ⟨(k _ (mem_lo h e)).1, (k _ (mem_hi h e)).2⟩

theorem mem_union {a b : Runs} (ha : Sane a) (hb : Sane b) {n : Int} : mem (makeF (a ++ b)) n ↔ mem a n ∨ mem b n := by
  rw [mem_make]
  unfold memL
  rw [mem_append]
  constructor
  · exact fun h => h.2.2
  · rintro (h | h)
    · have := mem_lim ha h; exact ⟨this.1, this.2, .inl h⟩
    · have := mem_lim hb h; exact ⟨this.1, this.2, .inr h⟩

theorem within_union {a b : Runs} {m : Int} (ha : Within a m) (hb : Within b m) : Within (makeF (a ++ b)) m :=
  within_of (make_sane _) fun n hn => ((mem_union ha.1 hb.1).1 hn).elim (fun h => Within.bounds ha h) fun h => Within.bounds hb h

theorem of_none {f : Leaf} : ofF f = none ↔ ∀ p, ¬ HasF f p := by
  rw [← fam_some]
  constructor
  · intro h p hp
    have := fam_has hp
    rw [h] at this
    cases this
  · intro h
    cases e : famPairs (ofF f) with
    | nil => rfl
    | cons p l => exact absurd (fam_pair (p := p) (by rw [e]; exact List.mem_cons_self)).2.1 (h p)

theorem covers_of {f g : Leaf} (h : ∀ p, HasF f p → HasF g p) {d : Int} (k : CoversF f d) : CoversF g d := by
  obtain ⟨p, hp, h1, h2⟩ := fam_covers k
  have hg := fam_has (h p (fam_pair hp).2.1)
  exact (fam_pair hg).2.2 d h1 h2

theorem more_span {A A' B B' : Runs} (hf : LeafSane (true, 0, A, B)) (hg : LeafSane (true, 0, A', B')) :
    LeafSane (true, 0, makeF (A ++ A'), B) ∧ LeafSane (true, 0, A', B) ∧ ∀ p, HasF (true, 0, makeF (A ++ A'), B) p ↔ HasF (true, 0, A, B) p ∨ HasF (true, 0, A', B) p := by
  have hf' := hf
  have hg' := hg
  unfold LeafSane at hf' hg'
  rw [if_pos rfl] at hf' hg'
  have h1 : LeafSane (true, 0, makeF (A ++ A'), B) := by unfold LeafSane; rw [if_pos rfl]; exact ⟨rfl, within_union hf'.2.1 hg'.2.1, hf'.2.2⟩
  have h2 : LeafSane (true, 0, A', B) := by unfold LeafSane; rw [if_pos rfl]; exact ⟨rfl, hg'.2.1, hf'.2.2⟩
  refine ⟨h1, h2, fun p => ?_⟩
  rw [has_span h1 rfl, has_span hf rfl, has_span h2 rfl]
  dsimp only
  rw [mem_union hf'.2.1.1 hg'.2.1.1]
  constructor
  · rintro ⟨a, b | b, c⟩
    · exact .inl ⟨a, b, c⟩
    · exact .inr ⟨a, b, c⟩
  · rintro (⟨a, b, c⟩ | ⟨a, b, c⟩)
    · exact ⟨a, .inl b, c⟩
    · exact ⟨a, .inr b, c⟩

theorem more_units {u : Int} {A A' B B' : Runs} (hf : LeafSane (false, u, A, B)) (hg : LeafSane (false, u, A', B')) :
    LeafSane (false, u, makeF (A ++ A'), B) ∧ LeafSane (false, u, A', B) ∧ ∀ p, HasF (false, u, makeF (A ++ A'), B) p ↔ HasF (false, u, A, B) p ∨ HasF (false, u, A', B) p := by
  have hf' := hf
  have hg' := hg
  unfold LeafSane at hf' hg'
  rw [if_neg Bool.false_ne_true] at hf' hg'
  have h1 : LeafSane (false, u, makeF (A ++ A'), B) := by unfold LeafSane; rw [if_neg Bool.false_ne_true]; exact ⟨hf'.1, within_union hf'.2.1 hg'.2.1, hf'.2.2⟩
  have h2 : LeafSane (false, u, A', B) := by unfold LeafSane; rw [if_neg Bool.false_ne_true]; exact ⟨hf'.1, hg'.2.1, hf'.2.2⟩
  refine ⟨h1, h2, fun p => ?_⟩
  rw [has_units h1 rfl, has_units hf rfl, has_units h2 rfl]
  dsimp only
  simp only [mem_union hf'.2.1.1 hg'.2.1.1]
  constructor
  · rintro ⟨i, a, b | b, c⟩
    · exact .inl ⟨i, a, b, c⟩
    · exact .inr ⟨i, a, b, c⟩
  · rintro (⟨i, a, b, c⟩ | ⟨i, a, b, c⟩)
    · exact ⟨i, a, .inl b, c⟩
    · exact ⟨i, a, .inr b, c⟩

/-- The last part of the law, whatever the leaves are: three of them, h having what f or x has. -/
theorem more_rest {f h x : Leaf} {p : Int × Int} (hl : ∀ l ∈ [f, h, x], l.2.2.1.length ≤ 1000 ∧ l.2.2.2.length ≤ 1000) (hs : LeafSane h) (hh : ∀ p, HasF h p ↔ HasF f p ∨ HasF x p) :
    ∃ a b e1 e2 c1 c2 : Bool, (c1 = true → c2 = true) ∧ FnE bs n_leaf_Sane (sApiLeaf.compsE h) .bool (· = true) ∧ FnE bs n_leaf_Has ((Shape.pair sApiLeaf sRun).compsE (h, p)) .bool (· = (a || b)) ∧ FnE bs n_leaf_Has ((Shape.pair sApiLeaf sRun).compsE (f, p)) .bool (· = a) ∧ FnE bs n_leaf_Has ((Shape.pair sApiLeaf sRun).compsE (x, p)) .bool (· = b)
      ∧ FnE bs n_leaf_Empty (sApiLeaf.compsE h) .bool (· = (e1 && e2)) ∧ FnE bs n_leaf_Empty (sApiLeaf.compsE f) .bool (· = e1) ∧ FnE bs n_leaf_Empty (sApiLeaf.compsE x) .bool (· = e2) ∧ FnE bs n_leaf_Covers ((Shape.pair sApiLeaf (.int .i64)).compsE (f, p.1)) .bool (· = c1) ∧ FnE bs n_leaf_Covers ((Shape.pair sApiLeaf (.int .i64)).compsE (h, p.1)) .bool (· = c2) := by
  classical
  have l1 := hl f (by simp)
  have l2 := hl h (by simp)
  have l3 := hl x (by simp)
  refine ⟨decide (HasF f p), decide (HasF x p), (ofF f).isNone, (ofF x).isNone, decide (CoversF f p.1), decide (CoversF h p.1), ?_, ?_, ?_, ?_, ?_, ?_, ok_leaf_Empty (by omega) (by omega), ok_leaf_Empty (by omega) (by omega), ?_, ?_⟩
  · exact fun q => decide_eq_true (covers_of (fun p hp => (hh p).2 (.inl hp)) (of_decide_eq_true q))
  · exact FnE.mono (ok_leaf_Sane (by omega) (by omega)) fun r hr => by rw [hr]; exact decide_eq_true hs
  · exact FnE.mono (ok_leaf_Has (by omega) (by omega)) fun r hr => by
      rw [hr]
      have : @decide (HasF h p) (Classical.propDecidable _) = (decide (HasF f p) || decide (HasF x p)) := by simp only [hh, Bool.decide_or]
      exact this
  · exact FnE.mono (ok_leaf_Has (by omega) (by omega)) fun r hr => by rw [hr]
  · exact FnE.mono (ok_leaf_Has (by omega) (by omega)) fun r hr => by rw [hr]
  · refine FnE.mono (ok_leaf_Empty (by omega) (by omega)) fun r hr => ?_
    rw [hr]
    have : (ofF h).isNone = ((ofF f).isNone && (ofF x).isNone) := by
      rw [Bool.eq_iff_iff, Bool.and_eq_true, Option.isNone_iff_eq_none, Option.isNone_iff_eq_none, Option.isNone_iff_eq_none, of_none, of_none, of_none]
      exact ⟨fun q => ⟨fun p hp => q p ((hh p).2 (.inl hp)), fun p hp => q p ((hh p).2 (.inr hp))⟩, fun q p hp => ((hh p).1 hp).elim (q.1 p) (q.2 p)⟩
    exact this
  · exact FnE.mono (ok_leaf_Covers (by omega) (by omega)) fun r hr => by rw [hr]
  · exact FnE.mono (ok_leaf_Covers (by omega) (by omega)) fun r hr => by rw [hr]

theorem ok_LeafMore (a : Leaf × Leaf × (Int × Int)) : FnE bs n_lustrumlaw14_LeafMore ((Shape.pair sApiLeaf (.pair sApiLeaf sRun)).compsE a) .bool (· = true) := by
  obtain ⟨⟨s, u, A, B⟩, ⟨s', u', A', B'⟩, p⟩ := a
  refine ok_of (e_lustrumlaw14_LeafMore _ _) rfl ?_
  unfold c_lustrumlaw14_LeafMore
  refine callP_eq ok_lustrumlaw14_awake (callP_eq ok_lustrumref14_Few (cond_not (fun h => rfl) fun h => callP_eq ok_lustrumref14_Few (cond_not (fun h => rfl) fun k => ?_)))
  have h := of_decide_eq_true h
  have k := of_decide_eq_true k
  dsimp only at h k
  refine callP_eq (ok_leaf_Sane (by dsimp only; omega) (by dsimp only; omega)) (cond_not (fun h => rfl) fun hf => callP_eq (ok_leaf_Sane (by dsimp only; omega) (by dsimp only; omega)) (cond_not (fun h => rfl) fun hg => cond_not (fun h => rfl) fun es => ?_))
  have hf := of_decide_eq_true hf
  have hg := of_decide_eq_true hg
  have es : s = s' := of_decide_eq_true es
  subst es
  have hlen : (makeF (A ++ A')).length ≤ 80 := by
    have := make_length (A ++ A')
    rw [List.length_append] at this
    omega
  have hU : FnE bs n_sets_Union ((Shape.pair (.slice sRun) (.slice sRun)).compsE (A, A')) (.slice sRun) (· = makeF (A ++ A')) := ok_sets_Union (by omega)
  have ends : ∀ l ∈ [((s, u, A, B) : Leaf), (s, u, makeF (A ++ A'), B), (s, u', A', B)], l.2.2.1.length ≤ 1000 ∧ l.2.2.2.length ≤ 1000 := by
    intro l hl
    simp only [List.mem_cons, List.not_mem_nil, or_false] at hl
    rcases hl with rfl | rfl | rfl <;> dsimp only <;> omega
  cases s with
  | false =>
    refine cond_yes rfl (cond_not (fun h => rfl) fun eu => ?_)
    have eu : u = u' := of_decide_eq_true eu
    subst eu
    obtain ⟨m1, m2, m3⟩ := more_units hf hg
    obtain ⟨a, b, e1, e2, c1, c2, q, s1, s2, s3, s4, s5, s6, s7, s8, s9⟩ := more_rest (p := p) ends m1 m3
    clear ends m1 m2 m3 hf hg
    refine ⟨?_, ?_⟩ <;> refine callP_eq hU (cond_yes rfl (callP_eq s1 (cond_yes rfl (callP_eq s2 (callP_eq s3 ?_))))) <;> cases a
    all_goals first
      | refine cond_no rfl (callP_eq s4 (cond_yes (decide_eq_true rfl) ?_))
      | refine cond_yes rfl (cond_yes rfl ?_)
    all_goals refine callP_eq s5 (callP_eq s6 ?_)
    all_goals cases e1
    all_goals first
      | refine cond_no rfl (cond_yes rfl ?_)
      | refine cond_yes rfl (callP_eq s7 (cond_yes (decide_eq_true rfl) ?_))
    all_goals refine callP_eq s8 ?_
    all_goals cases c1
    all_goals first
      | exact cond_yes rfl rfl
      | exact cond_no rfl (callP_eq s9 (q rfl))
  | true =>
    have z := hf
    have z' := hg
    unfold LeafSane at z z'
    rw [if_pos rfl] at z z'
    have e1 : u = 0 := z.1
    have e2 : u' = 0 := z'.1
    subst e1
    subst e2
    clear z z'
    obtain ⟨m1, m2, m3⟩ := more_span hf hg
    obtain ⟨a, b, e1, e2, c1, c2, q, s1, s2, s3, s4, s5, s6, s7, s8, s9⟩ := more_rest (p := p) ends m1 m3
    clear ends m1 m2 m3 hf hg
    refine cond_no rfl ?_
    refine ⟨?_, ?_⟩ <;> refine callP_eq hU (cond_yes rfl (callP_eq s1 (cond_yes rfl (callP_eq s2 (callP_eq s3 ?_))))) <;> cases a
    all_goals first
      | refine cond_no rfl (callP_eq s4 (cond_yes (decide_eq_true rfl) ?_))
      | refine cond_yes rfl (cond_yes rfl ?_)
    all_goals refine callP_eq s5 (callP_eq s6 ?_)
    all_goals cases e1
    all_goals first
      | refine cond_no rfl (cond_yes rfl ?_)
      | refine cond_yes rfl (callP_eq s7 (cond_yes (decide_eq_true rfl) ?_))
    all_goals refine callP_eq s8 ?_
    all_goals cases c1
    all_goals first
      | exact cond_yes rfl rfl
      | exact cond_no rfl (callP_eq s9 (q rfl))
end Go.Proofs.YtjeoelajkncpcaaDoor.V

/- What sets of units cover: plain facts. No program in sight. -/
namespace Go.Proofs.YtjeoelajkncpcaaDoor.V
set_option linter.unusedVariables false
set_option linter.unusedSimpArgs false

def unitsF (u : Int) (s : Runs) : Runs := clipF (makeF s) 0 (VCal.ucount u - 1)
theorem units_sane (u : Int) (s : Runs) : Sane (unitsF u s) := sane_clip (make_sane s)
theorem units_length (u : Int) (s : Runs) : (unitsF u s).length ≤ s.length := Nat.le_trans (clip_length _ _ _) (make_length s)
theorem mem_units {u : Int} {s : Runs} {n : Int} : mem (unitsF u s) n ↔ mem (makeF s) n ∧ 0 ≤ n ∧ n < VCal.ucount u := by
  unfold unitsF
  rw [mem_clip]
  constructor
  · rintro ⟨a, b, c⟩; exact ⟨a, b, by omega⟩
  · rintro ⟨a, b, c⟩; exact ⟨a, b, by omega⟩

theorem units_in {u : Int} {s : Runs} {r : Int × Int} (h : r ∈ unitsF u s) : 0 ≤ r.1 ∧ r.1 ≤ r.2 ∧ r.2 < VCal.ucount u := by
  have h1 := (Sane.bounds (units_sane u s) r h).2.1
  have a := (mem_units (u := u) (s := s) (n := r.1)).1 ⟨r, h, Int.le_refl _, h1⟩
  have b := (mem_units (u := u) (s := s) (n := r.2)).1 ⟨r, h, h1, Int.le_refl _⟩
  omega

/-- A set of units that are within is what it is. -/
theorem units_self {u : Int} {s : Runs} (h : Within s (VCal.ucount u - 1)) : unitsF u s = s := by
  refine sane_ext (units_sane u s) h.1 fun n => ?_
  rw [mem_units, make_self h.1]
  exact ⟨fun q => q.1, fun q => ⟨q, by have := Within.bounds h q; omega⟩⟩

def spanOf (u : Int) (r : Int × Int) : Int × Int := (VCal.ufirst u r.1, VCal.ulast u r.2)
def coverF (u : Int) (s : Runs) : Runs := makeF ((unitsF u s).map (spanOf u))

theorem cover_length (u : Int) (s : Runs) : (coverF u s).length ≤ s.length := by
  have := make_length ((unitsF u s).map (spanOf u))
  rw [List.length_map] at this
  exact Nat.le_trans this (units_length u s)

theorem cover_sane (u : Int) (s : Runs) : Sane (coverF u s) := make_sane _

theorem unit_at {u : Int} : ∀ (n : Nat) (i j d : Int), j - i ≤ n → 0 ≤ i → j < VCal.ucount u → i ≤ j → VCal.ufirst u i ≤ d → d ≤ VCal.ulast u j → ∃ k, VCal.uof u d = some k ∧ i ≤ k ∧ k ≤ j
  | 0, i, j, d, hn, h0, hj, hij, h1, h2 => by
    obtain rfl : i = j := by omega
    exact ⟨i, VCal.uof_some.2 ⟨h0, hj, h1, h2⟩, by omega, by omega⟩
  | n + 1, i, j, d, hn, h0, hj, hij, h1, h2 => by
    by_cases e : d ≤ VCal.ulast u i
    · exact ⟨i, VCal.uof_some.2 ⟨h0, by omega, h1, e⟩, by omega, hij⟩
    · by_cases e2 : i = j
      · subst e2; omega
      · have := VCal.ulast_next (kind := u) (i := i) (by omega)
        obtain ⟨k, a, b, c⟩ := unit_at n (i + 1) j d (by omega) (by omega) hj (by omega) (by omega) h2
        exact ⟨k, a, by omega, c⟩

theorem mem_cover {u : Int} {s : Runs} {d : Int} : mem (coverF u s) d ↔ ∃ i, VCal.uof u d = some i ∧ mem (makeF s) i := by
  unfold coverF
  rw [mem_make]
  constructor
  · rintro ⟨_, _, q, hq, h1, h2⟩
    obtain ⟨r, hr, rfl⟩ := List.mem_map.1 hq
    have hi := units_in hr
    obtain ⟨k, a, b, c⟩ := unit_at (r.2 - r.1).toNat r.1 r.2 d (by omega) hi.1 hi.2.2 hi.2.1 h1 h2
    exact ⟨k, a, (mem_units.1 ⟨r, hr, b, c⟩).1⟩
  · rintro ⟨i, hi, hm⟩
    obtain ⟨a, b, c, d'⟩ := VCal.uof_some.1 hi
    have hd := VCal.unit_in a b
    obtain ⟨r, hr, h1, h2⟩ := (mem_units (u := u)).2 ⟨hm, a, b⟩
    have hr' := units_in hr
    have l1 := ufirst_le (u := u) (i := r.1) (j := i) hr'.1 h1 b
    have l2 := ufirst_le (u := u) (i := i) (j := r.2) a h2 hr'.2.2
    refine ⟨by unfold Lim; omega, by unfold Lim; omega, spanOf u r, List.mem_map.2 ⟨r, hr, rfl⟩, ?_, ?_⟩
    · show VCal.ufirst u r.1 ≤ d; omega
    · show d ≤ VCal.ulast u r.2; omega

/-- The days of a leaf. -/
def partF (f : Leaf) : Runs := match ofF f with
  | none => []
  | some (.inl (u, s)) => coverF u s
  | some (.inr (a, b)) => [(loF a, hiF b)]

theorem mem_lim2 {s : Runs} {m n : Int} (h : Within s m) (hn : mem s n) (hm : m ≤ 3652424) : 0 ≤ n ∧ n ≤ 3652424 := by
  have := Within.bounds h hn
  omega

theorem mem_part {f : Leaf} {d : Int} : memL (partF f) d ↔ CoversF f d := by
  unfold memL partF CoversF
  rcases ho : ofF f with _ | ⟨u, s⟩ | ⟨a, b⟩
  · exact ⟨fun h => mem_nil h.2.2, False.elim⟩
  · obtain ⟨h1, h2, h3, h4, h5, h6, h7⟩ := of_units ho
    dsimp only
    rw [mem_cover, make_self h6.1]
    constructor
    · exact fun h => h.2.2
    · rintro ⟨i, hi, hm⟩
      obtain ⟨q1, q2, q3, q4⟩ := VCal.uof_some.1 hi
      have := VCal.unit_in q1 q2
      exact ⟨by unfold Lim; omega, by unfold Lim; omega, i, hi, hm⟩
  · obtain ⟨h1, h2, h3, h4, h5, h6, h7, rfl, rfl⟩ := of_span ho
    obtain ⟨sa, sb, na, nb, l1, l2⟩ := span_ends ho
    have b1 := Within.bounds h6 (mem_lo h6.1 h3)
    have b2 := Within.bounds h7 (mem_hi h7.1 h4)
    dsimp only
    rw [mem_cons, l1, l2]
    constructor
    · rintro ⟨_, _, h | h⟩
      · exact h
      · exact (mem_nil h).elim
    · exact fun h => ⟨by unfold Lim; omega, by unfold Lim; omega, .inl h⟩

theorem part_length (f : Leaf) : (partF f).length ≤ f.2.2.1.length + 1 := by
  unfold partF
  rcases ho : ofF f with _ | ⟨u, s⟩ | ⟨a, b⟩
  · exact Nat.zero_le _
  · obtain ⟨h1, h2, rfl, rfl, h5, h6, h7⟩ := of_units ho
    exact Nat.le_trans (cover_length _ _) (Nat.le_succ _)
  · simp

theorem memL_append {a b : Runs} {n : Int} : memL (a ++ b) n ↔ memL a n ∨ memL b n := by
  unfold memL
  rw [mem_append]
  constructor
  · rintro ⟨a, b, h | h⟩
    · exact .inl ⟨a, b, h⟩
    · exact .inr ⟨a, b, h⟩
  · rintro (⟨a, b, h⟩ | ⟨a, b, h⟩)
    · exact ⟨a, b, .inl h⟩
    · exact ⟨a, b, .inr h⟩

def daysL (l : List Leaf) : Runs := l.flatMap partF
theorem days_length : ∀ (l : List Leaf) {n : Nat}, (∀ f ∈ l, f.2.2.1.length ≤ n) → (daysL l).length ≤ l.length * (n + 1)
  | [], _, _ => by simp [daysL]
  | f :: l, n, h => by
    have h1 := days_length l fun g hg => h g (List.mem_cons_of_mem _ hg)
    have h2 := part_length f
    have h3 := h f List.mem_cons_self
    unfold daysL at *
    rw [List.flatMap_cons, List.length_append, List.length_cons, Nat.add_mul]
    omega

theorem mem_days : ∀ {l : List Leaf} {d : Int}, memL (daysL l) d ↔ ∃ f ∈ l, CoversF f d
  | [], d => ⟨fun h => (mem_nil h.2.2).elim, fun ⟨f, hf, _⟩ => by cases hf⟩
  | f :: l, d => by
    unfold daysL
    rw [List.flatMap_cons, memL_append, mem_part]
    have := mem_days (l := l) (d := d)
    unfold daysL at this
    rw [this]
    simp

/-- All days that are possible. -/
def daysF (l : List Leaf) : Runs := makeF (daysL l)
theorem mem_daysF {l : List Leaf} {d : Int} : mem (daysF l) d ↔ ∃ f ∈ l, CoversF f d := mem_make.trans mem_days

/-- All that are certain. -/
def sureF (l : List Leaf) : Runs := match allF l with
  | none => []
  | some q => makeF [(q.2.1, q.2.2.1)]

theorem covers_iff {f : Leaf} {d : Int} : CoversF f d ↔ ∃ p ∈ famPairs (ofF f), p.1 ≤ d ∧ d ≤ p.2 :=
  ⟨fam_covers, fun ⟨p, hp, h1, h2⟩ => (fam_pair hp).2.2 d h1 h2⟩

theorem any_covers {l : List Leaf} {d : Int} : (∃ f ∈ l, CoversF f d) ↔ ∃ p, anyP l p ∧ p.1 ≤ d ∧ d ≤ p.2 := by
  constructor
  · rintro ⟨f, hf, h⟩
    obtain ⟨p, hp, h1, h2⟩ := covers_iff.1 h
    exact ⟨p, ⟨f, hf, hp⟩, h1, h2⟩
  · rintro ⟨p, ⟨f, hf, hp⟩, h1, h2⟩
    exact ⟨f, hf, covers_iff.2 ⟨p, hp, h1, h2⟩⟩

theorem any_in {l : List Leaf} {p : Int × Int} (h : anyP l p) : 0 ≤ p.1 ∧ p.1 ≤ p.2 ∧ p.2 ≤ 3652424 := by
  obtain ⟨f, hf, hp⟩ := h
  exact (fam_pair hp).1

/-- Certain: in each pair, of which there is one. -/
theorem mem_sure {l : List Leaf} {d : Int} : mem (sureF l) d ↔ (∃ p, anyP l p) ∧ ∀ p, anyP l p → p.1 ≤ d ∧ d ≤ p.2 := by
  unfold sureF
  rcases all_spec l with ⟨h1, h2⟩ | ⟨q, h1, h0, ⟨p1, c1, d1⟩, ⟨p2, c2, d2⟩, ⟨p3, c3, d3⟩, ⟨p4, c4, d4⟩⟩
  · rw [h1]
    refine ⟨fun h => (mem_nil h).elim, ?_⟩
    rintro ⟨⟨p, f, hf, hp⟩, _⟩
    rw [h2 f hf] at hp
    cases hp
  · rw [h1]
    dsimp only
    rw [mem_make]
    unfold memL
    rw [mem_cons]
    constructor
    · rintro ⟨_, _, h | h⟩
      · refine ⟨⟨p1, c1⟩, fun p hp => ?_⟩
        have := h0 p hp
        dsimp only at h
        omega
      · exact (mem_nil h).elim
    · rintro ⟨_, h⟩
      have a := h p2 c2
      have b := h p3 c3
      have := any_in c2
      have := any_in c3
      refine ⟨by unfold Lim; omega, by unfold Lim; omega, .inl ⟨by dsimp only; omega, by dsimp only; omega⟩⟩
end Go.Proofs.YtjeoelajkncpcaaDoor.V

/- image.units, image.Cover, cover: their contracts. No condition of its own. -/
namespace Go.Proofs.YtjeoelajkncpcaaDoor.V
open Go
set_option linter.unusedVariables false
set_option linter.unusedSimpArgs false

theorem ok_image_units {u : Int} {s : Runs} (hl : s.length < 65536) : FnE bs n_image_units ((Shape.pair (.int .i64) (.slice sRun)).compsE (u, s)) (.slice sRun) (· = unitsF u s) := by
  refine ok_of (e_image_units (u, s) _) rfl ?_
  unfold c_image_units
  have hc := VCal.ucount_pos u
  refine callP_eq ok_unit_Count ?_
  rw [w64_of (n := VCal.ucount u - 1) (by omega)]
  exact callP_eq (ok_sets_ClipA hl) rfl

theorem ok_image_Cover {u : Int} {s : Runs} (hl : s.length < 65536) : FnE bs n_image_Cover ((Shape.pair (.int .i64) (.slice sRun)).compsE (u, s)) (.slice sRun) (· = coverF u s) := by
  refine ok_of (e_image_Cover (u, s) _) rfl ?_
  unfold c_image_Cover
  refine callP_eq (ok_image_units hl) ?_
  have hlen := units_length u s
  unfold coverF
  have hin : ∀ r ∈ unitsF u s, 0 ≤ r.1 ∧ r.1 ≤ r.2 ∧ r.2 < VCal.ucount u := fun r => units_in
  generalize unitsF u s = us at hlen hin
  refine loopP_of (fun z : Unit × Int × Runs => ∃ k : Nat, z.2.1 = k ∧ k ≤ us.length ∧ z.2.2 = (us.take k).map (spanOf u)) (fun z => us.length - z.2.1.toNat) ?_ ⟨0, rfl, Nat.zero_le _, rfl⟩
  rintro ⟨_, _, _⟩ A ⟨k, e1, hk, e2⟩ back
  dsimp only at e1 e2 ⊢
  subst e1 e2
  refine cond_dec (fun h1 => ⟨⟨by omega, h1⟩, ?_⟩) fun h1 => ?_
  · have h1 : (k : Int) < us.length := h1
    have hk' : k < us.length := by omega
    have hg := List.getElem?_eq_getElem hk'
    generalize us[k] = r at hg
    have hr := hin r (List.mem_of_getElem? hg)
    rw [toNat_ofNat, rd_of (s := sRun) hg, w_succ (a := k) (by omega)]
    refine callP_eq ok_unit_First (callP_eq ok_unit_Last ⟨?_, ?_⟩)
    · rw [List.length_map, List.length_take]
      show (_ + 1) * 16 ≤ _
      omega
    · refine back _ ⟨k + 1, rfl, hk', ?_⟩ (by dsimp only; omega)
      dsimp only
      have e : ((firstS u r.1).1, (lastS u r.2).1) = spanOf u r := by
        unfold firstS lastS spanOf
        rw [if_pos (by omega), if_pos (by omega)]
      rw [List.take_add_one, hg, List.map_append, e]
      rfl
  · rw [List.take_of_length_le (by have h1 : ¬ (k : Int) < us.length := h1; omega)]
    exact callP_eq (ok_runs_Make (by rw [List.length_map]; omega)) rfl

/-! ### Possible -/

noncomputable def covG (d : Int) (f : Leaf) : Option Bool := if f.2.2.1.length ≤ 1000000000 ∧ f.2.2.2.length ≤ 1000000000 then some (@decide (CoversF f d) (Classical.propDecidable _)) else none

theorem ok_cover_Possible_1 {d : Int} {f : Leaf} (hla : f.2.2.1.length ≤ 1000000000) (hlb : f.2.2.2.length ≤ 1000000000) : FnE bs n_cover_Possible_1 ([] ++ Shape.compsE sApiLeaf f ++ [(.ip [(.p (.int .i64) d)] 0)]) .bool (· = @decide (CoversF f d) (Classical.propDecidable _)) := by
  refine ok_of (e_cover_Possible_1 d f _) rfl ?_
  unfold c_cover_Possible_1
  exact callP_of (ok_leaf_Covers hla hlb) fun r hr => by rw [hr]

theorem cl_Possible {d : Int} : CloSpec bs 104 [] [(.ip [(.p (.int .i64) d)] 0)] sApiLeaf .bool (covG d) := ⟨(ok_cover_Possible_1 (d := 0) (f := (false, 0, [], [])) (by decide) (by decide)).1, fun x r hx => by
  unfold covG at hx
  split at hx
  · rename_i h
    cases hx
    exact ok_cover_Possible_1 h.1 h.2
  · cases hx⟩

open Classical in
theorem ok_slices_IndexFunc {l : List Leaf} {d : Int} (hl : FewL 1000 l) : FnE bs n_slices_IndexFunc ((Shape.pair (.slice sApiLeaf) (.func sApiLeaf .bool)).compsE (l, covG d)) (.int .i64) (fun r => 0 ≤ r ↔ ∃ f ∈ l, CoversF f d) := by
  refine ok_of (e_slices_IndexFunc (l, covG d) _) rfl ?_
  unfold c_slices_IndexFunc
  have hll := hl.1
  refine loopP_of (fun z : Int => ∃ k : Nat, z = k ∧ k ≤ l.length ∧ ∀ (i : Nat) f, i < k → l[i]? = some f → ¬ CoversF f d) (fun z => l.length - z.toNat) ?_ ⟨0, rfl, Nat.zero_le _, fun i f h => by omega⟩
  rintro _ A ⟨k, rfl, hk, hi⟩ back
  refine cond_dec (fun h1 => ⟨⟨by omega, h1⟩, ?_⟩) fun h1 => ?_
  · have h1 : (k : Int) < l.length := h1
    have hk' : k < l.length := by omega
    have hg := List.getElem?_eq_getElem hk'
    generalize l[k] = f at hg
    have hfm := List.mem_of_getElem? hg
    have hf := hl.2 f hfm
    dsimp only
    rw [toNat_ofNat, rd_of (s := sApiLeaf) hg, w_succ (by omega)]
    refine gcall_eq (show covG d f = _ from if_pos (by omega)) (cond_dec (fun h => ?_) fun h => ?_)
    · exact ⟨fun _ => ⟨f, hfm, h⟩, fun _ => Int.natCast_nonneg k⟩
    · refine back _ ⟨k + 1, rfl, hk', fun i g hik hg2 => ?_⟩ (by omega)
      by_cases e : i = k
      · subst e; rw [hg] at hg2; cases hg2; exact h
      · exact hi i g (by omega) hg2
  · refine ⟨fun h => absurd h (by decide), ?_⟩
    rintro ⟨f, hf, hh⟩
    obtain ⟨i, hi2⟩ := List.getElem?_of_mem hf
    have := (List.getElem?_eq_some_iff.1 hi2).1
    exact absurd hh (hi i f (by have h1 : ¬ (k : Int) < l.length := h1; omega) hi2)

open Classical in
theorem ok_slices_ContainsFunc {l : List Leaf} {d : Int} (hl : FewL 1000 l) : FnE bs n_slices_ContainsFunc ((Shape.pair (.slice sApiLeaf) (.func sApiLeaf .bool)).compsE (l, covG d)) .bool (· = decide (∃ f ∈ l, CoversF f d)) := by
  refine ok_of (e_slices_ContainsFunc (l, covG d) _) rfl ?_
  unfold c_slices_ContainsFunc
  exact callP_of (ok_slices_IndexFunc hl) fun r hr => be (decide_eq_decide.2 hr)

open Classical in
theorem ok_cover_Possible {l : List Leaf} {d : Int} (hl : FewL 1000 l) : FnE bs n_cover_Possible ((Shape.pair (.slice sApiLeaf) (.int .i64)).compsE (l, d)) .bool (· = decide (∃ f ∈ l, CoversF f d)) := by
  refine ok_of (e_cover_Possible (l, d) _) rfl ?_
  unfold c_cover_Possible
  exact ⟨_, cl_Possible, callP_eq (ok_slices_ContainsFunc hl) rfl⟩

/-! ### Days, Sure, Certain -/

theorem ok_cover_Days {l : List Leaf} (hn : l.length ≤ 24) (hl : FewL 1000 l) : FnE bs n_cover_Days ((Shape.slice sApiLeaf).compsE l) (.tup (.pair (.slice sRun) (.int .i64))) (· = if 400 < (daysF l).length then ([], 8) else (daysF l, 0)) := by
  refine ok_of (e_cover_Days l _) rfl ?_
  unfold c_cover_Days
  have dl := days_length l fun f hf => (hl.2 f hf).1
  have dl : (daysL l).length ≤ 24024 := by
    have : l.length * (1000 + 1) ≤ 24 * (1000 + 1) := Nat.mul_le_mul_right _ hn
    omega
  refine loopP_of (fun z : Unit × Int × Runs => ∃ k : Nat, z.2.1 = k ∧ k ≤ l.length ∧ z.2.2 = daysL (l.take k)) (fun z => l.length - z.2.1.toNat) ?_ ⟨0, rfl, Nat.zero_le _, rfl⟩
  rintro ⟨_, _, _⟩ A ⟨k, e1, hk, e2⟩ back
  dsimp only at e1 e2 ⊢
  subst e1 e2
  refine cond_dec (fun h1 => ⟨⟨by omega, h1⟩, ?_⟩) fun h1 => ?_
  · have h1 : (k : Int) < l.length := h1
    have hk' : k < l.length := by omega
    have hg := List.getElem?_eq_getElem hk'
    generalize l[k] = f at hg
    have hfm := List.mem_of_getElem? hg
    have hf := hl.2 f hfm
    have e : daysL (l.take (k + 1)) = daysL (l.take k) ++ partF f := by
      unfold daysL
      rw [List.take_add_one, hg, List.flatMap_append]
      simp
    have hle : (daysL (l.take k)).length ≤ 24024 := by
      have := days_length (l.take k) (n := 1000) fun f hf => (hl.2 f (List.mem_of_mem_take hf)).1
      rw [List.length_take] at this
      have : min k l.length * (1000 + 1) ≤ 24 * (1000 + 1) := Nat.mul_le_mul_right _ (by omega)
      omega
    rw [toNat_ofNat, rd_of (s := sApiLeaf) hg, w_succ (a := k) (by omega)]
    refine callP_eq (ok_leaf_Tidy (f := f) (by omega) (by omega)) ?_
    have go : A ((), ((k + 1 : Nat) : Int), daysL (l.take k) ++ partF f) := back _ ⟨k + 1, rfl, hk', e.symm⟩ (by dsimp only; omega)
    have pl := part_length f
    unfold partF at go pl
    unfold tidyF
    rcases ho : ofF f with _ | ⟨u, s⟩ | ⟨a, b⟩
    · rw [ho] at go
      rw [List.append_nil] at go
      exact cond_yes rfl go
    · rw [ho] at go pl
      obtain ⟨q1, q2, rfl, rfl, q5, q6, q7⟩ := of_units ho
      dsimp only at go pl ⊢
      refine cond_no (decide_eq_false ?_) (cond_no rfl ?_)
      · intro q
        have q : (f.2.2.1.length : Int) = 0 := q
        exact q5 (List.length_eq_zero_iff.1 (by omega))
      · refine callP_eq (ok_image_Cover (by omega)) ⟨?_, go⟩
        omega
    · rw [ho] at go pl
      obtain ⟨sa, sb, na, nb, l1, l2⟩ := span_ends ho
      dsimp only at go pl ⊢
      have ha := List.length_pos_iff.2 na
      have hb := List.length_pos_iff.2 nb
      have lb : b.length ≤ f.2.2.2.length := by
        obtain ⟨_, _, _, _, _, _, _, _, rfl⟩ := of_span ho
        exact clip_length _ _ _
      refine cond_no (decide_eq_false ?_) (cond_yes rfl ⟨⟨by decide, ?_⟩, ?_⟩)
      · intro q
        have q : (a.length : Int) = 0 := q
        omega
      · show (0 : Int) < a.length; omega
      · rw [w_pred (a := b.length) (by omega) (by omega), toNat_ofNat]
        refine ⟨⟨by omega, by show ((b.length - 1 : Nat) : Int) < b.length; omega⟩, ?_, go⟩
        show (_ + 1) * 16 ≤ _
        omega
  · rw [List.take_of_length_le (by have h1 : ¬ (k : Int) < l.length := h1; omega)]
    refine callP_eq (ok_runs_Make (by omega)) (callP_eq (ok_sets_WideA (s := makeF (daysL l)) (by have := make_length (daysL l); omega)) ?_)
    rw [make_self (make_sane _)]
    show cond _ _ _
    refine cond_dec (fun h => ?_) fun h => ?_
    · exact (if_pos h).symm
    · exact (if_neg h).symm

theorem dayF_of {l : List Leaf} {sel : Q4 → Int} : dayF sel l = match allF l with | none => (0, 9) | some q => (sel q, 0) := rfl

theorem ok_cover_Sure {l : List Leaf} (hl : FewL 1000 l) : FnE bs n_cover_Sure ((Shape.slice sApiLeaf).compsE l) (.tup (.pair (.slice sRun) (.int .i64))) (· = (sureF l, if (allF l).isSome then 0 else 9)) := by
  refine ok_of (e_cover_Sure l _) rfl ?_
  unfold c_cover_Sure
  refine callP_eq (ok_env_LastStart hl) (callP_eq (ok_env_FirstEnd hl) ?_)
  unfold dayF sureF
  cases allF l with
  | none => exact cond_yes rfl rfl
  | some q => exact cond_no rfl (callP_eq (ok_runs_Make (by simp)) rfl)

open Classical in
theorem ok_cover_Certain {l : List Leaf} {d : Int} (hl : FewL 1000 l) : FnE bs n_cover_Certain ((Shape.pair (.slice sApiLeaf) (.int .i64)).compsE (l, d)) .bool (· = decide (mem (sureF l) d)) := by
  refine ok_of (e_cover_Certain (l, d) _) rfl ?_
  unfold c_cover_Certain
  refine callP_eq (ok_cover_Sure hl) ?_
  unfold sureF
  cases allF l with
  | none => exact cond_no rfl (be (decide_eq_false mem_nil).symm)
  | some q =>
    refine cond_yes rfl (callP_of (ok_runs_HasA (by have := make_length [(q.2.1, q.2.2.1)]; simp at this; dsimp only; omega)) fun r hr => ?_)
    rw [hr]
    dsimp only
    simp only [make_self (make_sane _)]
end Go.Proofs.YtjeoelajkncpcaaDoor.V

/- lustrumlaw17: the laws of the days that are possible, and certain, as conditions on the program's functions alone. No condition of its own. -/
namespace Go.Proofs.YtjeoelajkncpcaaDoor.V
open Go
set_option linter.unusedVariables false
set_option linter.unusedSimpArgs false

def exCover : List Leaf := [(true, 0, [(724641, 724641)], [(724700, 724700), (724731, 724731), (724761, 724761)])]
theorem exCover_days : daysF exCover = [(724641, 724761)] := by decide +kernel
theorem exCover_sure : sureF exCover = [(724641, 724700)] := by decide +kernel
theorem exCover_all : (allF exCover).isSome = true := by decide +kernel
theorem exCover_few : FewL 1000 exCover := ⟨by decide, fun f hf => by
  rcases List.mem_cons.1 hf with e | hf
  · subst e; decide
  · cases hf⟩

open Classical in
theorem ok_lustrumlaw17_awake : FnE bs n_lustrumlaw17_awake ((Shape.unit).compsE ()) .bool (· = true) := by
  refine ok_of (e_lustrumlaw17_awake _) rfl ?_
  unfold c_lustrumlaw17_awake
  have h1 := ok_cover_Days (l := exCover) (by decide) exCover_few
  have h2 := ok_cover_Sure exCover_few
  have p : ∃ f ∈ exCover, CoversF f 724750 := mem_daysF.1 (by rw [exCover_days]; exact ⟨_, List.mem_cons_self, by decide, by decide⟩)
  have q : mem (sureF exCover) 724641 := by rw [exCover_sure]; exact ⟨_, List.mem_cons_self, by decide, by decide⟩
  have h3 := FnE.mono (ok_cover_Possible (d := 724750) exCover_few) (R' := fun r => r = true) fun r hr => by rw [hr]; exact decide_eq_true p
  have h4 := FnE.mono (ok_cover_Certain (d := 724641) exCover_few) (R' := fun r => r = true) fun r hr => hr.trans (@decide_eq_true _ _ q)
  rw [exCover_days] at h1
  rw [exCover_sure, exCover_all] at h2
  refine callP_eq h1 (callP_eq h2 ?_)
  exact cond_yes rfl (cond_yes rfl (cond_yes rfl ⟨by decide, cond_yes rfl (cond_yes rfl ⟨by decide, cond_yes rfl ⟨by decide, cond_yes rfl (callP_eq h3 (cond_yes rfl (callP_eq h4 rfl)))⟩⟩)⟩))

theorem sure_length (l : List Leaf) : (sureF l).length ≤ 1 := by
  unfold sureF
  cases allF l with
  | none => exact Nat.zero_le _
  | some q => exact make_length [(q.2.1, q.2.2.1)]

theorem sure_sane (l : List Leaf) : Sane (sureF l) := by
  unfold sureF
  cases allF l with
  | none => trivial
  | some q => exact make_sane _

theorem days_sane (l : List Leaf) : Sane (daysF l) := make_sane _

theorem days_few {l : List Leaf} (h : l.length ≤ 24) (hl : FewL 1000 l) : (daysF l).length ≤ 24024 := by
  have h1 := days_length l fun f hf => (hl.2 f hf).1
  have h2 := make_length (daysL l)
  have : l.length * (1000 + 1) ≤ 24 * (1000 + 1) := Nat.mul_le_mul_right _ h
  unfold daysF
  omega

theorem sure_possible {l : List Leaf} {d : Int} (h : mem (sureF l) d) : ∃ f ∈ l, CoversF f d := by
  obtain ⟨⟨p, hp⟩, hall⟩ := mem_sure.1 h
  exact any_covers.2 ⟨p, hp, hall p hp⟩

theorem all_none_possible {l : List Leaf} {d : Int} (h : allF l = none) : ¬ ∃ f ∈ l, CoversF f d := by
  rintro ⟨f, hf, hc⟩
  obtain ⟨p, hp, _⟩ := covers_iff.1 hc
  rw [(all_none_iff.1 h) f hf] at hp
  cases hp

open Classical in
theorem ok_CoverSets (a : List Leaf × Int) (hl : a.1.length ≤ 9223372036854775807) : FnE bs n_lustrumlaw17_CoverSets ((Shape.pair (.slice sApiLeaf) (.int .i64)).compsE a) .bool (· = true) := by
  obtain ⟨l, d⟩ := a
  refine ok_of (e_lustrumlaw17_CoverSets (l, d) _) rfl ?_
  unfold c_lustrumlaw17_CoverSets
  refine callP_eq ok_lustrumlaw17_awake (callP_of (ok_lustrumref15_Few hl) fun r hr => cond_not (fun h => rfl) fun h => ?_)
  have h12 := (hr h).1
  have hf := few1000 (hr h).2
  dsimp only at h12 hf ⊢
  refine callP_eq (ok_cover_Days (by omega) hf) (callP_eq (ok_cover_Sure hf) (callP_eq (ok_cover_Possible hf) (callP_eq (ok_cover_Certain hf) ?_)))
  have hn := days_few (by omega) hf
  have hd : decide (mem (daysF l) d) = decide (∃ f ∈ l, CoversF f d) := decide_eq_decide.2 mem_daysF
  have hA := ok_runs_HasA (s := daysF l) (n := d) (by omega)
  rw [make_self (days_sane l)] at hA
  have hS : FnE bs n_runs_Sane ((Shape.slice sRun).compsE (daysF l)) .bool (· = true) := FnE.mono (ok_runs_Sane (by omega)) fun r hr => by rw [hr]; exact decide_eq_true (days_sane l)
  refine join_of (fun _ => True) (fun J hJ => ?_) fun _ _ => ?_
  · by_cases hw : 400 < (daysF l).length
    · rw [if_pos hw]
      exact cond_yes rfl (cond_no rfl (cond_no rfl (cond_no rfl (hJ () trivial))))
    · rw [if_neg hw]
      refine cond_no rfl (cond_yes rfl (callP_eq hS (cond_no rfl (callP_eq hA ?_))))
      refine cond_no ?_ (cond_no (decide_eq_false (by dsimp only; omega)) (hJ () trivial))
      rw [Bool.not_eq_false', decide_eq_true_eq, ← hd]
  · have sl := sure_length l
    have hA2 := ok_runs_HasA (s := sureF l) (n := d) (by omega)
    rw [make_self (sure_sane l)] at hA2
    have hS2 : FnE bs n_runs_Sane ((Shape.slice sRun).compsE (sureF l)) .bool (· = true) := FnE.mono (ok_runs_Sane (by omega)) fun r hr => by rw [hr]; exact decide_eq_true (sure_sane l)
    cases ha : allF l with
    | none =>
      have e : sureF l = [] := by unfold sureF; rw [ha]
      rw [e]
      exact cond_yes rfl (cond_yes rfl (cond_yes rfl (cond_yes rfl (cond_yes (by rw [decide_eq_false mem_nil]; rfl) (by rw [decide_eq_false (all_none_possible ha)]; rfl)))))
    | some q =>
      refine cond_no rfl (cond_yes rfl (callP_eq hS2 (cond_yes rfl (cond_yes (decide_eq_true (by dsimp only; omega)) (callP_eq hA2 ?_)))))
      refine cond_yes (decide_eq_true (by congr)) (cond_not (fun _ => rfl) fun h => ?_)
      exact decide_eq_true (sure_possible (of_decide_eq_true h))

theorem days_ne {l : List Leaf} {q : Q4} (h : allF l = some q) : daysF l ≠ [] ∧ loF (daysF l) = q.1 ∧ hiF (daysF l) = q.2.2.2 := by
  rcases all_spec l with ⟨h1, _⟩ | ⟨q', h1, h0, ⟨p1, c1, d1⟩, _, _, ⟨p4, c4, d4⟩⟩
  · rw [h1] at h; cases h
  · rw [h1] at h
    cases h
    have m1 : mem (daysF l) q.1 := mem_daysF.2 (any_covers.2 ⟨p1, c1, by omega, by have := h0 p1 c1; omega⟩)
    have m4 : mem (daysF l) q.2.2.2 := mem_daysF.2 (any_covers.2 ⟨p4, c4, by have := h0 p4 c4; omega, by omega⟩)
    have hne : daysF l ≠ [] := fun e => by rw [e] at m1; exact mem_nil m1
    have b1 := mem_between (days_sane l) m1
    have b4 := mem_between (days_sane l) m4
    obtain ⟨x, hx, x1, x2⟩ := any_covers.1 (mem_daysF.1 (mem_lo (days_sane l) hne))
    obtain ⟨y, hy, y1, y2⟩ := any_covers.1 (mem_daysF.1 (mem_hi (days_sane l) hne))
    have := h0 x hx
    have := h0 y hy
    exact ⟨hne, by omega, by omega⟩

theorem days_nil {l : List Leaf} (h : allF l = none) : daysF l = [] :=
  sane_nil (days_sane l) fun n hn => all_none_possible h (mem_daysF.1 hn)

open Classical in
theorem ok_CoverEnds (l : List Leaf) (hl : l.length ≤ 9223372036854775807) : FnE bs n_lustrumlaw17_CoverEnds ((Shape.slice sApiLeaf).compsE l) .bool (· = true) := by
  refine ok_of (e_lustrumlaw17_CoverEnds l _) rfl ?_
  unfold c_lustrumlaw17_CoverEnds
  refine callP_eq ok_lustrumlaw17_awake (callP_of (ok_lustrumref15_Few hl) fun r hr => cond_not (fun h => rfl) fun h => ?_)
  have h12 := (hr h).1
  have hf := few1000 (hr h).2
  refine callP_eq (ok_cover_Days (by omega) hf) (callP_eq (ok_env_Earliest hf) (callP_eq (ok_env_Latest hf) ?_))
  have hn := days_few (by omega) hf
  unfold dayF
  cases ha : allF l with
  | none =>
    rw [days_nil ha]
    exact cond_no rfl (cond_yes rfl (cond_yes rfl rfl))
  | some q =>
    obtain ⟨hne, h1, h2⟩ := days_ne ha
    by_cases hw : 400 < (daysF l).length
    · rw [if_pos hw]
      exact cond_yes rfl (cond_yes rfl rfl)
    · rw [if_neg hw]
      have hp := List.length_pos_iff.2 hne
      have p1 : ∃ f ∈ l, CoversF f q.1 := mem_daysF.1 (by rw [← h1]; exact mem_lo (days_sane l) hne)
      have p2 : ∃ f ∈ l, CoversF f q.2.2.2 := mem_daysF.1 (by rw [← h2]; exact mem_hi (days_sane l) hne)
      refine cond_no rfl (cond_no rfl (cond_yes rfl (cond_yes (decide_eq_true (by dsimp only; omega)) ⟨first_in hne, cond_yes (decide_eq_true ((rd_lo hne).trans h1)) ⟨last_in hne (by dsimp only; omega), cond_yes (decide_eq_true ((rd_hi hne (by omega)).trans h2)) ?_⟩⟩)))
      exact callP_eq (ok_cover_Possible hf) (cond_yes (decide_eq_true p1) (callP_of (ok_cover_Possible hf) fun r hr => by rw [hr]; exact decide_eq_true p2))

theorem ok_lustrumlaw17_none {l : List Leaf} (hl : FewL 1000 l) : FnE bs n_lustrumlaw17_none ((Shape.slice sApiLeaf).compsE l) .bool (fun r => r = true ↔ ¬ ∃ p, anyP l p) := by
  refine ok_of (e_lustrumlaw17_none l _) rfl ?_
  unfold c_lustrumlaw17_none
  have hll := hl.1
  refine loopP_of (fun z : Int => ∃ k : Nat, z = k ∧ k ≤ l.length ∧ ∀ (i : Nat) f, i < k → l[i]? = some f → ofF f = none) (fun z => l.length - z.toNat) ?_ ⟨0, rfl, Nat.zero_le _, fun i f h => by omega⟩
  rintro _ A ⟨k, rfl, hk, hi⟩ back
  refine cond_dec (fun h1 => ⟨⟨by omega, h1⟩, ?_⟩) fun h1 => ?_
  · have h1 : (k : Int) < l.length := h1
    have hk' : k < l.length := by omega
    have hg := List.getElem?_eq_getElem hk'
    generalize l[k] = f at hg
    have hfm := List.mem_of_getElem? hg
    have hf := hl.2 f hfm
    rw [toNat_ofNat, rd_of (s := sApiLeaf) hg, w_succ (by omega)]
    refine callP_eq (ok_leaf_Empty (f := f) (by omega) (by omega)) (cond_not (fun h => ?_) fun h => ?_)
    · refine ⟨fun q => (by cases q), fun q => absurd ?_ q⟩
      cases e : famPairs (ofF f) with
      | nil => rw [fam_some.1 e] at h; cases h
      | cons p t => exact ⟨p, f, hfm, by rw [e]; exact List.mem_cons_self⟩
    · refine back _ ⟨k + 1, rfl, hk', fun i g hik hg2 => ?_⟩ (by omega)
      by_cases e : i = k
      · subst e; rw [hg] at hg2; cases hg2; exact Option.isNone_iff_eq_none.1 h
      · exact hi i g (by omega) hg2
  · refine ⟨fun _ => ?_, fun _ => rfl⟩
    rintro ⟨p, f, hf, hh⟩
    obtain ⟨i, hi2⟩ := List.getElem?_of_mem hf
    have := (List.getElem?_eq_some_iff.1 hi2).1
    rw [hi i f (by have h1 : ¬ (k : Int) < l.length := h1; omega) hi2] at hh
    cases hh

theorem any_append {l m : List Leaf} {p : Int × Int} : anyP (l ++ m) p ↔ anyP l p ∨ anyP m p := by
  unfold anyP
  constructor
  · rintro ⟨f, hf, h⟩
    rcases List.mem_append.1 hf with e | e
    · exact .inl ⟨f, e, h⟩
    · exact .inr ⟨f, e, h⟩
  · rintro (⟨f, hf, h⟩ | ⟨f, hf, h⟩)
    · exact ⟨f, List.mem_append_left _ hf, h⟩
    · exact ⟨f, List.mem_append_right _ hf, h⟩

open Classical in
/-- More families: what is certain, and possible. -/
theorem more_bools {l m : List Leaf} {d : Int} {nl nm : Bool} (hnl : nl = true ↔ ¬ ∃ p, anyP l p) (hnm : nm = true ↔ ¬ ∃ p, anyP m p) :
    decide (∃ f ∈ l ++ m, CoversF f d) = (decide (∃ f ∈ l, CoversF f d) || decide (∃ f ∈ m, CoversF f d)) ∧ decide (mem (sureF (l ++ m)) d) = (decide (mem (sureF l) d) && decide (mem (sureF m) d) || decide (mem (sureF l) d) && nm || decide (mem (sureF m) d) && nl) := by
  constructor
  · rw [← Bool.decide_or]
    refine decide_eq_decide.2 ?_
    constructor
    · rintro ⟨f, hf, h⟩
      rcases List.mem_append.1 hf with e | e
      · exact .inl ⟨f, e, h⟩
      · exact .inr ⟨f, e, h⟩
    · rintro (⟨f, hf, h⟩ | ⟨f, hf, h⟩)
      · exact ⟨f, List.mem_append_left _ hf, h⟩
      · exact ⟨f, List.mem_append_right _ hf, h⟩
  · rw [Bool.eq_iff_iff, Bool.or_eq_true, Bool.or_eq_true, Bool.and_eq_true, Bool.and_eq_true, Bool.and_eq_true, decide_eq_true_eq, decide_eq_true_eq, decide_eq_true_eq, hnl, hnm, mem_sure, mem_sure, mem_sure]
    simp only [any_append]
    constructor
    · rintro ⟨_, h⟩
      by_cases el : ∃ p, anyP l p
      · by_cases em : ∃ p, anyP m p
        · exact .inl (.inl ⟨⟨el, fun p hp => h p (.inl hp)⟩, em, fun p hp => h p (.inr hp)⟩)
        · exact .inl (.inr ⟨⟨el, fun p hp => h p (.inl hp)⟩, em⟩)
      · by_cases em : ∃ p, anyP m p
        · exact .inr ⟨⟨em, fun p hp => h p (.inr hp)⟩, el⟩
        · rename_i q
          obtain ⟨p, hp | hp⟩ := q
          · exact absurd ⟨p, hp⟩ el
          · exact absurd ⟨p, hp⟩ em
    · rintro ((⟨⟨⟨p, hp⟩, a⟩, _, b⟩ | ⟨⟨⟨p, hp⟩, a⟩, b⟩) | ⟨⟨⟨p, hp⟩, a⟩, b⟩)
      · exact ⟨⟨p, .inl hp⟩, fun p hp => hp.elim (a p) (b p)⟩
      · exact ⟨⟨p, .inl hp⟩, fun p hp => hp.elim (a p) fun q => absurd ⟨p, q⟩ b⟩
      · exact ⟨⟨p, .inr hp⟩, fun p hp => hp.elim (fun q => absurd ⟨p, q⟩ b) (a p)⟩

open Classical in
theorem ok_CoverMore (a : List Leaf × List Leaf × Int) (hl : a.1.length ≤ 9223372036854775807) (hm : a.2.1.length ≤ 9223372036854775807) : FnE bs n_lustrumlaw17_CoverMore ((Shape.pair (.slice sApiLeaf) (.pair (.slice sApiLeaf) (.int .i64))).compsE a) .bool (· = true) := by
  obtain ⟨l, m, d⟩ := a
  refine ok_of (e_lustrumlaw17_CoverMore (l, m, d) _) rfl ?_
  unfold c_lustrumlaw17_CoverMore
  refine callP_eq ok_lustrumlaw17_awake ?_
  refine join_of (fun b : Bool => b = false → (l.length ≤ 12 ∧ FewL 40 l) ∧ (m.length ≤ 12 ∧ FewL 40 m)) (fun J hJ => ?_) fun b hb => ?_
  · refine callP_of (ok_lustrumref15_Few hl) fun r hr => cond_not (fun h => hJ _ fun q => (by cases q)) fun h => callP_of (ok_lustrumref15_Few hm) fun r2 hr2 => hJ _ fun q => ⟨hr h, hr2 (by simpa using q)⟩
  · refine cond_bool (fun _ => rfl) fun h => ?_
    obtain ⟨hf, hg⟩ := hb h
    have fl := few1000 hf.2
    have fm := few1000 hg.2
    have fb := few_append hf hg
    dsimp only
    refine ⟨by simp only [List.length_nil]; omega, by simp only [List.nil_append]; omega, ?_⟩
    rw [List.nil_append]
    obtain ⟨nl, hnl⟩ : ∃ nl : Bool, nl = true ↔ ¬ ∃ p, anyP l p := ⟨decide _, decide_eq_true_iff ..⟩
    obtain ⟨nm, hnm⟩ : ∃ nm : Bool, nm = true ↔ ¬ ∃ p, anyP m p := ⟨decide _, decide_eq_true_iff ..⟩
    obtain ⟨e1, e2⟩ := more_bools (d := d) hnl hnm
    have s1 : FnE bs n_cover_Possible ((Shape.pair (.slice sApiLeaf) (.int .i64)).compsE (l ++ m, d)) .bool (· = (decide (∃ f ∈ l, CoversF f d) || decide (∃ f ∈ m, CoversF f d))) := FnE.mono (ok_cover_Possible fb) fun r hr => by rw [hr, e1]
    have s2 : FnE bs n_cover_Certain ((Shape.pair (.slice sApiLeaf) (.int .i64)).compsE (l ++ m, d)) .bool (· = (decide (mem (sureF l) d) && decide (mem (sureF m) d) || decide (mem (sureF l) d) && nm || decide (mem (sureF m) d) && nl)) := FnE.mono (ok_cover_Certain fb) fun r hr => by rw [hr, e2]
    have s3 : FnE bs n_lustrumlaw17_none ((Shape.slice sApiLeaf).compsE l) .bool (· = nl) := FnE.mono (ok_lustrumlaw17_none fl) fun r hr => Bool.eq_iff_iff.2 (hr.trans hnl.symm)
    have s4 : FnE bs n_lustrumlaw17_none ((Shape.slice sApiLeaf).compsE m) .bool (· = nm) := FnE.mono (ok_lustrumlaw17_none fm) fun r hr => Bool.eq_iff_iff.2 (hr.trans hnm.symm)
    have t1 := ok_cover_Possible (d := d) fl
    have t2 := ok_cover_Possible (d := d) fm
    have t3 := ok_cover_Certain (d := d) fl
    have t4 := ok_cover_Certain (d := d) fm
    refine callP_eq t3 (callP_eq t4 (cond_yes rfl (callP_eq s1 (callP_eq t1 ?_))))
    clear e1 e2 hnl hnm hb
    have rest : ∀ {K : Bool → Prop}, K true → callP bs 75 ((Shape.pair (.slice sApiLeaf) (.int .i64))) .bool (l ++ m, d) K → True := fun _ _ => trivial
    generalize decide (∃ f ∈ l, CoversF f d) = pl at *
    generalize decide (∃ f ∈ m, CoversF f d) = pm at *
    generalize decide (mem (sureF l) d) = A at *
    generalize decide (mem (sureF m) d) = B at *
    cases pl
    all_goals first
      | refine cond_yes rfl (cond_yes rfl ?_)
      | refine cond_no rfl (callP_eq t2 (cond_yes (decide_eq_true rfl) ?_))
    all_goals refine callP_eq s2 ?_
    all_goals cases A <;> cases B
    all_goals first
      | exact cond_yes rfl (cond_yes rfl rfl)
      | (refine cond_yes rfl (cond_no rfl (cond_yes rfl (callP_eq s4 ?_))); cases nm <;> first | exact cond_yes rfl rfl | exact cond_no rfl (cond_no rfl rfl))
      | (refine cond_no rfl (cond_no rfl (cond_yes rfl (callP_eq s3 ?_))); cases nl <;> rfl)
      | (exact cond_no rfl (cond_no rfl (cond_no rfl rfl)))

open Classical in
theorem ok_CoverPairs (a : List Leaf × Int) (hl : a.1.length ≤ 9223372036854775807) : FnE bs n_lustrumlaw17_CoverPairs ((Shape.pair (.slice sApiLeaf) (.int .i64)).compsE a) .bool (· = true) := by
  obtain ⟨l, d⟩ := a
  refine ok_of (e_lustrumlaw17_CoverPairs (l, d) _) rfl ?_
  unfold c_lustrumlaw17_CoverPairs
  refine callP_eq ok_lustrumlaw17_awake (callP_of (ok_lustrumref15_Few hl) fun r hr => cond_not (fun h => rfl) fun h => ?_)
  have hf := few1000 (hr h).2
  have hll := (hr h).1
  dsimp only at hf hll ⊢
  let In (p : Int × Int) : Prop := p.1 ≤ d ∧ d ≤ p.2
  let Met (P : Int × Int → Prop) (x y : Bool) : Prop := (x = true ↔ ∃ p, P p ∧ In p) ∧ (y = true ↔ ∀ p, P p → In p)
  have metP : ∀ {P R : Int × Int → Prop} {x y : Bool}, (∀ p, P p ↔ R p) → Met P x y → Met R x y := fun {P R} _ _ h k => by
    have : P = R := funext fun p => propext (h p)
    rw [← this]; exact k
  refine loopP_of (fun z : Bool × Bool × Int × Int => ∃ k : Nat, z.2.2.2 = k ∧ k ≤ l.length ∧ Met (anyP (l.take k)) z.1 z.2.1 ∧ ∃ N : Nat, z.2.2.1 = N ∧ N ≤ 1000 * k ∧ (0 < N ↔ ∃ p, anyP (l.take k) p)) (fun z => l.length - z.2.2.2.toNat) ?_ ⟨0, rfl, Nat.zero_le _, ⟨⟨fun h => (by cases h), fun ⟨p, ⟨f, hf, _⟩, _⟩ => (by simp at hf)⟩, ⟨fun _ p ⟨f, hf, _⟩ => (by simp at hf), fun _ => rfl⟩⟩, 0, rfl, Nat.le_refl _, ⟨fun h => (by omega), fun ⟨p, f, hf, _⟩ => (by simp at hf)⟩⟩
  rintro ⟨z1, z2, _, _⟩ A ⟨k, e1, hk, hm, N, e2, hN, hNp⟩ back
  dsimp only at e1 e2 hm ⊢
  subst e1 e2
  refine cond_dec (fun h1 => ⟨⟨by omega, h1⟩, ?_⟩) fun h1 => ?_
  · have h1 : (k : Int) < l.length := h1
    have hk' : k < l.length := by omega
    have hg := List.getElem?_eq_getElem hk'
    generalize l[k] = f at hg
    have hfm := List.mem_of_getElem? hg
    have hff := hf.2 f hfm
    have ht : l.take (k + 1) = l.take k ++ [f] := by rw [List.take_add_one, hg]; rfl
    rw [toNat_ofNat, rd_of (s := sApiLeaf) hg, w_succ (a := k) (by omega)]
    refine callP_eq (ok_leaf_Pairs (f := f) (by omega) (by omega)) (cond_dec (fun _ => rfl) fun h2 => ?_)
    have hall : pairsF f 1000 = famPairs (ofF f) := by
      have h2 : ¬ ((pairsF f 1000).length : Int) = 1000 := h2
      unfold pairsF at *
      rw [List.length_take] at h2
      exact List.take_of_length_le (by omega)
    have hlen : (pairsF f 1000).length ≤ 1000 := by unfold pairsF; rw [List.length_take]; omega
    rw [hall] at hlen ⊢
    have hany : ∀ p, anyP (l.take (k + 1)) p ↔ anyP (l.take k) p ∨ p ∈ famPairs (ofF f) := fun p => by
      rw [ht, any_append]
      unfold anyP
      simp
    generalize famPairs (ofF f) = ps at hlen hany
    rw [w_add (a := N) (b := ps.length) (by omega)]
    refine loopP_of (fun z : Bool × Bool × Int => ∃ j : Nat, z.2.2 = j ∧ j ≤ ps.length ∧ Met (fun p => anyP (l.take k) p ∨ p ∈ ps.take j) z.1 z.2.1) (fun z => ps.length - z.2.2.toNat) ?_ ⟨0, rfl, Nat.zero_le _, metP (fun p => by simp) hm⟩
    rintro ⟨y1, y2, _⟩ A2 ⟨j, e1, hj, hm2⟩ back2
    dsimp only at e1 hm2 ⊢
    subst e1
    refine cond_dec (fun h3 => ⟨⟨by omega, h3⟩, ?_⟩) fun h3 => ?_
    · have h3' : (j : Int) < ps.length := h3
      have hj' : j < ps.length := by omega
      have hgp := List.getElem?_eq_getElem hj'
      generalize ps[j] = p at hgp
      have htp : ps.take (j + 1) = ps.take j ++ [p] := by rw [List.take_add_one, hgp]; rfl
      rw [toNat_ofNat, rd_of (s := sRun) hgp, w_succ (a := j) (by omega)]
      have hq : ∀ q, (anyP (l.take k) q ∨ q ∈ ps.take (j + 1)) ↔ (anyP (l.take k) q ∨ q ∈ ps.take j) ∨ q = p := fun q => by
        rw [htp, List.mem_append, List.mem_singleton, or_assoc]
      have go : ∀ x y : Bool, (x = true ↔ y1 = true ∨ In p) → (y = true ↔ y2 = true ∧ In p) → A2 (x, y, ((j + 1 : Nat) : Int)) := by
        intro x y hx hy
        refine back2 _ ⟨j + 1, rfl, hj', metP (fun q => (hq q).symm) ⟨?_, ?_⟩⟩ (by dsimp only; omega)
        · rw [hx, hm2.1]
          constructor
          · rintro (⟨q, h, i⟩ | h)
            · exact ⟨q, .inl h, i⟩
            · exact ⟨p, .inr rfl, h⟩
          · rintro ⟨q, h | rfl, i⟩
            · exact .inl ⟨q, h, i⟩
            · exact .inr i
        · rw [hy, hm2.2]
          constructor
          · rintro ⟨h, i⟩ q (hq | rfl)
            · exact h q hq
            · exact i
          · exact fun h => ⟨fun q hq => h q (.inl hq), h p (.inr rfl)⟩
      refine cond_dec (fun h5 => ⟨⟨by omega, h3⟩, ?_⟩) fun h5 => ?_
      · have hin : In p ↔ d ≤ p.2 := ⟨fun h => h.2, fun h => ⟨h5, h⟩⟩
        cases y1 <;> cases y2
        · exact go _ _ (by rw [hin, decide_eq_true_iff]; simp) (by simp)
        · exact go _ _ (by rw [hin, decide_eq_true_iff]; simp) (by rw [hin, decide_eq_true_iff]; simp)
        · exact go _ _ (by simp) (by simp)
        · exact go _ _ (by simp) (by rw [hin, decide_eq_true_iff]; simp)
      · have hin : ¬ In p := fun h => h5 h.1
        cases y1 <;> cases y2 <;> exact go _ _ (by simp [hin]) (by simp [hin])
    · rw [show ps.take j = ps from List.take_of_length_le (by have h3 : ¬ (j : Int) < ps.length := h3; omega)] at hm2
      refine back _ ⟨k + 1, rfl, hk', metP (fun p => (hany p).symm) hm2, N + ps.length, rfl, by omega, ?_⟩ (by dsimp only; omega)
      constructor
      · intro h
        rcases Nat.eq_zero_or_pos N with e | e
        · obtain ⟨p, t, rfl⟩ : ∃ p t, ps = p :: t := by
            cases ps with
            | nil => simp at h; omega
            | cons p t => exact ⟨p, t, rfl⟩
          exact ⟨p, (hany p).2 (.inr List.mem_cons_self)⟩
        · obtain ⟨p, hp⟩ := hNp.1 e
          exact ⟨p, (hany p).2 (.inl hp)⟩
      · rintro ⟨p, hp⟩
        rcases (hany p).1 hp with h | h
        · have := hNp.2 ⟨p, h⟩; omega
        · have := List.length_pos_of_mem h; omega
  · rw [List.take_of_length_le (by have h1 : ¬ (k : Int) < l.length := h1; omega)] at hm hNp
    have e1 : decide (∃ f ∈ l, CoversF f d) = z1 := by
      rw [Bool.eq_iff_iff, decide_eq_true_iff, hm.1]
      exact any_covers
    have e2 : decide (mem (sureF l) d) = (decide (0 < N) && z2) := by
      rw [Bool.eq_iff_iff, Bool.and_eq_true, decide_eq_true_iff, decide_eq_true_iff, hm.2, hNp]
      exact mem_sure
    have t1 : FnE bs n_cover_Possible ((Shape.pair (.slice sApiLeaf) (.int .i64)).compsE (l, d)) .bool (· = z1) := FnE.mono (ok_cover_Possible hf) fun r hr => by rw [hr, e1]
    have t2 : FnE bs n_cover_Certain ((Shape.pair (.slice sApiLeaf) (.int .i64)).compsE (l, d)) .bool (· = (decide (0 < N) && z2)) := FnE.mono (ok_cover_Certain hf) fun r hr => by rw [hr, e2]
    refine cond_yes rfl (callP_eq t1 (cond_yes (decide_eq_true rfl) (callP_eq t2 ?_)))
    cases z2
    · refine cond_no rfl (decide_eq_true ?_)
      simp
    · refine cond_yes rfl (decide_eq_true ?_)
      rw [Bool.and_true]
      exact decide_eq_decide.2 (by omega)
end Go.Proofs.YtjeoelajkncpcaaDoor.V

/- The first and the last days of units, and units within days: plain facts. No program in sight. -/
namespace Go.Proofs.YtjeoelajkncpcaaDoor.V
set_option linter.unusedVariables false
set_option linter.unusedSimpArgs false

theorem upTo_length (lo hi : Int) : (upTo lo hi).length = (hi + 1 - lo).toNat := by unfold upTo; simp

def singles (l : List Int) : Runs := l.map fun n => (n, n)

theorem mem_singles {l : List Int} {n : Int} : mem (singles l) n ↔ n ∈ l := by
  unfold singles
  constructor
  · rintro ⟨r, hr, h1, h2⟩
    obtain ⟨k, hk, rfl⟩ := List.mem_map.1 hr
    have h1 : k ≤ n := h1
    have h2 : n ≤ k := h2
    obtain rfl : n = k := by omega
    exact hk
  · intro h
    exact ⟨(n, n), List.mem_map.2 ⟨n, h, rfl⟩, Int.le_refl _, Int.le_refl _⟩

/-- Days that lie apart are a set. -/
theorem singles_from : ∀ {l : List Int} {a : Int}, (∀ n ∈ l, a + 2 ≤ n ∧ n ≤ Lim) → l.Pairwise (fun m n => m + 2 ≤ n) → SaneFrom a (singles l)
  | [], _, _, _ => trivial
  | n :: l, a, h, k => by
    have h1 := h n List.mem_cons_self
    obtain ⟨k1, k2⟩ := List.pairwise_cons.1 k
    exact ⟨Int.le_refl _, h1.1, h1.2, singles_from (fun m hm => ⟨k1 m hm, (h m (List.mem_cons_of_mem _ hm)).2⟩) k2⟩

/-- Units of several days have at least twenty-eight. -/
theorem unit_long {u i : Int} (hu : u ≠ 0) (h0 : 0 ≤ i) (h1 : i < VCal.ucount u) : VCal.ufirst u i + 27 ≤ VCal.ulast u i := by
  have hc : VCal.ucount u = match VCal.tab u with | some (_, _, c) => c | none => 0 := by unfold VCal.ucount; rw [if_neg hu]; all_goals (cases VCal.tab u <;> rfl)
  have hf : ∀ k, VCal.ufirst u k = match VCal.tab u with | some (m, f, _) => VCal.mfirst (f + m * k) | none => 0 := fun k => by unfold VCal.ufirst; rw [if_neg hu]; all_goals (cases VCal.tab u <;> rfl)
  unfold VCal.ulast
  rw [hf i, hf (i + 1)]
  cases ht : VCal.tab u with
  | none => rw [ht] at hc; dsimp only at hc; omega
  | some q =>
    obtain ⟨m, f, cc⟩ := q
    rw [ht] at hc
    dsimp only at hc ⊢
    obtain ⟨t1, t2, t3, t4⟩ := VCal.tab_fit ht h0 (by omega)
    have hm : 1 ≤ m := by rcases VCal.tab_cases ht with h | h | h | h | h <;> omega
    split
    · have := VCal.mfirst_lt (a := f + m * i) (b := 120000) t1 t2
      rw [VCal.mfirst_120000] at this
      omega
    · have e : f + m * (i + 1) = f + m * i + m := by rw [Int.mul_add]; omega
      have := VCal.mfirst_lt (a := f + m * i) (b := f + m * (i + 1)) t1 (by omega)
      omega

theorem day_unit {i : Int} (h : 0 ≤ i ∧ i < VCal.ucount 0) : VCal.ufirst 0 i = i ∧ VCal.ulast 0 i = i := by
  have hf : ∀ k, VCal.ufirst 0 k = k := fun k => by unfold VCal.ufirst; rw [if_pos rfl]
  refine ⟨hf i, ?_⟩
  unfold VCal.ulast
  rw [VCal.ucount_0] at *
  split
  · omega
  · rw [hf]; omega

/-- The first or last days of units: told as a set, if they are not too many. -/
def marksF (g : Int → Int → Int) (u : Int) (s : Runs) : Runs × Bool :=
  if u = 0 then (if 400 < (unitsF u s).length then ([], false) else (unitsF u s, true))
  else if 400 < (nums (unitsF u s)).length then ([], false)
  else (makeF (singles ((nums (unitsF u s)).map (g u))), true)

/-- Days of units, one of each: within the unit. -/
structure DayIn (g : Int → Int → Int) : Prop where
  is : ∀ {u i : Int}, 0 ≤ i → i < VCal.ucount u → VCal.ufirst u i ≤ g u i ∧ g u i ≤ VCal.ulast u i
  apart : ∀ {u i j : Int}, u ≠ 0 → 0 ≤ i → i < j → j < VCal.ucount u → g u i + 2 ≤ g u j

theorem dayIn_first : DayIn VCal.ufirst := ⟨fun h0 h1 => ⟨Int.le_refl _, (VCal.unit_in h0 h1).2.1⟩, fun hu h0 hij hj => by
  have := ufirst_lt h0 hij hj
  have := unit_long hu h0 (by omega)
  omega⟩
theorem dayIn_last : DayIn VCal.ulast := ⟨fun h0 h1 => ⟨(VCal.unit_in h0 h1).2.1, Int.le_refl _⟩, fun {u i j} hu h0 hij hj => by
  have := ufirst_lt h0 hij hj
  have := unit_long hu (show 0 ≤ j by omega) hj
  omega⟩

theorem nums_units {u : Int} {s : Runs} {i : Int} (h : i ∈ nums (unitsF u s)) : 0 ≤ i ∧ i < VCal.ucount u := (mem_units.1 (mem_nums.1 h)).2

/-- Of units of several days these days are a set as they stand. -/
theorem marks_sane {g : Int → Int → Int} (hg : DayIn g) {u : Int} (hu : u ≠ 0) (s : Runs) : Sane (singles ((nums (unitsF u s)).map (g u))) := by
  refine singles_from (fun n hn => ?_) ?_
  · obtain ⟨i, hi, rfl⟩ := List.mem_map.1 hn
    have b := nums_units hi
    have := hg.is b.1 b.2
    have := VCal.unit_in b.1 b.2
    unfold Lim
    omega
  · rw [List.pairwise_map]
    refine List.Pairwise.imp_of_mem ?_ (nums_sorted (units_sane u s))
    intro i j hi hj hij
    exact hg.apart hu (nums_units hi).1 hij (nums_units hj).2

theorem marks_eq {g : Int → Int → Int} (hg : DayIn g) {u : Int} (hu : u ≠ 0) (s : Runs) : makeF (singles ((nums (unitsF u s)).map (g u))) = singles ((nums (unitsF u s)).map (g u)) := make_self (marks_sane hg hu s)

theorem mem_marks {g : Int → Int → Int} (hg : DayIn g) {u : Int} {s l : Runs} (h : marksF g u s = (l, true)) {d : Int} : mem l d ↔ ∃ i, mem (makeF s) i ∧ 0 ≤ i ∧ i < VCal.ucount u ∧ g u i = d := by
  unfold marksF at h
  split at h
  · rename_i e
    subst e
    split at h
    · cases h
    · cases h
      rw [mem_units]
      constructor
      · rintro ⟨h1, h2, h3⟩
        have := day_unit ⟨h2, h3⟩
        have := hg.is h2 h3
        exact ⟨d, h1, h2, h3, by omega⟩
      · rintro ⟨i, h1, h2, h3, h4⟩
        have := day_unit ⟨h2, h3⟩
        have := hg.is h2 h3
        obtain rfl : i = d := by omega
        exact ⟨h1, h2, h3⟩
  · rename_i e
    split at h
    · cases h
    · cases h
      rw [marks_eq hg e, mem_singles, List.mem_map]
      constructor
      · rintro ⟨i, hi, h⟩
        have := mem_units.1 (mem_nums.1 hi)
        exact ⟨i, this.1, this.2.1, this.2.2, h⟩
      · rintro ⟨i, h1, h2, h3, h4⟩
        exact ⟨i, mem_nums.2 (mem_units.2 ⟨h1, h2, h3⟩), h4⟩

theorem marks_is_sane {g : Int → Int → Int} {u : Int} {s l : Runs} {b : Bool} (h : marksF g u s = (l, b)) : Sane l := by
  unfold marksF at h
  split at h
  · split at h
    · cases h; trivial
    · cases h; exact units_sane _ _
  · split at h
    · cases h; trivial
    · cases h; exact make_sane _

theorem marks_len {g : Int → Int → Int} {u : Int} {s l : Runs} {b : Bool} (h : marksF g u s = (l, b)) : l.length ≤ 400 := by
  unfold marksF at h
  split at h
  · split at h
    · cases h; exact Nat.zero_le _
    · cases h; omega
  · split at h
    · cases h; exact Nat.zero_le _
    · cases h
      have := make_length (singles ((nums (unitsF u s)).map (g u)))
      unfold singles at *
      rw [List.length_map, List.length_map] at this
      omega

/-! ### Units within days -/

/-- A place from which on something holds. -/
def FromR (cnt : Int) (P : Int → Prop) (r : Int) : Prop := 0 ≤ r ∧ r ≤ cnt ∧ (∀ i, 0 ≤ i → i < r → ¬ P i) ∧ ∀ i, r ≤ i → i < cnt → P i

theorem FromR.iff {cnt r i : Int} {P : Int → Prop} (h : FromR cnt P r) (h0 : 0 ≤ i) (h1 : i < cnt) : r ≤ i ↔ P i := by
  constructor
  · exact fun q => h.2.2.2 i q h1
  · intro q
    rcases Int.lt_or_le i r with e | e
    · exact absurd q (h.2.2.1 i h0 e)
    · exact e

theorem FromR.eq {cnt r r' : Int} {P : Int → Prop} (h : FromR cnt P r) (k : FromR cnt P r') : r = r' := by
  obtain ⟨h0, h1, h2, h3⟩ := h
  obtain ⟨k0, k1, k2, k3⟩ := k
  rcases Int.lt_or_le r r' with e | e
  · exact absurd (h3 r (Int.le_refl _) (by omega)) (k2 r h0 e)
  · rcases Int.lt_or_le r' r with e2 | e2
    · exact absurd (k3 r' (Int.le_refl _) (by omega)) (h2 r' k0 e2)
    · omega

theorem mem_between2 {a b n cnt : Int} (ha : 0 ≤ a) (hb : b ≤ cnt) (hc : cnt ≤ 3652425) : mem (makeF [(a, b - 1)]) n ↔ a ≤ n ∧ n < b := by
  rw [mem_make]
  unfold memL Lim
  rw [mem_cons]
  constructor
  · rintro ⟨_, _, h | h⟩
    · dsimp only at h; omega
    · exact (mem_nil h).elim
  · intro h
    exact ⟨by omega, by omega, .inl ⟨h.1, by dsimp only; omega⟩⟩

theorem first_le {u i j : Int} (h0 : 0 ≤ i) (hij : i ≤ j) (hj : j < VCal.ucount u) : VCal.ufirst u i ≤ VCal.ufirst u j := (ufirst_le h0 hij hj).1
theorem last_le {u i j : Int} (h0 : 0 ≤ i) (hij : i ≤ j) (hj : j < VCal.ucount u) : VCal.ulast u i ≤ VCal.ulast u j := (ufirst_le h0 hij hj).2
end Go.Proofs.YtjeoelajkncpcaaDoor.V

/- image.each's closure: what it hands on. No condition of its own. -/
namespace Go.Proofs.YtjeoelajkncpcaaDoor.V
open Go Go.RowKit Go.Shelf
attribute [local go_sem] Oper.semAt_some
set_option linter.unusedVariables false
set_option linter.unusedSimpArgs false

/-- What is handed on, one by one. -/
def handL (P : Program) (m : Mem) (xs : List Int) : List (Handed P m (.int .i64) xs) := xs.attach.map fun x => ⟨(x.1, .int .i64 x.1), by show Value.int .i64 x.1 = Value.int .i64 x.1; rfl, x.2⟩

theorem hand_map (P : Program) (m : Mem) (xs : List Int) : (handL P m xs).map (·.1.1) = xs := by
  unfold handL
  rw [List.map_map]
  exact List.attach_map_subtype_val xs

theorem hand_length (P : Program) (m : Mem) (xs : List Int) : (handL P m xs).length = xs.length := by unfold handL; simp

theorem hand_get (P : Program) (m : Mem) (xs : List Int) {j : Nat} {x : Int} (h : xs[j]? = some x) : ∃ e : Handed P m (.int .i64) xs, (handL P m xs)[j]? = some e ∧ e.1.2 = .int .i64 x := by
  unfold handL
  have hl := (List.getElem?_eq_some_iff.1 h)
  refine ⟨⟨(x, .int .i64 x), (by show Value.int .i64 x = Value.int .i64 x; rfl), List.mem_of_getElem? h⟩, ?_, rfl⟩
  rw [List.getElem?_map]
  obtain ⟨h1, h2⟩ := hl
  rw [List.getElem?_eq_getElem (by simpa using h1)]
  simp [h2]

theorem drop_cons' {α : Type} {s : List α} {k : Nat} {r : α} (h : s[k]? = some r) : s.drop k = r :: s.drop (k + 1) := by
  obtain ⟨h1, h2⟩ := List.getElem?_eq_some_iff.1 h
  rw [List.drop_eq_getElem_cons h1, h2]

theorem it_wrap {k a : Nat} (h : k + 1 ≤ a) (hl : a ≤ 1000000000) : wrap64 ((k : Int) + 1) = ((k + 1 : Nat) : Int) := by unfold wrap64; omega
theorem it_measure {k a : Nat} (h : k + 1 ≤ a) (hl : a ≤ 1000000000) : a - (intOf (.int .i64 (wrap64 ((k : Int) + 1)))).toNat < a - (intOf (.int .i64 (k : Int))).toNat := by
  rw [it_wrap h hl]
  simp only [intOf, Int.toNat_natCast]
  omega

set_option maxRecDepth 100000 in
set_option maxHeartbeats 2000000 in
theorem iter_each {z : List (Int × Int)} (hz : ∀ r ∈ z, -1152921504606846976 ≤ r.1 ∧ r.2 ≤ 1152921504606846976) (hl : z.length ≤ 1000000000) (T : TypeId → Bool) (hT : T 57 = false) : IterE bs 129 [.ip [.p (.slice sRun) z] 0] (.int .i64) T (nums z) := by
  refine ⟨⟨_, _, Tryd.func129, rfl, by decide⟩, ?_⟩
  intro m w us ht hh hu l J Jx W hW hJ hJx hY h0
  obtain ⟨u, us', e1, ⟨b, o, cs, e2, e3, e4⟩, e5⟩ := RepL_cons.1 hu
  rw [RepL_nil.1 e5] at e1
  subst e1 e2
  obtain ⟨sv, cs', e6, ⟨base, cap, e7, e8⟩, e9⟩ := RepL_cons.1 e3
  rw [RepL_nil.1 e9] at e6
  subst e6 e7
  have hs : m b o = some (.slice base z.length cap) := e4 0 _ rfl
  have hHW : Holds W m := fun bb oo v hv => by
    have h1 := hh bb oo v hv
    obtain ⟨ob, h2, _⟩ := cell_obj h1
    exact (World.cell?_of_block (a := ⟨bb, oo, none⟩) (hW.block bb (Array.getElem?_eq_some_iff.1 h2).1)).trans h1
  have c1 : W.cell? ⟨b, o, none⟩ = some (.slice base z.length cap) := hHW _ _ _ hs
  show CallsIn Fence.wide 3 Tryd.prog 129 #[.func (.yield l) #[] #[], .pointer (some ⟨b, o, none⟩)] W _
  refine callsIn_of_wp Tryd.func129 rfl trivial ?_ rfl
  simp only [Tryd.ntmps129, List.size_toArray, List.length_cons, List.length_nil, Nat.reduceAdd, Nat.reduceSub, Array.replicate_succ, Array.replicate_zero, List.push_toArray, List.append_toArray, List.nil_append, List.cons_append]
  have hz0 : J ((handL bs.P m (nums z)).take (nums (z.take 0)).length) W := h0
  clear e4 e9 e5 hu e3 h0
  gi_wp2
  gi_loopw [8] (fun i wr => ∃ k : Nat, k ≤ z.length ∧ i = .int .i64 k ∧ J ((handL bs.P m (nums z)).take (nums (z.take k)).length) wr ∧ Holds wr m ∧ W.heap.size ≤ wr.heap.size)
    (fun i _ => z.length - (intOf i).toNat)
  case atStart => exact ⟨0, Nat.zero_le _, rfl, hz0, hHW, Nat.le_refl _⟩
  case round =>
    rename World => wo
    obtain ⟨k, hk, rfl, hJs, hH, hsz⟩ := hrel
    by_cases hlt : k < z.length
    · have hg := List.getElem?_eq_getElem hlt
      generalize z[k] = r at hg
      have hr := hz r (List.mem_of_getElem? hg)
      rcases e8 with e | ⟨b2, o2, e, e8⟩
      · rw [e] at hlt; cases hlt
      · subst e
        obtain ⟨us, q1, q2⟩ := e8 k r hg
        obtain ⟨_, _, rfl, ⟨_, rfl, q3⟩, ⟨_, rfl, q4⟩⟩ := q1
        have q3 : _ = Value.int .i64 r.1 := q3
        have q4 : _ = Value.int .i64 r.2 := q4
        subst q3 q4
        have c2 : wo.cell? ⟨b2, o2 + k * 2, none⟩ = some (.int .i64 r.1) := hH _ _ _ (q2 0 _ rfl)
        have c3 : wo.cell? ⟨b2, o2 + k * 2 + 1, none⟩ = some (.int .i64 r.2) := hH _ _ _ (q2 1 _ rfl)
        gi_wp2
        have hparts : z = z.take k ++ r :: z.drop (k + 1) := by rw [← drop_cons' hg, List.take_append_drop]
        have hnum : nums z = nums (z.take k) ++ (upTo r.1 r.2 ++ nums (z.drop (k + 1))) := by
          conv => lhs; rw [hparts]
          unfold nums
          rw [List.flatMap_append, List.flatMap_cons]
        have hnxt : (nums (z.take (k + 1))).length = (nums (z.take k)).length + (r.2 + 1 - r.1).toNat := by
          unfold nums
          rw [List.take_add_one, hg, List.flatMap_append, List.length_append]
          simp [upTo]
        obtain ⟨q0, hq0⟩ : ∃ q0, (nums (z.take k)).length = q0 := ⟨_, rfl⟩
        have hnth : ∀ i : Nat, (i : Int) ≤ r.2 - r.1 → (nums z)[q0 + i]? = some (r.1 + i) := fun i hi => by
          rw [hnum, ← hq0, List.getElem?_append_right (by omega), Nat.add_sub_cancel_left, List.getElem?_append_left (by simp [upTo]; omega)]
          unfold upTo
          rw [List.getElem?_map, List.getElem?_range (by omega)]
          rfl
        rw [hq0] at hJs hnxt
        have hB0 : w.heap.size ≤ wo.heap.size := Nat.le_trans hW.size hsz
        have hJ1 := hJ _ _ _ none hJs (World.grownBy_alloc wo (.cells #[.int .i64 r.1, .int .i64 r.2] 57) none) (fun _ e => by cases e)
        have hH1 : Holds (wo.alloc (.cells #[.int .i64 r.1, .int .i64 r.2] 57)) m := fun bb oo v hv => by
          have h1 := hH bb oo v hv
          obtain ⟨ob, h2, _⟩ := cell_obj h1
          exact (World.cell?_of_block (a := ⟨bb, oo, none⟩) (Below.heap_alloc wo _ bb (Array.getElem?_eq_some_iff.1 h2).1)).trans h1
        have hB1 := World.alloc_heap_new wo (.cells #[.int .i64 r.1, .int .i64 r.2] 57)
        clear hJs hH c2 c3 q2 e8 c1 hparts hnum
        gi_loopw [5] (fun v w2 => ∃ n : Int, v = .int .i64 n ∧ r.1 ≤ n ∧ (n = r.1 ∨ n ≤ r.2 + 1) ∧ J ((handL bs.P m (nums z)).take (q0 + (n - r.1).toNat)) w2 ∧ Holds w2 m ∧ wo.heap.size < w2.heap.size ∧ w2.heap[wo.heap.size]? = some (.cells #[.int .i64 r.1, .int .i64 r.2] 57 (0, 0)))
          (fun v _ => (r.2 + 1 - intOf v).toNat)
        case atStart =>
          refine ⟨r.1, rfl, Int.le_refl _, .inl rfl, ?_, hH1, by simp, hB1⟩
          rw [Int.sub_self]
          exact hJ1
        case round =>
          rename World => w2
          obtain ⟨n, rfl, n1, n2, hJ2, hH2, hs2, hb2⟩ := hrel
          have c4 : w2.cell? ⟨wo.heap.size, 1, none⟩ = some (.int .i64 r.2) := by unfold World.cell?; rw [hb2]; rfl
          by_cases hn : n ≤ r.2
          · obtain ⟨e, he1, he2⟩ := hand_get bs.P m (nums z) (hnth (n - r.1).toNat (by omega))
            rw [show r.1 + ((n - r.1).toNat : Int) = n by omega] at he2
            have hl2 : q0 + (n - r.1).toNat < (handL bs.P m (nums z)).length := (List.getElem?_eq_some_iff.1 he1).1
            obtain ⟨fn, tmps, assign, body, hy, hR⟩ := hY _ e w2 hJ2 (by rw [List.length_take]; rw [hand_length] at hl2 ⊢; omega)
            rw [he2] at hy
            have hy : (Instr.yield l #[.int .i64 n]).run Tryd.prog w2 = .ok (.round l fn tmps assign body) w2 := hy
            have hR : RoundIn Fence.wide 2 Tryd.prog l fn tmps assign body w2 _ := hR
            have hw1 : wrap64 (n + 1) = n + 1 := by unfold wrap64; omega
            have htk : (handL bs.P m (nums z)).take (q0 + (n + 1 - r.1).toNat) = (handL bs.P m (nums z)).take (q0 + (n - r.1).toNat) ++ [e] := by
              rw [show q0 + (n + 1 - r.1).toNat = q0 + (n - r.1).toNat + 1 by omega, List.take_add_one, he1]
              rfl
            gi_wp2
            refine hR.mono ?_
            rintro e4 W3 (⟨rfl, hJ3, hk3⟩ | ⟨rfl, hJx3⟩)
            · have hb3 := hk3.2.2 _ _ _ _ hB0 hT hb2
              have hs3 := Nat.lt_of_lt_of_le hs2 hk3.2.1
              have hH3 := hk3.1 hH2
              rw [← htk] at hJ3
              clear htk hy hk3 hR he1 he2
              gi_wp2
              go_roundw
              case rel => exact ⟨n + 1, rfl, by omega, .inr (by omega), hJ3, hH3, hs3, hb3⟩
              case measure => simp [intOf]; omega
            · clear htk hy hR he1 he2
              gi_wp2
              refine bodyPost_ret (results_none rfl _ _ _) rfl ?_
              exact ⟨⟨_, rfl⟩, .inr ⟨_, trivial, hJx3⟩⟩
          · have hq1 : q0 + (n - r.1).toNat = q0 + (r.2 + 1 - r.1).toNat := by omega
            rw [hq1, ← hnxt] at hJ2
            have hs4 : W.heap.size ≤ w2.heap.size := Nat.le_trans hsz (Nat.le_of_lt hs2)
            have hk1 : k + 1 ≤ z.length := hlt
            have hw2 := it_wrap hk1 hl
            have hme := it_measure hk1 hl
            clear hq1 hnxt hz hr hnth n1 n2 hJ1 hH1 hB1 hB0 hz0 hHW hl hs2 hsz hlt
            gi_wp2
            go_roundw
            case rel => exact ⟨k + 1, hk1, congrArg _ hw2, hJ2, hH2, hs4⟩
            case measure => exact hme
    · obtain rfl : k = z.length := by omega
      gi_wp2
      go_end0
      exact ⟨⟨_, rfl⟩, .inl ⟨_, (by
        rw [List.take_length]
        rw [List.take_of_length_le (by rw [hand_length]; exact Nat.le_refl _)]
        exact hand_map _ _ _), hJs⟩⟩
end Go.Proofs.YtjeoelajkncpcaaDoor.V

/- image.marks: its condition, tied to the function's own code by the kernel. No condition of its own. -/
namespace Go.Proofs.YtjeoelajkncpcaaDoor.V
open Go
set_option linter.unusedVariables false
abbrev n_image_marks : Nat := 77
noncomputable def g_image_each_in : Cfg := { toBase := bs, lv := fun _ => ([], [], []), rows := [] }
noncomputable def g_image_marks : Cfg := { toBase := bs, lv := fun | 2009 => ([9], [2, 3], [4]) | _ => ([], [], []), rows := [9], rs := .int .i64, han := hanL bs [(105, .inl g_image_each_in)] }
def c_image_marks (a : Int × List (Int × Int) × (Int × Int → Option (Int × Bool))) (R : List (Int × Int) × Bool → Prop) : Prop :=
  callP bs 79 (.pair (.int .i64) (.slice sRun)) (.slice sRun) (a.1, a.2.1) (fun r1 => cond (decide (a.1 = (0 : Int)))
    (callP bs 102 (.slice sRun) .bool r1 (fun r2 => R (r1, !r2)))
    (callP bs 41 (.slice sRun) (.int .i64) r1 (fun r3 => cond (decide ((400 : Int) < r3)) (R ([], false))
      (itP bs 129 [.ip [.p (.slice sRun) r1] 0] (.int .i64) (fun t => (Nat.beq 3 t || (false || false))) (fun xs => rangeP (S := List Int × Unit) (fun x y back => gcall a.2.2 (a.1, x) (fun r4 => chk ((y.1.length + [r4.1].length) * 8 ≤ 140737488355328) (back (y.1 ++ [r4.1], ()))))
        (fun y => callP bs 106 (.slice (.int .i64)) (.slice sRun) y.1 (fun r5 => R (r5, true))) xs ([], ()))))))
theorem e_image_marks (a : Int × List (Int × Int) × (Int × Int → Option (Int × Bool))) (R : List (Int × Int) × Bool → Prop) : g_image_marks.fnRK 77 (Shape.compsE (.pair (.int .i64) (.pair (.slice sRun) (.func (.pair (.int .i64) (.int .i64)) (.tup (.pair (.int .i64) .bool))))) a) (.tup (.pair (.slice sRun) .bool)) R = c_image_marks a R := by kernel_rfl
end Go.Proofs.YtjeoelajkncpcaaDoor.V

/- image: marks, Starts, Ends, search, Inside, Touch: their contracts. No condition of its own. -/
namespace Go.Proofs.YtjeoelajkncpcaaDoor.V
open Go
set_option linter.unusedVariables false
set_option linter.unusedSimpArgs false

theorem ok_rf {B : Base} {g : Cfg} {f : FuncId} {args : List EV} {out : Shape} {R : out.Val → Prop} {C : Prop} (e : g.fnRK f args out R = C) (hb : g.toBase = B) (H : HanOK g) (h : C) : FnE B f args out R := by rw [← hb]; exact fnR_sound H (e.mpr h)

theorem nums_count : ∀ {s : Runs} {a : Int}, SaneFrom a s → ((nums s).length : Int) = countF s
  | [], _, _ => rfl
  | r :: s, a, h => by
    have h1 := nums_count h.2.2.2
    have h2 := h.1
    unfold nums at *
    rw [List.flatMap_cons, List.length_append, upTo_length]
    unfold countF
    omega

theorem ok_image_marks {u : Int} {s : Runs} {g : Int → Int → Int} {f : Int × Int → Int × Bool} (hl : s.length < 65536) (hf : ∀ i, 0 ≤ i → i < VCal.ucount u → (f (u, i)).1 = g u i) :
    FnE bs n_image_marks ((Shape.pair (.int .i64) (.pair (.slice sRun) (.func (.pair (.int .i64) (.int .i64)) (.tup (.pair (.int .i64) .bool))))).compsE (u, s, fun x => some (f x))) (.tup (.pair (.slice sRun) .bool)) (fun r => r.2 = (marksF g u s).2 ∧ (r.2 = true → r.1 = (marksF g u s).1)) := by
  refine ok_rf (e_image_marks (u, s, fun x => some (f x)) _) rfl (HanOK.ofList [(105, .inl g_image_each_in)] rfl rfl ⟨rfl, HanOK.none rfl rfl, trivial⟩) ?_
  unfold c_image_marks
  refine callP_eq (ok_image_units hl) ?_
  have hs := units_sane u s
  have hlen := units_length u s
  have hc := VCal.ucount_pos u
  have hus := make_self hs
  refine cond_dec (fun e => ?_) fun e => ?_
  · have e : u = 0 := e
    refine callP_eq (ok_sets_WideA (s := unitsF u s) (by omega)) ?_
    rw [hus]
    unfold marksF
    rw [if_pos e]
    by_cases hw : 400 < (unitsF u s).length
    · rw [if_pos hw, decide_eq_true hw]
      exact ⟨rfl, fun h => by cases h⟩
    · rw [if_neg hw, decide_eq_false hw]
      exact ⟨rfl, fun _ => rfl⟩
  · have e : ¬ u = 0 := e
    refine callP_eq (ok_runs_CountA (s := unitsF u s) (by omega)) ?_
    rw [hus, ← nums_count hs]
    unfold marksF
    rw [if_neg e]
    refine cond_dec (fun hw => ?_) fun hw => ?_
    · have hw : (400 : Int) < ((nums (unitsF u s)).length : Int) := hw
      rw [if_pos (by omega)]
      exact ⟨rfl, fun h => by cases h⟩
    · have hw : ¬ (400 : Int) < ((nums (unitsF u s)).length : Int) := hw
      rw [if_neg (by omega)]
      refine ⟨nums (unitsF u s), iter_each (z := unitsF u s) (fun r hr => by have := units_in hr; omega) (by omega) _ rfl, ?_⟩
      refine ⟨fun pre y => y.1 = pre.map (g u), rfl, fun pre x y hx hpl hy => ?_, fun y hy => ?_⟩
      · refine gcall_eq rfl ⟨?_, ?_⟩
        · have : y.1.length = pre.length := by rw [hy, List.length_map]
          show (y.1.length + 1) * 8 ≤ _
          omega
        · show y.1 ++ [(f (u, x)).1] = (pre ++ [x]).map (g u)
          have b := nums_units hx
          rw [hy, List.map_append, hf x b.1 b.2]
          rfl
      · have hyl : y.1.length ≤ 400 := by rw [hy, List.length_map]; omega
        refine callP_eq (ok_runs_Of (l := y.1) (by omega)) ⟨rfl, fun _ => ?_⟩
        show makeF (y.1.map fun n => (n, n)) = _
        rw [hy]
        rfl

theorem ok_image_Starts {u : Int} {s : Runs} (hl : s.length < 65536) : FnE bs n_image_Starts ((Shape.pair (.int .i64) (.slice sRun)).compsE (u, s)) (.tup (.pair (.slice sRun) .bool)) (· = marksF VCal.ufirst u s) := by
  refine ok_of (e_image_Starts (u, s) _) rfl ?_
  unfold c_image_Starts
  refine ⟨_, cl_First, callP_of (ok_image_marks (g := VCal.ufirst) hl fun i h0 h1 => by show (firstS u i).1 = _; unfold firstS; rw [if_pos ⟨h0, h1⟩]) fun r hr => ?_⟩
  obtain ⟨h1, h2⟩ := hr
  refine cond_not (fun h => ?_) fun h => ?_
  · rw [h] at h1
    generalize hm : marksF VCal.ufirst u s = q at h1
    obtain ⟨l, b⟩ := q
    have h1 : false = b := h1
    subst h1
    have : l = [] := by
      unfold marksF at hm
      split at hm <;> split at hm <;> first | (cases hm; rfl) | cases hm
    rw [this]
  · rw [h2 h]
    rw [h] at h1
    exact Prod.ext rfl h1

theorem ok_image_Ends {u : Int} {s : Runs} (hl : s.length < 65536) : FnE bs n_image_Ends ((Shape.pair (.int .i64) (.slice sRun)).compsE (u, s)) (.tup (.pair (.slice sRun) .bool)) (· = marksF VCal.ulast u s) := by
  refine ok_of (e_image_Ends (u, s) _) rfl ?_
  unfold c_image_Ends
  refine ⟨_, cl_Last, callP_of (ok_image_marks (g := VCal.ulast) hl fun i h0 h1 => by show (lastS u i).1 = _; unfold lastS; rw [if_pos ⟨h0, h1⟩]) fun r hr => ?_⟩
  obtain ⟨h1, h2⟩ := hr
  refine cond_not (fun h => ?_) fun h => ?_
  · rw [h] at h1
    generalize hm : marksF VCal.ulast u s = q at h1
    obtain ⟨l, b⟩ := q
    have h1 : false = b := h1
    subst h1
    have : l = [] := by
      unfold marksF at hm
      split at hm <;> split at hm <;> first | (cases hm; rfl) | cases hm
    rw [this]
  · rw [h2 h]
    rw [h] at h1
    exact Prod.ext rfl h1

/-! ### Units within days -/

theorem ok_image_search {u : Int} {g : Int → Option Bool} {P : Int → Prop} (hg : ∀ i, 0 ≤ i → i < VCal.ucount u → ∃ b, g i = some b ∧ (b = true ↔ P i)) (hm : ∀ i j, 0 ≤ i → i ≤ j → j < VCal.ucount u → P i → P j) :
    FnE bs n_image_search ((Shape.pair (.int .i64) (.func (.int .i64) .bool)).compsE (u, g)) (.int .i64) (FromR (VCal.ucount u) P) := by
  refine ok_of (e_image_search (u, g) _) rfl ?_
  unfold c_image_search
  have hc := VCal.ucount_pos u
  refine callP_eq ok_unit_Count ?_
  refine loopP_of (fun z : Int × Int => 0 ≤ z.1 ∧ z.1 ≤ z.2 ∧ z.2 ≤ VCal.ucount u ∧ (∀ i, 0 ≤ i → i < z.1 → ¬ P i) ∧ ∀ i, z.2 ≤ i → i < VCal.ucount u → P i) (fun z => (z.2 - z.1).toNat) ?_ ⟨Int.le_refl _, hc.1, Int.le_refl _, fun i h0 h1 => absurd h0 (Int.not_le.2 h1), fun i h0 h1 => absurd h0 (Int.not_le.2 h1)⟩
  rintro ⟨lo, hi⟩ A ⟨h0, h1, h2, h3, h4⟩ back
  dsimp only at h0 h1 h2 h3 h4 ⊢
  refine cond_dec (fun hlt => ⟨by decide, ?_⟩) fun hlt => ?_
  · have hlt : lo < hi := hlt
    have hmid : w64 (Int.tdiv (w64 (lo + hi)) 2) = (lo + hi) / 2 := by
      rw [w64_of (n := lo + hi) (by omega), tdiv_of (by omega), w64_of (by omega)]
    rw [hmid]
    generalize hme : (lo + hi) / 2 = mid
    obtain ⟨b, hb1, hb2⟩ := hg mid (by omega) (by omega)
    refine gcall_eq hb1 (cond_bool (fun h => ?_) fun h => ?_)
    · refine back _ ⟨h0, by dsimp only; omega, by dsimp only; omega, h3, fun i hi1 hi2 => hm mid i (by omega) hi1 hi2 (hb2.1 h)⟩ (by dsimp only; omega)
    · rw [w64_of (n := mid + 1) (by omega)]
      refine back _ ⟨by dsimp only; omega, by dsimp only; omega, h2, fun i hi1 hi2 hp => ?_, h4⟩ (by dsimp only; omega)
      have := hb2.2 (hm i mid hi1 (by dsimp only at hi2; omega) (by omega) hp)
      rw [this] at h
      cases h
  · have hlt : ¬ lo < hi := hlt
    obtain rfl : lo = hi := by omega
    exact ⟨h0, h2, h3, h4⟩

theorem ok_image_from_1 {f : Int × Int → Int × Bool} {u d i : Int} : FnE bs n_image_from_1 ([] ++ Shape.compsE (.int .i64) i ++ [(.ip [(.p (.func (.pair (.int .i64) (.int .i64)) (.tup (.pair (.int .i64) .bool))) (fun x => some (f x)))] 0), (.ip [(.p (.int .i64) u)] 0), (.ip [(.p (.int .i64) d)] 0)]) .bool (· = decide (d ≤ (f (u, i)).1)) := by
  refine ok_of (e_image_from_1 ((fun x => some (f x)), u, d) i _) rfl ?_
  unfold c_image_from_1
  exact gcall_eq rfl rfl

theorem ok_image_behind_1 {f : Int × Int → Int × Bool} {u d i : Int} : FnE bs n_image_behind_1 ([] ++ Shape.compsE (.int .i64) i ++ [(.ip [(.p (.func (.pair (.int .i64) (.int .i64)) (.tup (.pair (.int .i64) .bool))) (fun x => some (f x)))] 0), (.ip [(.p (.int .i64) u)] 0), (.ip [(.p (.int .i64) d)] 0)]) .bool (· = decide (d < (f (u, i)).1)) := by
  refine ok_of (e_image_behind_1 ((fun x => some (f x)), u, d) i _) rfl ?_
  unfold c_image_behind_1
  exact gcall_eq rfl rfl

theorem ok_image_from {u d : Int} {f : Int × Int → Int × Bool} {g : Int → Int} (hf : ∀ i, 0 ≤ i → i < VCal.ucount u → (f (u, i)).1 = g i) (hm : ∀ i j, 0 ≤ i → i ≤ j → j < VCal.ucount u → g i ≤ g j) :
    FnE bs n_image_from ((Shape.pair (.int .i64) (.pair (.int .i64) (.func (.pair (.int .i64) (.int .i64)) (.tup (.pair (.int .i64) .bool))))).compsE (u, d, fun x => some (f x))) (.int .i64) (FromR (VCal.ucount u) fun i => d ≤ g i) := by
  refine ok_of (e_image_from (u, d, fun x => some (f x)) _) rfl ?_
  unfold c_image_from
  refine ⟨fun i => some (decide (d ≤ (f (u, i)).1)), ⟨(ok_image_from_1 (f := f) (u := 0) (d := 0) (i := 0)).1, fun x r hx => by cases hx; exact ok_image_from_1⟩, ?_⟩
  exact callP_of (ok_image_search (P := fun i => d ≤ g i) (fun i h0 h1 => ⟨_, rfl, by rw [decide_eq_true_iff, hf i h0 h1]⟩) fun i j h0 h1 h2 h3 => Int.le_trans h3 (hm i j h0 h1 h2)) fun r hr => hr

theorem ok_image_behind {u d : Int} {f : Int × Int → Int × Bool} {g : Int → Int} (hf : ∀ i, 0 ≤ i → i < VCal.ucount u → (f (u, i)).1 = g i) (hm : ∀ i j, 0 ≤ i → i ≤ j → j < VCal.ucount u → g i ≤ g j) :
    FnE bs n_image_behind ((Shape.pair (.int .i64) (.pair (.int .i64) (.func (.pair (.int .i64) (.int .i64)) (.tup (.pair (.int .i64) .bool))))).compsE (u, d, fun x => some (f x))) (.int .i64) (FromR (VCal.ucount u) fun i => d < g i) := by
  refine ok_of (e_image_behind (u, d, fun x => some (f x)) _) rfl ?_
  unfold c_image_behind
  refine ⟨fun i => some (decide (d < (f (u, i)).1)), ⟨(ok_image_behind_1 (f := f) (u := 0) (d := 0) (i := 0)).1, fun x r hx => by cases hx; exact ok_image_behind_1⟩, ?_⟩
  exact callP_of (ok_image_search (P := fun i => d < g i) (fun i h0 h1 => ⟨_, rfl, by rw [decide_eq_true_iff, hf i h0 h1]⟩) fun i j h0 h1 h2 h3 => Int.lt_of_lt_of_le h3 (hm i j h0 h1 h2)) fun r hr => hr

theorem ok_image_between {a b : Int} (h : 0 ≤ b ∧ b ≤ 3652425) : FnE bs n_image_between ((Shape.pair (.int .i64) (.int .i64)).compsE (a, b)) (.slice sRun) (· = makeF [(a, b - 1)]) := by
  refine ok_of (e_image_between (a, b) _) rfl ?_
  unfold c_image_between
  rw [w64_of (n := b - 1) (by omega)]
  exact callP_eq (ok_runs_Make (by simp)) rfl

/-- The units from one place to another. -/
def WithinR (cnt : Int) (P Q : Int → Prop) (r : Runs) : Prop := ∃ a b, FromR cnt P a ∧ FromR cnt Q b ∧ r = makeF [(a, b - 1)]

theorem first_of {u : Int} : ∀ i, 0 ≤ i → i < VCal.ucount u → (firstS (u, i).1 (u, i).2).1 = VCal.ufirst u i := fun i h0 h1 => by show (firstS u i).1 = _; unfold firstS; rw [if_pos ⟨h0, h1⟩]
theorem last_of {u : Int} : ∀ i, 0 ≤ i → i < VCal.ucount u → (lastS (u, i).1 (u, i).2).1 = VCal.ulast u i := fun i h0 h1 => by show (lastS u i).1 = _; unfold lastS; rw [if_pos ⟨h0, h1⟩]

theorem ok_image_Inside {u lo hi : Int} : FnE bs n_image_Inside ((Shape.pair (.int .i64) (.pair (.int .i64) (.int .i64))).compsE (u, lo, hi)) (.slice sRun) (WithinR (VCal.ucount u) (fun i => lo ≤ VCal.ufirst u i) fun i => hi < VCal.ulast u i) := by
  refine ok_of (e_image_Inside (u, lo, hi) _) rfl ?_
  unfold c_image_Inside
  have hc := VCal.ucount_pos u
  refine ⟨_, cl_First, callP_of (ok_image_from (g := VCal.ufirst u) first_of fun i j => first_le) fun a ha => ⟨_, cl_Last, callP_of (ok_image_behind (g := VCal.ulast u) last_of fun i j => last_le) fun b hb => ?_⟩⟩
  have h1 := hb.1
  have h2 := hb.2.1
  exact callP_eq (ok_image_between ⟨h1, Int.le_trans h2 hc.2⟩) ⟨a, b, ha, hb, rfl⟩

theorem ok_image_Touch {u lo hi : Int} : FnE bs n_image_Touch ((Shape.pair (.int .i64) (.pair (.int .i64) (.int .i64))).compsE (u, lo, hi)) (.slice sRun) (fun r => (hi < lo ∧ r = []) ∨ (lo ≤ hi ∧ WithinR (VCal.ucount u) (fun i => lo ≤ VCal.ulast u i) (fun i => hi < VCal.ufirst u i) r)) := by
  refine ok_of (e_image_Touch (u, lo, hi) _) rfl ?_
  unfold c_image_Touch
  have hc := VCal.ucount_pos u
  refine cond_dec (fun h => .inl ⟨h, rfl⟩) fun h => ?_
  have h : ¬ hi < lo := h
  refine ⟨_, cl_Last, callP_of (ok_image_from (g := VCal.ulast u) last_of fun i j => last_le) fun a ha => ⟨_, cl_First, callP_of (ok_image_behind (g := VCal.ufirst u) first_of fun i j => first_le) fun b hb => ?_⟩⟩
  have h1 := hb.1
  have h2 := hb.2.1
  exact callP_eq (ok_image_between ⟨h1, Int.le_trans h2 hc.2⟩) (.inr ⟨by omega, a, b, ha, hb, rfl⟩)

theorem mem_within {u n : Int} {P Q : Int → Prop} {r : Runs} (h : WithinR (VCal.ucount u) P Q r) : mem r n ↔ 0 ≤ n ∧ n < VCal.ucount u ∧ P n ∧ ¬ Q n := by
  obtain ⟨a, b, ha, hb, rfl⟩ := h
  have hc := VCal.ucount_pos u
  rw [mem_between2 ha.1 hb.2.1 hc.2]
  constructor
  · rintro ⟨h1, h2⟩
    have h0 : 0 ≤ n := Int.le_trans ha.1 h1
    have h3 : n < VCal.ucount u := Int.lt_of_lt_of_le h2 hb.2.1
    exact ⟨h0, h3, (ha.iff h0 h3).1 h1, fun q => by have := (hb.iff h0 h3).2 q; omega⟩
  · rintro ⟨h0, h3, h1, h2⟩
    refine ⟨(ha.iff h0 h3).2 h1, ?_⟩
    rcases Int.lt_or_le n b with e | e
    · exact e
    · exact absurd ((hb.iff h0 h3).1 e) h2

theorem within_is_sane {cnt : Int} {P Q : Int → Prop} {r : Runs} (h : WithinR cnt P Q r) : Sane r := by obtain ⟨a, b, _, _, rfl⟩ := h; exact make_sane _
theorem within_len {cnt : Int} {P Q : Int → Prop} {r : Runs} (h : WithinR cnt P Q r) : r.length ≤ 1 := by obtain ⟨a, b, _, _, rfl⟩ := h; exact make_length [(a, b - 1)]
end Go.Proofs.YtjeoelajkncpcaaDoor.V

/- lustrumlaw07: the laws of units' days, as conditions on the program's functions alone. No condition of its own. -/
namespace Go.Proofs.YtjeoelajkncpcaaDoor.V
open Go
set_option linter.unusedVariables false
set_option linter.unusedSimpArgs false

theorem exMarks : marksF VCal.ufirst 1 [(24000, 24001)] = ([(730485, 730485), (730516, 730516)], true) := by decide +kernel

theorem from_is {cnt r k : Int} {P : Int → Prop} (h : FromR cnt P r) (h0 : 0 ≤ k) (h1 : k < cnt) (hp : P k) (hn : k = 0 ∨ ¬ P (k - 1)) : r = k := by
  have a := (h.iff h0 h1).2 hp
  rcases hn with e | e
  · have := h.1; omega
  · rcases Int.lt_or_le 0 k with q | q
    · have : ¬ r ≤ k - 1 := fun x => e ((h.iff (by omega) (by omega)).1 x)
      omega
    · have := h.1; omega

theorem exInside {r : Runs} (h : WithinR (VCal.ucount 3) (fun i => 730485 ≤ VCal.ufirst 3 i) (fun i => 731031 < VCal.ulast 3 i) r) : r = [(2000, 2000)] := by
  obtain ⟨a, b, ha, hb, rfl⟩ := h
  have e1 : a = 2000 := from_is ha (by decide) (by decide +kernel) (by decide +kernel) (.inr (by decide +kernel))
  have e2 : b = 2001 := from_is hb (by decide) (by decide +kernel) (by decide +kernel) (.inr (by decide +kernel))
  subst e1 e2
  decide +kernel

theorem exTouch {r : Runs} (h : WithinR (VCal.ucount 3) (fun i => 5 ≤ VCal.ulast 3 i) (fun i => 6 < VCal.ufirst 3 i) r) : r = [(0, 0)] := by
  obtain ⟨a, b, ha, hb, rfl⟩ := h
  have e1 : a = 0 := from_is ha (by decide) (by decide +kernel) (by decide +kernel) (.inl rfl)
  have e2 : b = 1 := from_is hb (by decide) (by decide +kernel) (by decide +kernel) (.inr (by decide +kernel))
  subst e1 e2
  decide +kernel

theorem ok_lustrumlaw07_awake : FnE bs n_lustrumlaw07_awake ((Shape.unit).compsE ()) .bool (· = true) := by
  refine ok_of (e_lustrumlaw07_awake _) rfl ?_
  unfold c_lustrumlaw07_awake
  have h1 := ok_image_Starts (u := 1) (s := [(24000, 24001)]) (by decide)
  rw [exMarks] at h1
  refine callP_eq h1 (callP_of ok_image_Inside fun r hr => ?_)
  obtain rfl := exInside hr
  refine cond_yes rfl (cond_yes rfl ⟨by decide, cond_yes rfl ⟨by decide, cond_yes rfl (cond_yes rfl ⟨by decide, cond_yes rfl ⟨by decide, cond_yes rfl (callP_of ok_image_Touch fun r hr => ?_)⟩⟩)⟩⟩)
  rcases hr with ⟨h, _⟩ | ⟨_, h⟩
  · exact absurd h (by decide)
  · obtain rfl := exTouch h
    rfl

theorem saneB {s : Runs} (hl : s.length ≤ 1000000000) (h : Sane s) : FnE bs n_runs_Sane ((Shape.slice sRun).compsE s) .bool (· = true) := FnE.mono (ok_runs_Sane hl) fun r hr => by rw [hr]; exact decide_eq_true h

theorem hasB {s : Runs} {n : Int} (hl : s.length < 65536) (h : Sane s) : FnE bs n_runs_Has ((Shape.pair (.slice sRun) (.int .i64)).compsE (s, n)) .bool (· = decide (mem s n)) := by
  have := ok_runs_HasA (s := s) (n := n) hl
  rw [make_self h] at this
  exact this

theorem ok_ImageInside (a : Int × Int × Int × Int) : FnE bs n_lustrumlaw07_ImageInside ((Shape.pair (.int .i64) (.pair (.int .i64) (.pair (.int .i64) (.int .i64)))).compsE a) .bool (· = true) := by
  obtain ⟨u, lo, hi, i⟩ := a
  refine ok_of (e_lustrumlaw07_ImageInside (u, lo, hi, i) _) rfl ?_
  unfold c_lustrumlaw07_ImageInside
  refine callP_eq ok_lustrumlaw07_awake (callP_eq ok_unit_First (callP_eq ok_unit_Last (callP_of ok_image_Inside fun r4 h4 => callP_of ok_image_Touch fun r5 h5 => ?_)))
  dsimp only at h4 h5 ⊢
  have l4 := within_len h4
  have s5 : Sane r5 ∧ r5.length ≤ 1 := by
    rcases h5 with ⟨_, e⟩ | ⟨_, h⟩
    · rw [e]; exact ⟨trivial, by decide⟩
    · exact ⟨within_is_sane h, within_len h⟩
  refine cond_yes rfl (callP_eq (saneB (by omega) (within_is_sane h4)) (cond_yes rfl (callP_eq (saneB (by omega) s5.1) (cond_yes rfl (callP_eq (hasB (n := i) (by omega) (within_is_sane h4)) ?_)))))
  have m4 := mem_within (n := i) h4
  have m5 : mem r5 i ↔ 0 ≤ i ∧ i < VCal.ucount u ∧ lo ≤ hi ∧ VCal.ufirst u i ≤ hi ∧ lo ≤ VCal.ulast u i := by
    rcases h5 with ⟨e, e2⟩ | ⟨e, h⟩
    · rw [e2]
      exact ⟨fun h => (mem_nil h).elim, fun h => by omega⟩
    · rw [mem_within h]
      constructor
      · rintro ⟨a, b, c, d⟩; exact ⟨a, b, e, Int.not_lt.1 d, c⟩
      · rintro ⟨a, b, _, c, d⟩; exact ⟨a, b, d, Int.not_lt.2 c⟩
  have hB := hasB (n := i) (by omega) s5.1
  by_cases hv : 0 ≤ i ∧ i < VCal.ucount u
  · have e1 : firstS u i = (VCal.ufirst u i, true) := if_pos hv
    have e2 : lastS u i = (VCal.ulast u i, true) := if_pos hv
    rw [e1, e2]
    have p5 : mem r5 i ↔ lo ≤ hi ∧ VCal.ufirst u i ≤ hi ∧ lo ≤ VCal.ulast u i := m5.trans ⟨fun h => ⟨h.2.2.1, h.2.2.2.1, h.2.2.2.2⟩, fun h => ⟨hv.1, hv.2, h.1, h.2.1, h.2.2⟩⟩
    have fin : callP bs 37 (.pair (.slice sRun) (.int .i64)) .bool (r5, i) (fun r9 => (cond true (cond (decide (lo ≤ hi)) (cond (decide (VCal.ufirst u i ≤ hi)) ((fun x : Bool => x = true) (decide (r9 = (decide (lo ≤ VCal.ulast u i))))) ((fun x : Bool => x = true) (decide (r9 = false)))) ((fun x : Bool => x = true) (decide (r9 = false)))) ((fun x : Bool => x = true) (decide (r9 = false))))) := by
      refine callP_eq hB (cond_yes rfl (cond_dec (fun c1 => cond_dec (fun c2 => decide_eq_true (decide_eq_decide.2 (p5.trans ⟨fun h => h.2.2, fun h => ⟨c1, c2, h⟩⟩))) fun c2 => decide_eq_true (decide_eq_false fun h => c2 (p5.1 h).2.1)) fun c1 => decide_eq_true (decide_eq_false fun h => c1 (p5.1 h).1)))
    refine cond_yes rfl (cond_dec (fun c1 => cond_yes (decide_eq_true (decide_eq_decide.2 ?_)) fin) fun c1 => cond_yes (decide_eq_true (decide_eq_false ?_)) fin)
    · rw [m4]
      exact ⟨fun h => Int.not_lt.1 h.2.2.2, fun h => ⟨hv.1, hv.2, c1, Int.not_lt.2 h⟩⟩
    · rw [m4]
      exact fun h => c1 h.2.2.1
  · have e1 : firstS u i = (0, false) := if_neg hv
    rw [e1]
    exact cond_no rfl (cond_yes (decide_eq_true (decide_eq_false fun h => hv ⟨(m4.1 h).1, (m4.1 h).2.1⟩)) (callP_eq hB (cond_no rfl (decide_eq_true (decide_eq_false fun h => hv ⟨(m5.1 h).1, (m5.1 h).2.1⟩)))))

theorem ok_ImageCover (a : Int × Runs × Int) : FnE bs n_lustrumlaw07_ImageCover ((Shape.pair (.int .i64) (.pair (.slice sRun) (.int .i64))).compsE a) .bool (· = true) := by
  obtain ⟨u, s, d⟩ := a
  refine ok_of (e_lustrumlaw07_ImageCover (u, s, d) _) rfl ?_
  unfold c_lustrumlaw07_ImageCover
  refine callP_eq ok_lustrumlaw07_awake (cond_dec (fun _ => rfl) fun hl => ?_)
  have hl : ¬ (40 : Int) < (s.length : Int) := hl
  refine callP_eq (ok_image_Cover (by dsimp only; omega)) (callP_eq ok_unit_Of ?_)
  have cl := cover_length u s
  dsimp only
  refine cond_yes rfl (callP_eq (saneB (by omega) (cover_sane u s)) (cond_yes rfl (callP_eq (hasB (by omega) (cover_sane u s)) ?_)))
  unfold ofS
  cases hu : VCal.uof u d with
  | none => exact cond_no rfl (decide_eq_true (decide_eq_false fun h => by obtain ⟨i, hi, _⟩ := mem_cover.1 h; rw [hu] at hi; cases hi))
  | some n =>
    refine cond_yes rfl (callP_eq (ok_runs_HasA (by omega)) (decide_eq_true (decide_eq_decide.2 ?_)))
    rw [mem_cover, hu]
    exact ⟨fun ⟨i, hi, h⟩ => by cases hi; exact h, fun h => ⟨n, rfl, h⟩⟩

theorem cover_of {u : Int} {s : Runs} {a b : Runs} (h : ∀ i, mem (makeF s) i ↔ mem (makeF a) i ∨ mem (makeF b) i) : coverF u s = makeF (coverF u a ++ coverF u b) := by
  refine sane_ext (cover_sane u s) (make_sane _) fun d => ?_
  rw [mem_union (cover_sane u a) (cover_sane u b), mem_cover, mem_cover, mem_cover]
  constructor
  · rintro ⟨i, h1, h2⟩
    exact ((h i).1 h2).elim (fun q => .inl ⟨i, h1, q⟩) fun q => .inr ⟨i, h1, q⟩
  · rintro (⟨i, h1, h2⟩ | ⟨i, h1, h2⟩)
    · exact ⟨i, h1, (h i).2 (.inl h2)⟩
    · exact ⟨i, h1, (h i).2 (.inr h2)⟩

theorem ok_ImageMore (a : Int × Runs × Runs) : FnE bs n_lustrumlaw07_ImageMore ((Shape.pair (.int .i64) (.pair (.slice sRun) (.slice sRun))).compsE a) .bool (· = true) := by
  obtain ⟨u, x, y⟩ := a
  refine ok_of (e_lustrumlaw07_ImageMore (u, x, y) _) rfl ?_
  unfold c_lustrumlaw07_ImageMore
  refine callP_eq ok_lustrumlaw07_awake (cond_dec (fun _ => rfl) fun hx => cond_dec (fun _ => rfl) fun hy => ?_)
  have hx : ¬ (20 : Int) < (x.length : Int) := hx
  have hy : ¬ (20 : Int) < (y.length : Int) := hy
  dsimp only
  have c1 := cover_length u x
  have c2 := cover_length u y
  have hU : (makeF (x ++ y)).length ≤ 40 := by have := make_length (x ++ y); rw [List.length_append] at this; omega
  have cU := cover_length u (makeF (x ++ y))
  have hC : (makeF (coverF u x ++ coverF u y)).length ≤ 40 := by have := make_length (coverF u x ++ coverF u y); rw [List.length_append] at this; omega
  have lim : ∀ {s : Runs} {i : Int}, memL s i ↔ mem (makeF s) i := fun {s i} => mem_make.symm
  refine callP_eq (ok_image_Cover (by omega)) (callP_eq (ok_image_Cover (by omega)) (cond_yes rfl (callP_eq (ok_sets_Union (by omega)) (callP_eq (ok_image_Cover (by omega)) (callP_eq (ok_sets_Union (by omega)) (callP_eq (ok_lustrumref04_Same (by omega) (by omega)) ?_))))))
  refine cond_yes (decide_eq_true (cover_of fun i => ?_)) ?_
  · rw [make_self (make_sane _), mem_make, memL_append, lim, lim]
  · refine callP_of (ok_sets_MeetF (by omega) (by omega)) fun r8 h8 => ?_
    obtain ⟨rfl, l8⟩ := h8
    have ms : Sane (meetF (makeF x) (makeF y)) := meet_sane (make_sane _) (make_sane _)
    have c8 := cover_length u (meetF (makeF x) (makeF y))
    refine callP_eq (ok_image_Cover (by omega)) (callP_of (ok_sets_MeetF (by omega) (by omega)) fun r10 h10 => ?_)
    obtain ⟨e10, l10⟩ := h10
    rw [make_self (cover_sane u x), make_self (cover_sane u y)] at e10
    refine callP_eq (ok_lustrumref04_Same (by omega) (by omega)) (cond_yes (decide_eq_true ?_) ?_)
    · rw [e10]
      refine sane_ext (cover_sane _ _) (meet_sane (cover_sane u x) (cover_sane u y)) fun d => ?_
      rw [mem_meet, mem_cover, mem_cover, mem_cover, make_self ms]
      constructor
      · rintro ⟨i, h1, h2⟩
        have := mem_meet.1 h2
        exact ⟨⟨i, h1, this.1⟩, i, h1, this.2⟩
      · rintro ⟨⟨i, h1, h2⟩, j, h3, h4⟩
        rw [h1] at h3
        cases h3
        exact ⟨i, h1, mem_meet.2 ⟨h2, h4⟩⟩
    · have hm := make_length x
      have cm := cover_length u (makeF x)
      refine callP_eq (ok_runs_Make (by omega)) (callP_eq (ok_image_Cover (by omega)) (callP_of (ok_lustrumref04_Same (by omega) (by omega)) fun r hr => ?_))
      rw [hr]
      refine decide_eq_true (sane_ext (cover_sane _ _) (cover_sane _ _) fun d => ?_)
      rw [mem_cover, mem_cover, make_self (make_sane x)]
end Go.Proofs.YtjeoelajkncpcaaDoor.V

/- lustrumlaw07.ImageEnds as a condition on the program's functions. No condition of its own. -/
namespace Go.Proofs.YtjeoelajkncpcaaDoor.V
open Go
set_option linter.unusedVariables false
set_option linter.unusedSimpArgs false

theorem countF_singles : ∀ l : List Int, countF (singles l) = l.length
  | [] => rfl
  | n :: l => by
    show (n - n + 1) + countF (singles l) = _
    rw [countF_singles l, List.length_cons]
    omega

/-- Is it told? -/
def toldF (u : Int) (s : Runs) : Bool := if u = 0 then !decide (400 < (unitsF u s).length) else !decide (400 < (nums (unitsF u s)).length)

theorem marks_told (g : Int → Int → Int) (u : Int) (s : Runs) : (marksF g u s).2 = toldF u s ∧ (toldF u s = false → (marksF g u s).1 = []) := by
  unfold marksF toldF
  split
  · by_cases h : 400 < (unitsF u s).length
    · rw [if_pos h, decide_eq_true h]; exact ⟨rfl, fun _ => rfl⟩
    · rw [if_neg h, decide_eq_false h]; exact ⟨rfl, fun q => by cases q⟩
  · by_cases h : 400 < (nums (unitsF u s)).length
    · rw [if_pos h, decide_eq_true h]; exact ⟨rfl, fun _ => rfl⟩
    · rw [if_neg h, decide_eq_false h]; exact ⟨rfl, fun q => by cases q⟩

theorem marks_count {g : Int → Int → Int} (hg : DayIn g) {u : Int} {s l : Runs} (h : marksF g u s = (l, true)) : countF l = countF (unitsF u s) := by
  unfold marksF at h
  split at h
  · split at h
    · cases h
    · cases h; rfl
  · rename_i e
    split at h
    · cases h
    · cases h
      rw [marks_eq hg e, countF_singles, List.length_map, nums_count (units_sane u s)]

/-- Is there a unit of a set that a day is in, and does it begin, or end, there? -/
def atB (g : Int → Int → Int) (u : Int) (s : Runs) (d : Int) : Bool := match VCal.uof u d with
  | some n => decide (mem (makeF s) n) && decide (g u n = d)
  | none => false

theorem marks_at {g : Int → Int → Int} (hg : DayIn g) {u : Int} {s l : Runs} (h : marksF g u s = (l, true)) {d : Int} : decide (mem l d) = atB g u s d := by
  rw [Bool.eq_iff_iff, decide_eq_true_iff, mem_marks hg h]
  unfold atB
  constructor
  · rintro ⟨i, h1, h2, h3, h4⟩
    have b := hg.is h2 h3
    have : VCal.uof u d = some i := VCal.uof_some.2 ⟨h2, h3, by omega, by omega⟩
    rw [this]
    simp [h1, h4]
  · cases hu : VCal.uof u d with
    | none => intro h; cases h
    | some n =>
      intro h
      simp only [Bool.and_eq_true, decide_eq_true_eq] at h
      have := VCal.uof_some.1 hu
      exact ⟨n, h.1, this.1, this.2.1, h.2⟩

theorem ok_ImageEnds (a : Int × Runs × Int) : FnE bs n_lustrumlaw07_ImageEnds ((Shape.pair (.int .i64) (.pair (.slice sRun) (.int .i64))).compsE a) .bool (· = true) := by
  obtain ⟨u, s, d⟩ := a
  refine ok_of (e_lustrumlaw07_ImageEnds (u, s, d) _) rfl ?_
  unfold c_lustrumlaw07_ImageEnds
  refine callP_eq ok_lustrumlaw07_awake (cond_dec (fun _ => rfl) fun hl => ?_)
  have hl : ¬ (40 : Int) < (s.length : Int) := hl
  have hc := VCal.ucount_pos u
  have ul := units_length u s
  have us := units_sane u s
  refine callP_eq (ok_image_Starts (by dsimp only; omega)) (callP_eq (ok_image_Ends (by dsimp only; omega)) (callP_eq ok_unit_Count ?_))
  dsimp only
  rw [w64_of (n := VCal.ucount u - 1) (by omega)]
  refine callP_eq (ok_sets_ClipA (by omega)) ?_
  rw [show clipF (makeF s) 0 (VCal.ucount u - 1) = unitsF u s from rfl]
  refine callP_eq (ok_runs_CountA (by omega)) ?_
  rw [make_self us]
  obtain ⟨t1, n1⟩ := marks_told VCal.ufirst u s
  obtain ⟨t2, n2⟩ := marks_told VCal.ulast u s
  generalize hm1 : marksF VCal.ufirst u s = q1 at *
  generalize hm2 : marksF VCal.ulast u s = q2 at *
  obtain ⟨l1, b1⟩ := q1
  obtain ⟨l2, b2⟩ := q2
  dsimp only at t1 t2 n1 n2 ⊢
  have hcnt : (nums (unitsF u s)).length = countF (unitsF u s) := nums_count us
  have htold : u ≠ 0 → toldF u s = decide (countF (unitsF u s) ≤ 400) := fun hu => by
    unfold toldF
    rw [if_neg hu, ← hcnt, Bool.eq_iff_iff, Bool.not_eq_true', decide_eq_false_iff_not, decide_eq_true_iff]
    omega
  have htold0 : u = 0 → toldF u s = true := fun hu => by
    unfold toldF
    rw [if_pos hu, decide_eq_false (by omega)]; rfl
  subst t1
  subst t2
  generalize hT : toldF u s = T at *
  refine join_of (fun _ => True) (fun J hJ => ?_) fun _ _ => ?_
  · refine cond_no (by simp) ?_
    by_cases hu : u = 0
    · have hT' := htold0 hu
      subst hT'
      exact cond_no (by rw [decide_eq_true hu]; rfl) (cond_yes (decide_eq_true hu) (cond_no rfl (hJ () trivial)))
    · have hT' := htold hu
      refine cond_yes (by rw [decide_eq_false hu]; rfl) (cond_no (by rw [hT']; simp) (cond_no (decide_eq_false hu) (hJ () trivial)))
  · refine cond_not (fun h => ?_) fun h => ?_
    · have e1 := n1 h
      have e2 := n2 h
      subst e1 e2
      exact cond_yes rfl (cond_yes rfl rfl)
    · have h : T = true := h
      subst h
      refine callP_eq ok_unit_Of (callP_eq ok_unit_First (callP_eq ok_unit_Last ?_))
      have c1 := marks_count dayIn_first hm1
      have c2 := marks_count dayIn_last hm2
      have s1 := marks_is_sane hm1
      have s2 := marks_is_sane hm2
      have k1 := marks_len hm1
      have k2 := marks_len hm2
      have a1 := marks_at dayIn_first hm1 (d := d)
      have a2 := marks_at dayIn_last hm2 (d := d)
      have H1 := hasB (n := d) (s := l1) (by omega) s1
      have H2 := hasB (n := d) (s := l2) (by omega) s2
      have C1 := ok_runs_CountA (s := l1) (by omega)
      have C2 := ok_runs_CountA (s := l2) (by omega)
      rw [make_self s1, c1] at C1
      rw [make_self s2, c2] at C2
      rw [a1] at H1
      rw [a2] at H2
      unfold atB at H1 H2
      unfold ofS
      clear a1 a2 n1 n2 hm1 hm2 htold htold0 hcnt
      have fin : callP bs 41 (.slice sRun) (.int .i64) l1 (fun r41 => (cond (decide (r41 = countF (unitsF u s))) (callP bs 41 (.slice sRun) (.int .i64) l2 (fun r42 => ((fun x : Bool => x = true) (decide (r42 = countF (unitsF u s)))))) ((fun x : Bool => x = true) false))) :=
        callP_eq C1 (cond_yes (decide_eq_true rfl) (callP_eq C2 (decide_eq_true rfl)))
      cases hu : VCal.uof u d with
      | none =>
        rw [hu] at H1 H2
        refine join_of (fun z : Bool => z = false) (fun J hJ => cond_no rfl (hJ _ rfl)) fun z hz => ?_
        subst hz
        exact cond_yes rfl (callP_eq (saneB (by omega) s1) (cond_yes rfl (callP_eq (saneB (by omega) s2) (cond_yes rfl (callP_eq H1 (cond_no rfl (cond_yes rfl (callP_eq H2 (cond_no rfl (cond_yes rfl fin))))))))))
      | some n =>
        rw [hu] at H1 H2
        have hn := VCal.uof_some.1 hu
        have e1 : (firstS u n).1 = VCal.ufirst u n := by unfold firstS; rw [if_pos ⟨hn.1, hn.2.1⟩]
        have e2 : (lastS u n).1 = VCal.ulast u n := by unfold lastS; rw [if_pos ⟨hn.1, hn.2.1⟩]
        refine join_of (fun z : Bool => z = decide (mem (makeF s) n)) (fun J hJ => cond_yes rfl (callP_of (ok_runs_HasA (by omega)) fun r hr => hJ _ hr)) fun z hz => ?_
        dsimp only
        rw [e1, e2]
        refine cond_yes rfl (callP_eq (saneB (by omega) s1) (cond_yes rfl (callP_eq (saneB (by omega) s2) (cond_yes rfl (callP_eq H1 ?_)))))
        dsimp only at hz ⊢
        dsimp only at H2
        rw [← hz]
        rw [← hz] at H2
        cases z
        · exact cond_no rfl (cond_yes rfl (callP_eq H2 (cond_no rfl (cond_yes rfl fin))))
        · exact cond_yes rfl (cond_yes (by simp) (callP_eq H2 (cond_yes rfl (cond_yes (by simp) fin))))
end Go.Proofs.YtjeoelajkncpcaaDoor.V

/- lustrumlaw14.LeafEnds as a condition on the program's functions. No condition of its own. -/
namespace Go.Proofs.YtjeoelajkncpcaaDoor.V
open Go
set_option linter.unusedVariables false
set_option linter.unusedSimpArgs false

def knownF (s : Runs) : Runs × Bool := if 400 < s.length then ([], false) else (s, true)

theorem ok_leaf_known {s : Runs} (hl : s.length < 65536) (h : Sane s) : FnE bs n_leaf_known ((Shape.slice sRun).compsE s) (.tup (.pair (.slice sRun) .bool)) (· = knownF s) := by
  refine ok_of (e_leaf_known s _) rfl ?_
  unfold c_leaf_known knownF
  refine callP_eq (ok_sets_WideA hl) ?_
  rw [make_self h]
  exact cond_dec (fun q => (if_pos q).symm) fun q => (if_neg q).symm

/-- The days on which a leaf's pairs start, and end. -/
def startsL (f : Leaf) : Runs × Bool := match ofF f with
  | none => ([], true)
  | some (.inl (u, s)) => marksF VCal.ufirst u s
  | some (.inr (a, b)) => knownF a
def endsL (f : Leaf) : Runs × Bool := match ofF f with
  | none => ([], true)
  | some (.inl (u, s)) => marksF VCal.ulast u s
  | some (.inr (a, b)) => knownF b

theorem span_lens {f : Leaf} {a b : Runs} (h : ofF f = some (.inr (a, b))) : a.length ≤ f.2.2.1.length ∧ b.length ≤ f.2.2.2.length := by
  obtain ⟨_, _, _, _, _, _, _, rfl, rfl⟩ := of_span h
  exact ⟨clip_length _ _ _, clip_length _ _ _⟩

theorem ok_leaf_Starts {f : Leaf} (hla : f.2.2.1.length < 65536) (hlb : f.2.2.2.length < 65536) : FnE bs n_leaf_Starts (sApiLeaf.compsE f) (.tup (.pair (.slice sRun) .bool)) (· = startsL f) := by
  refine ok_of (e_leaf_Starts f _) rfl ?_
  unfold c_leaf_Starts startsL
  refine callP_eq (ok_leaf_of (by dsimp only; omega) (by dsimp only; omega)) ?_
  rw [show ((f.1, f.2.1, f.2.2.1, f.2.2.2) : Leaf) = f from rfl]
  rcases ho : ofF f with _ | ⟨u, s⟩ | ⟨a, b⟩
  · exact rfl
  · obtain ⟨h1, h2, rfl, rfl, h5, h6, h7⟩ := of_units ho
    exact callP_eq (ok_image_Starts hla) rfl
  · have hs := span_ends ho
    have hl := span_lens ho
    exact callP_eq (ok_leaf_known (by dsimp only; omega) hs.1) rfl

theorem ok_leaf_Ends {f : Leaf} (hla : f.2.2.1.length < 65536) (hlb : f.2.2.2.length < 65536) : FnE bs n_leaf_Ends (sApiLeaf.compsE f) (.tup (.pair (.slice sRun) .bool)) (· = endsL f) := by
  refine ok_of (e_leaf_Ends f _) rfl ?_
  unfold c_leaf_Ends endsL
  refine callP_eq (ok_leaf_of (by dsimp only; omega) (by dsimp only; omega)) ?_
  rw [show ((f.1, f.2.1, f.2.2.1, f.2.2.2) : Leaf) = f from rfl]
  rcases ho : ofF f with _ | ⟨u, s⟩ | ⟨a, b⟩
  · exact rfl
  · obtain ⟨h1, h2, rfl, rfl, h5, h6, h7⟩ := of_units ho
    exact callP_eq (ok_image_Ends hla) rfl
  · have hs := span_ends ho
    have hl := span_lens ho
    exact callP_eq (ok_leaf_known (by dsimp only; omega) hs.2.1) rfl

theorem known_spec {s l : Runs} {b : Bool} (hs : Sane s) (h : knownF s = (l, b)) : Sane l ∧ l.length ≤ 400 ∧ (b = true → l = s) ∧ (b = false → l = []) := by
  unfold knownF at h
  split at h
  · cases h; exact ⟨trivial, Nat.zero_le _, fun q => (by cases q), fun _ => rfl⟩
  · cases h; exact ⟨hs, by omega, fun _ => rfl, fun q => by cases q⟩

theorem marks_nil {g : Int → Int → Int} {u : Int} {s l : Runs} (h : marksF g u s = (l, false)) : l = [] := by
  have := marks_told g u s
  rw [h] at this
  exact this.2 this.1.symm

theorem starts_spec {f : Leaf} {l : Runs} {b : Bool} (h : startsL f = (l, b)) : Sane l ∧ l.length ≤ 400 ∧ (b = false → l = []) ∧ (b = true → ∀ d, mem l d ↔ ∃ p ∈ famPairs (ofF f), p.1 = d) := by
  unfold startsL at h
  rcases ho : ofF f with _ | ⟨u, s⟩ | ⟨x, y⟩
  · rw [ho] at h
    cases h
    exact ⟨trivial, Nat.zero_le _, fun _ => rfl, fun _ d => ⟨fun q => (mem_nil q).elim, fun ⟨p, hp, _⟩ => (by cases hp)⟩⟩
  · rw [ho] at h
    dsimp only at h
    obtain ⟨h1, h2, h3, h4, h5, h6, h7⟩ := of_units ho
    refine ⟨marks_is_sane h, marks_len h, fun q => (by subst q; exact marks_nil h), fun q d => ?_⟩
    subst q
    rw [mem_marks dayIn_first h, make_self h6.1]
    show _ ↔ ∃ p ∈ unitPairs u s, p.1 = d
    unfold unitPairs
    constructor
    · rintro ⟨i, q1, q2, q3, q4⟩
      exact ⟨_, List.mem_map.2 ⟨i, mem_nums.2 q1, rfl⟩, q4⟩
    · rintro ⟨p, hp, rfl⟩
      obtain ⟨i, hi, rfl⟩ := List.mem_map.1 hp
      have b := Within.bounds h6 (mem_nums.1 hi)
      exact ⟨i, mem_nums.1 hi, b.1, by omega, rfl⟩
  · rw [ho] at h
    dsimp only at h
    obtain ⟨sa, sb, na, nb, l1, l2⟩ := span_ends ho
    obtain ⟨k1, k2, k3, k4⟩ := known_spec sa h
    refine ⟨k1, k2, k4, fun q d => ?_⟩
    rw [k3 q]
    show _ ↔ ∃ p ∈ spanPairs x y, p.1 = d
    constructor
    · intro hd
      obtain ⟨_, _, _, _, _, _, _, e1, _⟩ := of_span ho
      have h1 := hd
      rw [e1] at h1
      have := (mem_clip.1 h1).2.2
      exact ⟨(d, hiF y), span_pair sa sb hd (mem_hi sb nb) (by omega), rfl⟩
    · rintro ⟨p, hp, rfl⟩
      exact (pair_span hp).1

theorem ends_spec {f : Leaf} {l : Runs} {b : Bool} (h : endsL f = (l, b)) : Sane l ∧ l.length ≤ 400 ∧ (b = false → l = []) ∧ (b = true → ∀ d, mem l d ↔ ∃ p ∈ famPairs (ofF f), p.2 = d) := by
  unfold endsL at h
  rcases ho : ofF f with _ | ⟨u, s⟩ | ⟨x, y⟩
  · rw [ho] at h
    cases h
    exact ⟨trivial, Nat.zero_le _, fun _ => rfl, fun _ d => ⟨fun q => (mem_nil q).elim, fun ⟨p, hp, _⟩ => (by cases hp)⟩⟩
  · rw [ho] at h
    dsimp only at h
    obtain ⟨h1, h2, h3, h4, h5, h6, h7⟩ := of_units ho
    refine ⟨marks_is_sane h, marks_len h, fun q => (by subst q; exact marks_nil h), fun q d => ?_⟩
    subst q
    rw [mem_marks dayIn_last h, make_self h6.1]
    show _ ↔ ∃ p ∈ unitPairs u s, p.2 = d
    unfold unitPairs
    constructor
    · rintro ⟨i, q1, q2, q3, q4⟩
      exact ⟨_, List.mem_map.2 ⟨i, mem_nums.2 q1, rfl⟩, q4⟩
    · rintro ⟨p, hp, rfl⟩
      obtain ⟨i, hi, rfl⟩ := List.mem_map.1 hp
      have b := Within.bounds h6 (mem_nums.1 hi)
      exact ⟨i, mem_nums.1 hi, b.1, by omega, rfl⟩
  · rw [ho] at h
    dsimp only at h
    obtain ⟨sa, sb, na, nb, l1, l2⟩ := span_ends ho
    obtain ⟨k1, k2, k3, k4⟩ := known_spec sb h
    refine ⟨k1, k2, k4, fun q d => ?_⟩
    rw [k3 q]
    show _ ↔ ∃ p ∈ spanPairs x y, p.2 = d
    constructor
    · intro hd
      obtain ⟨_, _, _, _, _, _, _, _, e1⟩ := of_span ho
      have h1 := hd
      rw [e1] at h1
      have := (mem_clip.1 h1).2.1
      exact ⟨(loF x, d), span_pair sa sb (mem_lo sa na) hd (by omega), rfl⟩
    · rintro ⟨p, hp, rfl⟩
      exact (pair_span hp).2.1

theorem ok_LeafEnds (a : Leaf × Int) : FnE bs n_lustrumlaw14_LeafEnds ((Shape.pair sApiLeaf (.int .i64)).compsE a) .bool (· = true) := by
  obtain ⟨f, d⟩ := a
  refine ok_of (e_lustrumlaw14_LeafEnds (f, d) _) rfl ?_
  unfold c_lustrumlaw14_LeafEnds
  refine callP_eq ok_lustrumlaw14_awake (callP_eq ok_lustrumref14_Few (cond_not (fun _ => rfl) fun h => ?_))
  have h := of_decide_eq_true h
  dsimp only at h ⊢
  refine callP_eq (ok_leaf_Pairs (f := f) (by omega) (by omega)) (callP_eq (ok_leaf_Starts (f := f) (by omega) (by omega)) (callP_eq (ok_leaf_Ends (f := f) (by omega) (by omega)) ?_))
  generalize h1 : startsL f = q1
  generalize h2 : endsL f = q2
  obtain ⟨l1, b1⟩ := q1
  obtain ⟨l2, b2⟩ := q2
  obtain ⟨s1, k1, n1, m1⟩ := starts_spec h1
  obtain ⟨s2, k2, n2, m2⟩ := ends_spec h2
  dsimp only
  have early : cond true (cond b1 (cond b2 True ((decide ((l2.length : Int) = (0 : Int))) = true)) (cond (decide ((l1.length : Int) = (0 : Int))) (cond b2 True ((decide ((l2.length : Int) = (0 : Int))) = true)) (false = true))) (false = true) := by
    have e2 : cond b2 True ((decide ((l2.length : Int) = (0 : Int))) = true) := cond_bool (fun _ => trivial) fun q => by rw [n2 q]; rfl
    exact cond_yes rfl (cond_bool (fun _ => e2) fun q => cond_yes (by rw [n1 q]; rfl) e2)
  have early' : ∀ {R : Bool → Prop}, R true → cond true (cond b1 (cond b2 (R true) (R (decide ((l2.length : Int) = (0 : Int))))) (cond (decide ((l1.length : Int) = (0 : Int))) (cond b2 (R true) (R (decide ((l2.length : Int) = (0 : Int))))) (R false))) (R false) := fun {R} hR => by
    have e2 : cond b2 (R true) (R (decide ((l2.length : Int) = (0 : Int)))) := cond_bool (fun _ => hR) fun q => by rw [n2 q]; exact hR
    exact cond_yes rfl (cond_bool (fun _ => e2) fun q => cond_yes (by rw [n1 q]; rfl) e2)
  clear early
  refine cond_dec (fun _ => early' (R := fun x : Bool => x = true) rfl) fun hp => cond_not (fun q => by subst q; exact early' (R := fun x : Bool => x = true) rfl) fun q1 => cond_not (fun q => by subst q; exact early' (R := fun x : Bool => x = true) rfl) fun q2 => ?_
  have m1 := m1 q1
  have m2 := m2 q2
  clear early' q1 q2
  have hall : pairsF f 1000 = famPairs (ofF f) := by
    have h2 : ¬ ((pairsF f 1000).length : Int) = 1000 := hp
    unfold pairsF at *
    rw [List.length_take] at h2
    exact List.take_of_length_le (by omega)
  have hlen : (pairsF f 1000).length ≤ 1000 := by unfold pairsF; rw [List.length_take]; omega
  rw [hall] at hlen ⊢
  generalize famPairs (ofF f) = ps at hlen m1 m2
  refine loopP_of (fun z : Bool × Bool × Int => ∃ j : Nat, z.2.2 = j ∧ j ≤ ps.length ∧ (z.1 = true ↔ ∃ p ∈ ps.take j, p.1 = d) ∧ (z.2.1 = true ↔ ∃ p ∈ ps.take j, p.2 = d)) (fun z => ps.length - z.2.2.toNat) ?_ ⟨0, rfl, Nat.zero_le _, by simp, by simp⟩
  rintro ⟨z1, z2, _⟩ A ⟨j, e1, hj, hz1, hz2⟩ back
  dsimp only at e1 hz1 hz2 ⊢
  subst e1
  refine cond_dec (fun h3 => ?_) fun h3 => ?_
  · have h3' : (j : Int) < ps.length := h3
    have hj' : j < ps.length := by omega
    have hgp := List.getElem?_eq_getElem hj'
    generalize ps[j] = p at hgp
    have htp : ps.take (j + 1) = ps.take j ++ [p] := by rw [List.take_add_one, hgp]; rfl
    rw [toNat_ofNat, rd_of (s := sRun) hgp, w_succ (a := j) (by omega)]
    have up : ∀ {z x : Bool} {sel : Int × Int → Int}, (z = true ↔ ∃ p ∈ ps.take j, sel p = d) → (x = true ↔ z = true ∨ sel p = d) → (x = true ↔ ∃ p ∈ ps.take (j + 1), sel p = d) := by
      intro z x sel hz hx
      rw [hx, hz, htp]
      constructor
      · rintro (⟨q, h, i⟩ | h)
        · exact ⟨q, List.mem_append_left _ h, i⟩
        · exact ⟨p, by simp, h⟩
      · rintro ⟨q, h, i⟩
        rcases List.mem_append.1 h with h | h
        · exact .inl ⟨q, h, i⟩
        · rw [List.mem_singleton] at h; subst h; exact .inr i
    have go : ∀ x y : Bool, (x = true ↔ z1 = true ∨ p.1 = d) → (y = true ↔ z2 = true ∨ p.2 = d) → A (x, y, ((j + 1 : Nat) : Int)) := fun x y hx hy => back _ ⟨j + 1, rfl, hj', up (sel := (·.1)) hz1 hx, up (sel := (·.2)) hz2 hy⟩ (by dsimp only; omega)
    have hin : (0 : Int) ≤ (j : Int) ∧ (j : Int) < (ps.length : Int) := ⟨by omega, h3'⟩
    refine cond_bool (fun a1 => cond_bool (fun a2 => go _ _ (by simp [a1]) (by simp [a2])) fun a2 => ⟨hin, go _ _ (by simp [a1]) (by simp [a2])⟩) fun a1 => ⟨hin, cond_bool (fun a2 => go _ _ (by simp [a1]) (by simp [a2])) fun a2 => ⟨hin, go _ _ (by simp [a1]) (by simp [a2])⟩⟩
  · rw [show ps.take j = ps from List.take_of_length_le (by have h3 : ¬ (j : Int) < ps.length := h3; omega)] at hz1 hz2
    refine cond_yes rfl (callP_eq (saneB (by omega) s1) (cond_yes rfl (callP_eq (saneB (by omega) s2) (cond_yes rfl (callP_eq (hasB (by omega) s1) (cond_yes (decide_eq_true ?_) (callP_of (hasB (by omega) s2) fun r hr => ?_)))))))
    · rw [Bool.eq_iff_iff, decide_eq_true_iff, hz1]; exact m1 d
    · rw [hr]
      refine decide_eq_true ?_
      rw [Bool.eq_iff_iff, decide_eq_true_iff, hz2]; exact m2 d
end Go.Proofs.YtjeoelajkncpcaaDoor.V

/- Units within days, and that have one of some days, by the units of the first and the last day: plain facts. No program in sight. -/
namespace Go.Proofs.YtjeoelajkncpcaaDoor.V
set_option linter.unusedVariables false
set_option linter.unusedSimpArgs false

/-- The first day of all units. -/
def day0 (u : Int) : Int := if u = 2 then 60 else 0

theorem first0 {u : Int} (h : 0 < VCal.ucount u) : VCal.ufirst u 0 = day0 u := by
  unfold VCal.ufirst day0
  by_cases h0 : u = 0
  · rw [if_pos h0, if_neg (by omega)]
  · rw [if_neg h0]
    unfold VCal.ucount at h
    rw [if_neg h0] at h
    cases ht : VCal.tab u with
    | none => rw [ht] at h; exact absurd h (by decide)
    | some q =>
      obtain ⟨m, f, c⟩ := q
      dsimp only
      rcases VCal.tab_cases ht with ⟨rfl, rfl, rfl, rfl⟩ | ⟨rfl, rfl, rfl, rfl⟩ | ⟨rfl, rfl, rfl, rfl⟩ | ⟨rfl, rfl, rfl, rfl⟩ | ⟨rfl, rfl, rfl, rfl⟩ <;> decide +kernel

theorem first_ge {u n : Int} (h0 : 0 ≤ n) (h1 : n < VCal.ucount u) : day0 u ≤ VCal.ufirst u n := by
  rw [← first0 (u := u) (by omega)]
  exact first_le (Int.le_refl _) h0 h1

/-- A unit that has a day between two days: both have their units. -/
theorem both_in {u a b n : Int} (ha : day0 u ≤ a) (hb : b ≤ 3652424) (h0 : 0 ≤ n) (h1 : n < VCal.ucount u) (h2 : a ≤ VCal.ulast u n) (h3 : VCal.ufirst u n ≤ b) : (∃ i, VCal.uof u a = some i) ∧ ∃ k, VCal.uof u b = some k := by
  constructor
  · obtain ⟨i, hi, _⟩ := unit_at (u := u) n.toNat 0 n a (by omega) (Int.le_refl _) h1 h0 (by rw [first0 (by omega)]; exact ha) h2
    exact ⟨i, hi⟩
  · obtain ⟨i, hi, _⟩ := unit_at (u := u) (VCal.ucount u - 1 - n).toNat n (VCal.ucount u - 1) b (by omega) h0 (by omega) (by omega) h3 (by rw [VCal.ulast_last]; exact hb)
    exact ⟨i, hi⟩

theorem touch_lo {u a i n : Int} (hi : VCal.uof u a = some i) (h0 : 0 ≤ n) (h1 : n < VCal.ucount u) : a ≤ VCal.ulast u n ↔ i ≤ n := by
  obtain ⟨q1, q2, q3, q4⟩ := VCal.uof_some.1 hi
  constructor
  · intro h
    rcases Int.lt_or_le n i with e | e
    · have := ufirst_lt h0 e q2; omega
    · exact e
  · intro h
    have := last_le q1 h h1
    omega

theorem touch_hi {u b k n : Int} (hk : VCal.uof u b = some k) (h0 : 0 ≤ n) (h1 : n < VCal.ucount u) : VCal.ufirst u n ≤ b ↔ n ≤ k := by
  obtain ⟨q1, q2, q3, q4⟩ := VCal.uof_some.1 hk
  constructor
  · intro h
    rcases Int.lt_or_le k n with e | e
    · have := ufirst_lt q1 e h1; omega
    · exact e
  · intro h
    have := first_le h0 h q2
    omega

theorem inside_lo {u a i n : Int} (hi : VCal.uof u a = some i) (h0 : 0 ≤ n) (h1 : n < VCal.ucount u) : a ≤ VCal.ufirst u n ↔ (if VCal.ufirst u i < a then i + 1 else i) ≤ n := by
  obtain ⟨q1, q2, q3, q4⟩ := VCal.uof_some.1 hi
  constructor
  · intro h
    rcases Int.lt_or_le n i with e | e
    · have := ufirst_lt h0 e q2
      have := (VCal.unit_in h0 h1).2.1
      omega
    · split
      · by_cases e2 : n = i
        · subst e2; omega
        · omega
      · exact e
  · intro h
    split at h
    · have := ufirst_lt q1 (show i < n by omega) h1
      omega
    · have := first_le q1 h h1
      omega

theorem inside_hi {u b k n : Int} (hk : VCal.uof u b = some k) (h0 : 0 ≤ n) (h1 : n < VCal.ucount u) : VCal.ulast u n ≤ b ↔ n ≤ (if b < VCal.ulast u k then k - 1 else k) := by
  obtain ⟨q1, q2, q3, q4⟩ := VCal.uof_some.1 hk
  constructor
  · intro h
    rcases Int.lt_or_le k n with e | e
    · have := ufirst_lt q1 e h1
      have := (VCal.unit_in h0 h1).2.1
      omega
    · split
      · by_cases e2 : n = k
        · subst e2; omega
        · omega
      · exact e
  · intro h
    split at h
    · have := ufirst_lt h0 (show n < k by omega) q2
      omega
    · have := last_le h0 h q2
      omega

theorem mem_run {i k n cnt : Int} (h0 : 0 ≤ i) (h1 : k < cnt) (hc : cnt ≤ 3652425) : mem (makeF [(i, k)]) n ↔ i ≤ n ∧ n ≤ k := by
  rw [mem_make]
  unfold memL Lim
  rw [mem_cons]
  constructor
  · rintro ⟨_, _, h | h⟩
    · exact h
    · exact (mem_nil h).elim
  · intro h
    exact ⟨by omega, by omega, .inl h⟩
end Go.Proofs.YtjeoelajkncpcaaDoor.V

/- lustrumref07, and lustrumlaw07.ImageIs, as conditions on the program's functions. No condition of its own. -/
namespace Go.Proofs.YtjeoelajkncpcaaDoor.V
open Go
set_option linter.unusedVariables false
set_option linter.unusedSimpArgs false

theorem ok_ref07_Units {u : Int} {s : Runs} (hl : s.length ≤ 1000) : FnE bs n_lustrumref07_Units ((Shape.pair (.int .i64) (.slice sRun)).compsE (u, s)) (.slice sRun) (· = unitsF u s) := by
  refine ok_of (e_lustrumref07_Units (u, s) _) rfl ?_
  unfold c_lustrumref07_Units
  have hc := VCal.ucount_pos u
  refine callP_eq ok_ref03_Count ?_
  rw [w64_of (n := VCal.ucount u - 1) (by omega)]
  exact callP_eq (ok_ref05_Clip hl) rfl

theorem ok_ref07_Cover {u : Int} {s : Runs} (hl : s.length ≤ 1000) : FnE bs n_lustrumref07_Cover ((Shape.pair (.int .i64) (.slice sRun)).compsE (u, s)) (.slice sRun) (· = coverF u s) := by
  refine ok_of (e_lustrumref07_Cover (u, s) _) rfl ?_
  unfold c_lustrumref07_Cover
  refine callP_eq (ok_ref07_Units hl) ?_
  have hlen := units_length u s
  unfold coverF
  have hin : ∀ r ∈ unitsF u s, 0 ≤ r.1 ∧ r.1 ≤ r.2 ∧ r.2 < VCal.ucount u := fun r => units_in
  generalize unitsF u s = us at hlen hin
  refine loopP_of (fun z : Unit × Int × Runs => ∃ k : Nat, z.2.1 = k ∧ k ≤ us.length ∧ z.2.2 = (us.take k).map (spanOf u)) (fun z => us.length - z.2.1.toNat) ?_ ⟨0, rfl, Nat.zero_le _, rfl⟩
  rintro ⟨_, _, _⟩ A ⟨k, e1, hk, e2⟩ back
  dsimp only at e1 e2 ⊢
  subst e1 e2
  refine cond_dec (fun h1 => ⟨⟨by omega, h1⟩, ?_⟩) fun h1 => ?_
  · have h1' : (k : Int) < us.length := h1
    have hk' : k < us.length := by omega
    have hg := List.getElem?_eq_getElem hk'
    generalize us[k] = r at hg
    have hr := hin r (List.mem_of_getElem? hg)
    rw [toNat_ofNat, rd_of (s := sRun) hg, w_succ (a := k) (by omega)]
    refine callP_eq ok_ref03_First ⟨⟨by omega, h1⟩, callP_eq ok_ref03_Last ⟨?_, ?_⟩⟩
    · rw [List.length_map, List.length_take]
      show (_ + 1) * 16 ≤ _
      omega
    · refine back _ ⟨k + 1, rfl, hk', ?_⟩ (by dsimp only; omega)
      dsimp only
      have e : ((firstS u r.1).1, (lastS u r.2).1) = spanOf u r := by
        unfold firstS lastS spanOf
        rw [if_pos (by omega), if_pos (by omega)]
      rw [List.take_add_one, hg, List.map_append, e]
      rfl
  · rw [List.take_of_length_le (by have h1 : ¬ (k : Int) < us.length := h1; omega)]
    exact callP_eq (ok_ref04_Make (by rw [List.length_map]; omega)) rfl

def endG (last : Bool) : Int → Int → Int := if last = true then VCal.ulast else VCal.ufirst

theorem ok_ref07_ends {u : Int} {s : Runs} {last : Bool} (hl : s.length ≤ 1000) : FnE bs n_lustrumref07_ends ((Shape.pair (.int .i64) (.pair (.slice sRun) .bool)).compsE (u, s, last)) (.tup (.pair (.slice sRun) .bool)) (fun r => r.2 = toldF u s ∧ (r.2 = true → r.1 = (marksF (endG last) u s).1)) := by
  refine ok_of (e_lustrumref07_ends (u, s, last) _) rfl ?_
  unfold c_lustrumref07_ends
  refine callP_eq (ok_ref07_Units hl) ?_
  have hlen := units_length u s
  have hin : ∀ r ∈ unitsF u s, 0 ≤ r.1 ∧ r.1 ≤ r.2 ∧ r.2 < VCal.ucount u := fun r => units_in
  have hc := VCal.ucount_pos u
  refine cond_dec (fun e => ?_) fun e => ?_
  · have e : u = 0 := e
    unfold toldF marksF
    rw [if_pos e, if_pos e]
    by_cases hw : 400 < (unitsF u s).length
    · rw [if_pos hw, decide_eq_true hw]
      have : decide (((unitsF u s).length : Int) ≤ 400) = false := decide_eq_false (by omega)
      refine ⟨this, fun h => ?_⟩
      rw [this] at h; cases h
    · rw [if_neg hw, decide_eq_false hw]
      exact ⟨decide_eq_true (by show ((unitsF u s).length : Int) ≤ 400; omega), fun _ => rfl⟩
  · have e : ¬ u = 0 := e
    have hgd : DayIn (endG last) := by unfold endG; split; exact dayIn_last; exact dayIn_first
    have hbad : 400 < (nums (unitsF u s)).length → ((([], false) : Runs × Bool).2 = toldF u s ∧ ((([], false) : Runs × Bool).2 = true → (([], false) : Runs × Bool).1 = (marksF (endG last) u s).1)) := fun h => by
      unfold toldF
      rw [if_neg e, decide_eq_true h]
      exact ⟨rfl, fun q => by cases q⟩
    have hgood : (nums (unitsF u s)).length ≤ 400 → ∀ out, out = singles ((nums (unitsF u s)).map (endG last u)) → (((out, true) : Runs × Bool).2 = toldF u s ∧ (((out, true) : Runs × Bool).2 = true → ((out, true) : Runs × Bool).1 = (marksF (endG last) u s).1)) := fun h out ho => by
      unfold toldF marksF
      rw [if_neg e, if_neg e, decide_eq_false (by omega), if_neg (by omega), marks_eq hgd e]
      exact ⟨rfl, fun _ => ho⟩
    generalize unitsF u s = us at hlen hin hbad hgood
    generalize hM : (nums us) = M at hbad hgood
    have npos : ∀ k, (nums (us.take k)).length ≤ M.length := fun k => by
      rw [← hM]
      unfold nums
      conv => rhs; rw [← List.take_append_drop k us]
      rw [List.flatMap_append, List.length_append]
      exact Nat.le_add_right _ _
    refine loopP_of (fun z : Unit × Int × Runs => ∃ k : Nat, z.2.1 = k ∧ k ≤ us.length ∧ (nums (us.take k)).length ≤ 400 ∧ z.2.2 = singles ((M.take (nums (us.take k)).length).map (endG last u))) (fun z => us.length - z.2.1.toNat) ?_ ⟨0, rfl, Nat.zero_le _, Nat.zero_le _, rfl⟩
    rintro ⟨_, _, _⟩ A ⟨k, e1, hk, h400, e2⟩ back
    dsimp only at e1 e2 ⊢
    subst e1 e2
    refine cond_dec (fun h1 => ⟨⟨by omega, h1⟩, ?_⟩) fun h1 => ?_
    · have h1' : (k : Int) < us.length := h1
      have hk' : k < us.length := by omega
      have hg := List.getElem?_eq_getElem hk'
      generalize us[k] = r at hg
      have hr := hin r (List.mem_of_getElem? hg)
      rw [toNat_ofNat, rd_of (s := sRun) hg, w_succ (a := k) (by omega)]
      obtain ⟨q0, hq0⟩ : ∃ q0, (nums (us.take k)).length = q0 := ⟨_, rfl⟩
      have hnum : M = nums (us.take k) ++ (upTo r.1 r.2 ++ nums (us.drop (k + 1))) := by
        rw [← hM]
        conv => lhs; rw [← List.take_append_drop k us, drop_cons hg]
        unfold nums
        rw [List.flatMap_append, List.flatMap_cons]
      have hnxt : (nums (us.take (k + 1))).length = q0 + (r.2 + 1 - r.1).toNat := by
        rw [← hq0]
        unfold nums
        rw [List.take_add_one, hg, List.flatMap_append, List.length_append]
        simp [upTo]
      have hnth : ∀ i : Nat, (i : Int) ≤ r.2 - r.1 → M[q0 + i]? = some (r.1 + i) := fun i hi => by
        rw [hnum, ← hq0, List.getElem?_append_right (by omega), Nat.add_sub_cancel_left, List.getElem?_append_left (by simp [upTo]; omega)]
        unfold upTo
        rw [List.getElem?_map, List.getElem?_range (by omega)]
        rfl
      have np := npos (k + 1)
      rw [hq0] at h400 ⊢
      refine loopP_of (fun z : Unit × Int × Runs => r.1 ≤ z.2.1 ∧ z.2.1 ≤ r.2 + 1 ∧ q0 + (z.2.1 - r.1).toNat ≤ 400 ∧ z.2.2 = singles ((M.take (q0 + (z.2.1 - r.1).toNat)).map (endG last u))) (fun z => (r.2 + 1 - z.2.1).toNat) ?_ ⟨Int.le_refl _, by dsimp only; omega, by dsimp only; omega, by dsimp only; rw [Int.sub_self]; rfl⟩
      rintro ⟨_, n, _⟩ A2 ⟨n1, n2, n3, e3⟩ back2
      dsimp only at n1 n2 n3 e3 ⊢
      subst e3
      refine ⟨⟨by omega, h1⟩, cond_dec (fun hn => ?_) fun hn => ?_⟩
      · have hn : n ≤ r.2 := hn
        have hget := hnth (n - r.1).toNat (by omega)
        rw [show r.1 + ((n - r.1).toNat : Int) = n by omega] at hget
        have hlt := (List.getElem?_eq_some_iff.1 hget).1
        have htk : M.take (q0 + (n + 1 - r.1).toNat) = M.take (q0 + (n - r.1).toNat) ++ [n] := by
          rw [show q0 + (n + 1 - r.1).toNat = q0 + (n - r.1).toNat + 1 by omega, List.take_add_one, hget]
          rfl
        have hol : (singles ((M.take (q0 + (n - r.1).toNat)).map (endG last u))).length = q0 + (n - r.1).toNat := by
          unfold singles
          rw [List.length_map, List.length_map, List.length_take]
          omega
        have step : ∀ v : Int, v = endG last u n → chk (((singles ((M.take (q0 + (n - r.1).toNat)).map (endG last u))).length + [(v, v)].length) * 16 ≤ 140737488355328) (cond (decide ((400 : Int) < ((singles ((M.take (q0 + (n - r.1).toNat)).map (endG last u)) ++ [(v, v)]).length : Int))) ((fun r : Runs × Bool => r.2 = toldF u s ∧ (r.2 = true → r.1 = (marksF (endG last) u s).1)) ([], false)) (A2 ((), (w64 (n + (1 : Int))), (singles ((M.take (q0 + (n - r.1).toNat)).map (endG last u)) ++ [(v, v)])))) := by
          rintro _ rfl
          refine ⟨?_, cond_dec (fun hb => hbad ?_) fun hb => ?_⟩
          · rw [hol]; show (_ + 1) * 16 ≤ _; omega
          · rw [List.length_append, hol] at hb
            simp only [List.length_cons, List.length_nil] at hb
            omega
          · rw [List.length_append, hol] at hb
            simp only [List.length_cons, List.length_nil] at hb
            rw [w64_of (n := n + 1) (by omega)]
            refine back2 _ ⟨by dsimp only; omega, by dsimp only; omega, by dsimp only; omega, ?_⟩ (by dsimp only; omega)
            dsimp only
            rw [htk]
            unfold singles
            rw [List.map_append, List.map_append]
            rfl
        have hf1 : (firstS u n).1 = VCal.ufirst u n := by unfold firstS; rw [if_pos (by omega)]
        have hf2 : (lastS u n).1 = VCal.ulast u n := by unfold lastS; rw [if_pos (by omega)]
        refine callP_eq ok_ref03_First (cond_bool (fun hb => callP_eq ok_ref03_Last (step _ ?_)) fun hb => step _ ?_)
        · show (lastS u n).1 = _; unfold endG; rw [if_pos hb, hf2]
        · show (firstS u n).1 = _; unfold endG; rw [if_neg (by rw [hb]; exact Bool.false_ne_true), hf1]
      · have hn : ¬ n ≤ r.2 := hn
        obtain rfl : n = r.2 + 1 := by omega
        refine back _ ⟨k + 1, rfl, hk', by rw [hnxt]; exact n3, ?_⟩ (by dsimp only; omega)
        dsimp only
        rw [hnxt]
    · have hke : us.take k = us := List.take_of_length_le (by have h1 : ¬ (k : Int) < us.length := h1; omega)
      rw [hke, hM] at h400 ⊢
      rw [List.take_of_length_le (Nat.le_refl _)]
      exact hgood h400 _ rfl
end Go.Proofs.YtjeoelajkncpcaaDoor.V

/- lustrumlaw07.ImageIs as a condition on the program's functions. No condition of its own. -/
namespace Go.Proofs.YtjeoelajkncpcaaDoor.V
open Go
set_option linter.unusedVariables false
set_option linter.unusedSimpArgs false

theorem ref07_marks {g : Int → Int → Int} {u : Int} {s : Runs} {r : Runs × Bool} (h : r.2 = toldF u s ∧ (r.2 = true → r.1 = (marksF g u s).1)) : cond (!r.2) ((fun x : Runs × Bool => x = marksF g u s) ([], false)) ((fun x : Runs × Bool => x = marksF g u s) (r.1, true)) := by
  obtain ⟨h1, h2⟩ := h
  obtain ⟨t1, t2⟩ := marks_told g u s
  refine cond_not (fun q => ?_) fun q => ?_
  · rw [q] at h1
    exact Prod.ext (t2 h1.symm).symm (by rw [t1, ← h1])
  · rw [q] at h1
    exact Prod.ext (h2 q) (by rw [t1, ← h1])

theorem ok_ref07_Starts {u : Int} {s : Runs} (hl : s.length ≤ 1000) : FnE bs n_lustrumref07_Starts ((Shape.pair (.int .i64) (.slice sRun)).compsE (u, s)) (.tup (.pair (.slice sRun) .bool)) (· = marksF VCal.ufirst u s) := by
  refine ok_of (e_lustrumref07_Starts (u, s) _) rfl ?_
  unfold c_lustrumref07_Starts
  exact callP_of (ok_ref07_ends (last := false) hl) fun r hr => ref07_marks (g := VCal.ufirst) hr

theorem ok_ref07_Ends {u : Int} {s : Runs} (hl : s.length ≤ 1000) : FnE bs n_lustrumref07_Ends ((Shape.pair (.int .i64) (.slice sRun)).compsE (u, s)) (.tup (.pair (.slice sRun) .bool)) (· = marksF VCal.ulast u s) := by
  refine ok_of (e_lustrumref07_Ends (u, s) _) rfl ?_
  unfold c_lustrumref07_Ends
  exact callP_of (ok_ref07_ends (last := true) hl) fun r hr => ref07_marks (g := VCal.ulast) hr

/-- Units that lie within days; that have one of some days. -/
def InR (u lo hi : Int) (r : Runs) : Prop := Sane r ∧ r.length ≤ 1 ∧ ∀ n, mem r n ↔ 0 ≤ n ∧ n < VCal.ucount u ∧ lo ≤ VCal.ufirst u n ∧ VCal.ulast u n ≤ hi
def ToR (u lo hi : Int) (r : Runs) : Prop := Sane r ∧ r.length ≤ 1 ∧ ∀ n, mem r n ↔ 0 ≤ n ∧ n < VCal.ucount u ∧ lo ≤ hi ∧ VCal.ufirst u n ≤ hi ∧ lo ≤ VCal.ulast u n

def refInP (u A B : Int) (R : Runs → Prop) : Prop := cond (decide (B < A)) (R []) (callP bs 87 (.pair (.int .i64) (.int .i64)) (.tup (.pair (.int .i64) .bool)) (u, A) (fun r9 =>
  (callP bs 87 (.pair (.int .i64) (.int .i64)) (.tup (.pair (.int .i64) .bool)) (u, B) (fun r10 => (cond (!r9.2) (R []) (cond (!r10.2) (R []) (callP bs 81 (.pair (.int .i64) (.int .i64)) (.tup (.pair (.int .i64) .bool)) (u, r9.1) (fun r11 => (callP bs 82 (.pair (.int .i64) (.int .i64)) (.tup (.pair (.int .i64) .bool)) (u, r10.1) (fun r12 => (cond (decide (r11.1 < A)) (cond (decide (B < r12.1)) (callP bs 83 (.slice sRun) (.slice sRun) [((w64 (r9.1 + (1 : Int))), (w64 (r10.1 - (1 : Int))))] (fun r13 => (R r13))) (callP bs 83 (.slice sRun) (.slice sRun) [((w64 (r9.1 + (1 : Int))), r10.1)] (fun r14 => (R r14)))) (cond (decide (B < r12.1)) (callP bs 83 (.slice sRun) (.slice sRun) [(r9.1, (w64 (r10.1 - (1 : Int))))] (fun r15 => (R r15))) (callP bs 83 (.slice sRun) (.slice sRun) [(r9.1, r10.1)] (fun r16 => (R r16)))))))))))))))

theorem maxI_eq (a b : Int) : maxI a b = max a b := max_max a b
theorem minI_eq (a b : Int) : minI a b = min a b := min_min a b

theorem ref_in {u lo hi A B : Int} (hA : A = max lo (day0 u)) (hB : B = min hi 3652424) : refInP u A B (InR u lo hi) := by
  have hc := VCal.ucount_pos u
  have d0 : 0 ≤ day0 u := by unfold day0; split <;> omega
  have none : (∀ n, 0 ≤ n → n < VCal.ucount u → ¬ (lo ≤ VCal.ufirst u n ∧ VCal.ulast u n ≤ hi)) → InR u lo hi [] := fun h => ⟨trivial, Nat.zero_le _, fun n => ⟨fun q => (mem_nil q).elim, fun ⟨a, b, c, d⟩ => absurd ⟨c, d⟩ (h n a b)⟩⟩
  have eqA : ∀ n, 0 ≤ n → n < VCal.ucount u → (lo ≤ VCal.ufirst u n ↔ A ≤ VCal.ufirst u n) := fun n h0 h1 => by have := first_ge h0 h1; omega
  have eqB : ∀ n, 0 ≤ n → n < VCal.ucount u → (VCal.ulast u n ≤ hi ↔ VCal.ulast u n ≤ B) := fun n h0 h1 => by have := VCal.unit_in h0 h1; omega
  unfold refInP
  refine cond_dec (fun h => none fun n h0 h1 ⟨q1, q2⟩ => ?_) fun h => ?_
  · have h : B < A := h
    have := (eqA n h0 h1).1 q1
    have := (eqB n h0 h1).1 q2
    have := (VCal.unit_in h0 h1).2.1
    omega
  · have h : ¬ B < A := h
    refine callP_eq ok_ref03_Of (callP_eq ok_ref03_Of ?_)
    have hno : (VCal.uof u A = Option.none ∨ VCal.uof u B = Option.none) → InR u lo hi [] := fun hn => none fun n h0 h1 ⟨q1, q2⟩ => by
      have p1 := (eqA n h0 h1).1 q1
      have p2 := (eqB n h0 h1).1 q2
      have p3 := (VCal.unit_in h0 h1).2.1
      obtain ⟨⟨i, hi⟩, k, hk⟩ := both_in (u := u) (a := A) (b := B) (by omega) (by omega) h0 h1 (by omega) (by omega)
      rcases hn with e | e
      · rw [hi] at e; cases e
      · rw [hk] at e; cases e
    unfold ofS
    cases hi' : VCal.uof u A with
    | none => exact cond_yes rfl (hno (.inl hi'))
    | some i =>
      cases hk' : VCal.uof u B with
      | none => exact cond_no rfl (cond_yes rfl (hno (.inr hk')))
      | some k =>
        obtain ⟨i1, i2, i3, i4⟩ := VCal.uof_some.1 hi'
        obtain ⟨k1, k2, k3, k4⟩ := VCal.uof_some.1 hk'
        refine cond_no rfl (cond_no rfl (callP_eq ok_ref03_First (callP_eq ok_ref03_Last ?_)))
        have f1 : (firstS u i).1 = VCal.ufirst u i := by unfold firstS; rw [if_pos ⟨i1, i2⟩]
        have f2 : (lastS u k).1 = VCal.ulast u k := by unfold lastS; rw [if_pos ⟨k1, k2⟩]
        dsimp only
        rw [f1, f2, w64_of (n := i + 1) (by omega), w64_of (n := k - 1) (by omega)]
        have fin : ∀ x y, x = (if VCal.ufirst u i < A then i + 1 else i) → y = (if B < VCal.ulast u k then k - 1 else k) → callP bs 83 (.slice sRun) (.slice sRun) [(x, y)] (fun r => InR u lo hi r) := by
          intro x y hx hy
          refine callP_eq (ok_ref04_Make (by simp)) ⟨make_sane _, make_length [(x, y)], fun n => ?_⟩
          have x0 : 0 ≤ x := by rw [hx]; split <;> omega
          have y0 : y < VCal.ucount u := by rw [hy]; split <;> omega
          rw [mem_run x0 y0 hc.2]
          constructor
          · rintro ⟨p1, p2⟩
            have h0 : 0 ≤ n := Int.le_trans x0 p1
            have h1 : n < VCal.ucount u := Int.lt_of_le_of_lt p2 y0
            exact ⟨h0, h1, (eqA n h0 h1).2 ((inside_lo hi' h0 h1).2 (hx ▸ p1)), (eqB n h0 h1).2 ((inside_hi hk' h0 h1).2 (hy ▸ p2))⟩
          · rintro ⟨h0, h1, p1, p2⟩
            exact ⟨by rw [hx]; exact (inside_lo hi' h0 h1).1 ((eqA n h0 h1).1 p1), by rw [hy]; exact (inside_hi hk' h0 h1).1 ((eqB n h0 h1).1 p2)⟩
        exact cond_dec (fun c1 => cond_dec (fun c2 => fin _ _ (if_pos c1).symm (if_pos c2).symm) fun c2 => fin _ _ (if_pos c1).symm (if_neg c2).symm) fun c1 => cond_dec (fun c2 => fin _ _ (if_neg c1).symm (if_pos c2).symm) fun c2 => fin _ _ (if_neg c1).symm (if_neg c2).symm

theorem ok_ref07_Inside {u lo hi : Int} : FnE bs n_lustrumref07_Inside ((Shape.pair (.int .i64) (.pair (.int .i64) (.int .i64))).compsE (u, lo, hi)) (.slice sRun) (InR u lo hi) := by
  refine ok_of (e_lustrumref07_Inside (u, lo, hi) _) rfl ?_
  unfold c_lustrumref07_Inside
  refine cond_dec (fun h => ?_) fun h => ?_
  · have h : u = 2 := h
    refine ref_in (A := maxI (maxI lo 0) 60) (B := minI hi 3652424) ?_ (minI_eq _ _)
    rw [maxI_eq, maxI_eq]; unfold day0; rw [if_pos h]; omega
  · have h : ¬ u = 2 := h
    refine ref_in (A := maxI lo 0) (B := minI hi 3652424) ?_ (minI_eq _ _)
    rw [maxI_eq]; unfold day0; rw [if_neg h]

def refToP (u A B : Int) (R : Runs → Prop) : Prop := cond (decide (B < A)) (R []) (callP bs 87 (.pair (.int .i64) (.int .i64)) (.tup (.pair (.int .i64) .bool)) (u, A) (fun r3
 => (callP bs 87 (.pair (.int .i64) (.int .i64)) (.tup (.pair (.int .i64) .bool)) (u, B) (fun r4 => (cond (!r3.2) (R []) (cond (!r4.2) (R []) (R [(r3.1, r4.1)])))))))

theorem ref_to {u lo hi A B : Int} (hA : A = max lo (day0 u)) (hB : B = min hi 3652424) : refToP u A B (ToR u lo hi) := by
  have hc := VCal.ucount_pos u
  have d0 : 0 ≤ day0 u ∧ day0 u ≤ 60 := by unfold day0; split <;> omega
  have none : (∀ n, 0 ≤ n → n < VCal.ucount u → ¬ (lo ≤ hi ∧ VCal.ufirst u n ≤ hi ∧ lo ≤ VCal.ulast u n)) → ToR u lo hi [] := fun h => ⟨trivial, Nat.zero_le _, fun n => ⟨fun q => (mem_nil q).elim, fun ⟨a, b, c⟩ => absurd c (h n a b)⟩⟩
  have eqA : ∀ n, 0 ≤ n → n < VCal.ucount u → (lo ≤ VCal.ulast u n ↔ A ≤ VCal.ulast u n) := fun n h0 h1 => by have := first_ge h0 h1; have := VCal.unit_in h0 h1; omega
  have eqB : ∀ n, 0 ≤ n → n < VCal.ucount u → (VCal.ufirst u n ≤ hi ↔ VCal.ufirst u n ≤ B) := fun n h0 h1 => by have := VCal.unit_in h0 h1; omega
  unfold refToP
  refine cond_dec (fun h => none fun n h0 h1 ⟨q0, q1, q2⟩ => ?_) fun h => ?_
  · have h : B < A := h
    have := first_ge h0 h1
    have := VCal.unit_in h0 h1
    omega
  · have h : ¬ B < A := h
    refine callP_eq ok_ref03_Of (callP_eq ok_ref03_Of ?_)
    have hno : (VCal.uof u A = Option.none ∨ VCal.uof u B = Option.none) → ToR u lo hi [] := fun hn => none fun n h0 h1 ⟨q0, q1, q2⟩ => by
      have p1 := (eqA n h0 h1).1 q2
      have p2 := (eqB n h0 h1).1 q1
      obtain ⟨⟨i, hi⟩, k, hk⟩ := both_in (u := u) (a := A) (b := B) (by omega) (by omega) h0 h1 p1 p2
      rcases hn with e | e
      · rw [hi] at e; cases e
      · rw [hk] at e; cases e
    unfold ofS
    cases hi' : VCal.uof u A with
    | none => exact cond_yes rfl (hno (.inl hi'))
    | some i =>
      cases hk' : VCal.uof u B with
      | none => exact cond_no rfl (cond_yes rfl (hno (.inr hk')))
      | some k =>
        obtain ⟨i1, i2, i3, i4⟩ := VCal.uof_some.1 hi'
        obtain ⟨k1, k2, k3, k4⟩ := VCal.uof_some.1 hk'
        have hik : i ≤ k := (touch_hi hk' i1 i2).1 (by omega)
        refine cond_no rfl (cond_no rfl ⟨⟨hik, by dsimp only; omega, by dsimp only; unfold Lim; omega, trivial⟩, Nat.le_refl _, fun n => ?_⟩)
        rw [mem_cons]
        constructor
        · rintro (⟨p1, p2⟩ | p)
          · have h0 : 0 ≤ n := by dsimp only at p1; omega
            have h1 : n < VCal.ucount u := by dsimp only at p2; omega
            exact ⟨h0, h1, by omega, (eqB n h0 h1).2 ((touch_hi hk' h0 h1).2 p2), (eqA n h0 h1).2 ((touch_lo hi' h0 h1).2 p1)⟩
          · exact (mem_nil p).elim
        · rintro ⟨h0, h1, _, p1, p2⟩
          exact .inl ⟨(touch_lo hi' h0 h1).1 ((eqA n h0 h1).1 p2), (touch_hi hk' h0 h1).1 ((eqB n h0 h1).1 p1)⟩

theorem ok_ref07_Touch {u lo hi : Int} : FnE bs n_lustrumref07_Touch ((Shape.pair (.int .i64) (.pair (.int .i64) (.int .i64))).compsE (u, lo, hi)) (.slice sRun) (ToR u lo hi) := by
  refine ok_of (e_lustrumref07_Touch (u, lo, hi) _) rfl ?_
  unfold c_lustrumref07_Touch
  refine cond_dec (fun h => ?_) fun h => ?_
  · have h : u = 2 := h
    refine ref_to (A := maxI (maxI lo 0) 60) (B := minI hi 3652424) ?_ (minI_eq _ _)
    rw [maxI_eq, maxI_eq]; unfold day0; rw [if_pos h]; omega
  · have h : ¬ u = 2 := h
    refine ref_to (A := maxI lo 0) (B := minI hi 3652424) ?_ (minI_eq _ _)
    rw [maxI_eq]; unfold day0; rw [if_neg h]

theorem ok_ImageIs (a : Int × Runs × Int × Int) : FnE bs n_lustrumlaw07_ImageIs ((Shape.pair (.int .i64) (.pair (.slice sRun) (.pair (.int .i64) (.int .i64)))).compsE a) .bool (· = true) := by
  obtain ⟨u, s, lo, hi⟩ := a
  refine ok_of (e_lustrumlaw07_ImageIs (u, s, lo, hi) _) rfl ?_
  unfold c_lustrumlaw07_ImageIs
  refine callP_eq ok_lustrumlaw07_awake (cond_dec (fun _ => rfl) fun hl => ?_)
  have hl : ¬ (40 : Int) < (s.length : Int) := hl
  dsimp only
  refine callP_eq (ok_image_Starts (by omega)) (callP_eq (ok_ref07_Starts (by omega)) (callP_eq (ok_image_Ends (by omega)) (callP_eq (ok_ref07_Ends (by omega)) ?_)))
  have k1 : (marksF VCal.ufirst u s).1.length ≤ 400 := marks_len (b := (marksF VCal.ufirst u s).2) rfl
  have k2 : (marksF VCal.ulast u s).1.length ≤ 400 := marks_len (b := (marksF VCal.ulast u s).2) rfl
  have cl := cover_length u s
  refine cond_no (by simp) (cond_no (by simp) (callP_eq (ok_lustrumref04_Same (by omega) (by omega)) (cond_no (by simp) (callP_eq (ok_lustrumref04_Same (by omega) (by omega)) (cond_no (by simp) (cond_yes rfl ?_))))))
  refine callP_eq (ok_image_Cover (by omega)) (callP_eq (ok_ref07_Cover (by omega)) (callP_eq (ok_lustrumref04_Same (by omega) (by omega)) (cond_yes (decide_eq_true rfl) ?_)))
  refine callP_of ok_image_Inside fun r11 h11 => callP_of ok_ref07_Inside fun r12 h12 => ?_
  have l11 := within_len h11
  have e1 : r11 = r12 := by
    refine sane_ext (within_is_sane h11) h12.1 fun n => ?_
    rw [mem_within h11, h12.2.2 n]
    exact ⟨fun ⟨a, b, c, d⟩ => ⟨a, b, c, Int.not_lt.1 d⟩, fun ⟨a, b, c, d⟩ => ⟨a, b, c, Int.not_lt.2 d⟩⟩
  subst e1
  refine callP_eq (ok_lustrumref04_Same (by omega) (by omega)) (cond_yes (decide_eq_true rfl) ?_)
  refine callP_of ok_image_Touch fun r14 h14 => callP_of ok_ref07_Touch fun r15 h15 => ?_
  have s14 : Sane r14 ∧ r14.length ≤ 1 ∧ ∀ n, mem r14 n ↔ 0 ≤ n ∧ n < VCal.ucount u ∧ lo ≤ hi ∧ VCal.ufirst u n ≤ hi ∧ lo ≤ VCal.ulast u n := by
    rcases h14 with ⟨e, e2⟩ | ⟨e, h⟩
    · have e : hi < lo := e
      rw [e2]
      exact ⟨trivial, Nat.zero_le _, fun n => ⟨fun h => (mem_nil h).elim, fun h => by omega⟩⟩
    · refine ⟨within_is_sane h, within_len h, fun n => ?_⟩
      rw [mem_within h]
      constructor
      · rintro ⟨a, b, c, d⟩; exact ⟨a, b, e, Int.not_lt.1 d, c⟩
      · rintro ⟨a, b, _, c, d⟩; exact ⟨a, b, d, Int.not_lt.2 c⟩
  have e2 : r14 = r15 := sane_ext s14.1 h15.1 fun n => (s14.2.2 n).trans (h15.2.2 n).symm
  subst e2
  exact callP_of (ok_lustrumref04_Same (by omega) (by omega)) fun r hr => by rw [hr]; exact decide_eq_true rfl
end Go.Proofs.YtjeoelajkncpcaaDoor.V

