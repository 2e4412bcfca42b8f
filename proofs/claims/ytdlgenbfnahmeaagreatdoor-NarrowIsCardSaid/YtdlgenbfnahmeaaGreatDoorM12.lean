/- The document's Narrow by its contract, and the law NarrowIs as a condition. No condition of its own. -/
import Derived.Test.YtdlgenbfnahmeaaGreatDoorM11


/- Layer 22: what the document's Narrow answers. No condition of its own. -/
namespace Go.Proofs.YtdlgenbfnahmeaaGreatDoor.V
open Go
set_option linter.unusedVariables false
set_option linter.unusedSimpArgs false
set_option linter.unusedSectionVars false

theorem has_clip {a b : Runs} {lo hi : Int} {p : Int × Int} (wa : Within a 3652424) (wb : Within b 3652424) : HasF (true, 0, clipF a lo hi, clipF b lo hi) p ↔ (p.1 ≤ p.2 ∧ mem a p.1 ∧ mem b p.2) ∧ lo ≤ p.1 ∧ p.2 ≤ hi := by
  have hs : LeafSane (true, 0, clipF a lo hi, clipF b lo hi) := by
    unfold LeafSane; rw [if_pos rfl]; exact ⟨rfl, within_clip wa, within_clip wb⟩
  rw [has_span hs rfl]
  constructor
  · rintro ⟨k1, k2, k3⟩
    have k2 := mem_clip.1 k2
    have k3 := mem_clip.1 k3
    exact ⟨⟨k1, k2.1, k3.1⟩, k2.2.1, k3.2.2⟩
  · rintro ⟨⟨k1, k2, k3⟩, j1, j2⟩
    exact ⟨k1, mem_clip.2 ⟨k2, j1, by omega⟩, mem_clip.2 ⟨k3, by omega, j2⟩⟩

theorem boxL_len (k : Leaf) : (boxL k).length ≤ 1 := by
  unfold boxL
  cases ofF k with
  | none => exact Nat.zero_le _
  | some x => exact Nat.le_refl _

theorem tidy_good {k : Leaf} {n : Nat} (hk : ofF k ≠ none) (hla : k.2.2.1.length ≤ 400) (hlb : k.2.2.2.length ≤ 400) (hn : unitN k ≤ n) : Good n (tidyF k) := by
  have ht := tidy_of k
  refine ⟨ht.1, by rw [ht.2]; exact hk, tidy_tidy k, ?_, ?_, ?_⟩
  all_goals rcases tidy_shape k with ⟨ho, e⟩ | ⟨u, s, ho, e⟩ | ⟨a, b, ho, e⟩
  · exact absurd ho hk
  · obtain ⟨h1, h2, h3, h4, h5, h6, h7⟩ := of_units ho
    rw [e]; dsimp only; rw [h4]; exact hla
  · have := span_lens ho
    rw [e]; dsimp only; omega
  · exact absurd ho hk
  · rw [e]; exact Nat.zero_le _
  · have := span_lens ho
    rw [e]; dsimp only; omega
  · exact absurd ho hk
  · intro _ hu
    rw [e] at hu ⊢
    unfold unitN at hn
    rw [ho] at hn
    dsimp only at hu hn ⊢
    rw [if_neg hu] at hn
    exact hn
  · intro h
    rw [e] at h; cases h

theorem boxL_good {a b : Runs} {lo hi : Int} (ha : a.length ≤ 400) (hb : b.length ≤ 400) : ∀ g ∈ boxL (true, 0, clipF a lo hi, clipF b lo hi), Good 400 g := by
  intro g hg
  have la := clip_length a lo hi
  have lb := clip_length b lo hi
  unfold boxL at hg
  cases ho : ofF (true, 0, clipF a lo hi, clipF b lo hi) with
  | none => rw [ho] at hg; cases hg
  | some x =>
    rw [ho] at hg
    cases List.mem_singleton.1 hg
    refine tidy_good (by rw [ho]; exact fun h => (by cases h)) (by dsimp only; omega) (by dsimp only; omega) ?_
    unfold unitN
    rcases x with ⟨u, s⟩ | ⟨a', b'⟩
    · exact absurd (of_units ho).1 (show ¬ true = false by decide)
    · rw [ho]; exact Nat.zero_le _

/-- A leaf of units, or none. -/
def optL (u : Int) (x : Runs) : List Leaf := if x = [] then [] else [(false, u, x, [])]

theorem optL_len (u : Int) (x : Runs) : (optL u x).length ≤ 1 := by
  unfold optL
  split
  · exact Nat.zero_le _
  · exact Nat.le_refl _

theorem optL_good {u : Int} {x : Runs} (hu : 0 ≤ u ∧ u ≤ 5) (hw : Within x (VCal.ucount u - 1)) (hl : x.length ≤ 400) (hn : u ≠ 0 → (nums x).length ≤ 400) : ∀ g ∈ optL u x, Good 400 g := by
  intro g hg
  unfold optL at hg
  split at hg
  · cases hg
  · rename_i h
    cases List.mem_singleton.1 hg
    obtain ⟨h1, h2, h3⟩ := unit_leaf hu hw h
    exact ⟨h1, by rw [h2]; exact fun q => (by cases q), h3, hl, Nat.zero_le _, fun _ q => hn q⟩

theorem optL_has {u : Int} {x : Runs} {p : Int × Int} (hu : 0 ≤ u ∧ u ≤ 5) (hw : Within x (VCal.ucount u - 1)) : hasP (optL u x) p ↔ ∃ i, VCal.uof u p.1 = some i ∧ mem x i ∧ p = (VCal.ufirst u i, VCal.ulast u i) := by
  unfold optL
  by_cases h : x = []
  · rw [if_pos h, h]
    exact ⟨fun q => absurd q hasP_nil, fun ⟨i, _, q, _⟩ => (mem_nil q).elim⟩
  · rw [if_neg h, hasP_one]
    obtain ⟨h1, h2, h3⟩ := unit_leaf hu hw h
    unfold HasF
    rw [h2]

theorem optL_day {x : Runs} {p : Int × Int} (hw : Within x 3652424) : hasP (optL 0 x) p ↔ p.1 = p.2 ∧ mem x p.1 := by
  unfold optL
  by_cases h : x = []
  · rw [if_pos h, h]
    exact ⟨fun q => absurd q hasP_nil, fun q => (mem_nil q.2).elim⟩
  · rw [if_neg h, hasP_one, day_has hw]

theorem has_unitsL {f : Leaf} {u : Int} {s : Runs} {p : Int × Int} (ho : ofF f = some (.inl (u, s))) : HasF f p ↔ ∃ i, VCal.uof u p.1 = some i ∧ mem s i ∧ p = (VCal.ufirst u i, VCal.ulast u i) := by unfold HasF; rw [ho]
theorem has_spansL {f : Leaf} {a b : Runs} {p : Int × Int} (ho : ofF f = some (.inr (a, b))) : HasF f p ↔ p.1 ≤ p.2 ∧ mem a p.1 ∧ mem b p.2 := by unfold HasF; rw [ho]
theorem has_none {f : Leaf} {p : Int × Int} (ho : ofF f = none) : ¬ HasF f p := by unfold HasF; rw [ho]; exact id
theorem has_daysL {f : Leaf} {s : Runs} {p : Int × Int} (ho : ofF f = some (.inl (0, s))) : HasF f p ↔ p.1 = p.2 ∧ mem s p.1 := by
  obtain ⟨h1, h2, h3, h4, h5, h6, h7⟩ := of_units ho
  have h := unit_leaf h7 h6 h5
  rw [has_congr (g := (false, 0, s, [])) (by rw [ho, h.2.1]), day_has h6]

/-- What is left of a Span within one leaf. -/
def WitR (a b : Runs) (f : Leaf) (r : List Leaf) : Prop :=
  (∀ g ∈ r, Good 400 g) ∧ r.length ≤ 401 ∧ ∀ p, hasP r p ↔ (p.1 ≤ p.2 ∧ mem a p.1 ∧ mem b p.2) ∧ leafIn f p

/-- What is left of one leaf. -/
def OneR (f : Leaf) (m : List Leaf) (r : List Leaf) : Prop :=
  (∀ g ∈ r, Good 400 g) ∧ r.length ≤ 401 * m.length + 1 ∧ ∀ p, hasP r p ↔ HasF f p ∧ insideP m p

/-! ### The plain law -/

theorem one_days {f : Leaf} {s x : Runs} {m : List Leaf} (ho : ofF f = some (.inl (0, s))) (hx : Sane x) (hl : x.length ≤ 400) (h : ∀ n, mem x n ↔ mem s n ∧ insideP m (n, n)) : OneR f m (optL 0 x) := by
  obtain ⟨h1, h2, h3, h4, h5, h6, h7⟩ := of_units ho
  have h6' : Within s 3652424 := h6
  have hw : Within x 3652424 := within_sub hx (fun n hn => ((h n).1 hn).1) h6'
  refine ⟨optL_good h7 hw hl fun q => absurd rfl q, Nat.le_trans (optL_len _ _) (by omega), fun p => ?_⟩
  rw [optL_day hw, has_daysL ho, h]
  constructor
  · rintro ⟨e, q1, q2⟩
    refine ⟨⟨e, q1⟩, ?_⟩
    rwa [show p = (p.1, p.1) from Prod.ext rfl e.symm]
  · rintro ⟨⟨e, q1⟩, q2⟩
    refine ⟨e, q1, ?_⟩
    rwa [show p = (p.1, p.1) from Prod.ext rfl e.symm] at q2

theorem one_units {f : Leaf} {u : Int} {s x : Runs} {m : List Leaf} (ho : ofF f = some (.inl (u, s))) (hu : u ≠ 0) (hn : unitN f ≤ 400) (hx : Sane x) (hl : x.length ≤ (nums s).length) (h : ∀ n, mem x n ↔ mem s n ∧ insideP m (VCal.ufirst u n, VCal.ulast u n)) : OneR f m (optL u x) := by
  obtain ⟨h1, h2, h3, h4, h5, h6, h7⟩ := of_units ho
  have hw : Within x (VCal.ucount u - 1) := within_sub hx (fun n hn => ((h n).1 hn).1) h6
  unfold unitN at hn
  rw [ho] at hn
  dsimp only at hn
  rw [if_neg hu] at hn
  have hs := nums_sub (x := x) (s := s) hx fun n hn => ((h n).1 hn).1
  refine ⟨optL_good h7 hw (by omega) fun _ => by omega, Nat.le_trans (optL_len _ _) (by omega), fun p => ?_⟩
  rw [optL_has h7 hw, has_unitsL ho]
  constructor
  · rintro ⟨i, q1, q2, q3⟩
    have := (h i).1 q2
    exact ⟨⟨i, q1, this.1, q3⟩, by rw [q3]; exact this.2⟩
  · rintro ⟨⟨i, q1, q2, q3⟩, q4⟩
    rw [q3] at q4
    exact ⟨i, q1, (h i).2 ⟨q2, q4⟩, q3⟩

theorem hasP_flat {α : Type} {l : List α} {g : α → List Leaf} {p : Int × Int} : hasP (l.flatMap g) p ↔ ∃ x ∈ l, hasP (g x) p := by
  unfold hasP
  constructor
  · rintro ⟨f, hf, h⟩
    obtain ⟨x, hx, hf⟩ := List.mem_flatMap.1 hf
    exact ⟨x, hx, f, hf, h⟩
  · rintro ⟨x, hx, f, hf, h⟩
    exact ⟨f, List.mem_flatMap.2 ⟨x, hx, hf⟩, h⟩

theorem wit_none {a b : Runs} {f : Leaf} (ho : ofF f = none) : WitR a b f [] :=
  ⟨fun g hg => (by cases hg), Nat.zero_le _, fun p => ⟨fun h => absurd h hasP_nil, fun h => absurd h.2 (leafIn_none ho)⟩⟩

theorem wit_span {a b c d : Runs} {f : Leaf} (wa : Within a 3652424) (wb : Within b 3652424) (ha : a.length ≤ 400) (hb : b.length ≤ 400) (ho : ofF f = some (.inr (c, d))) : WitR a b f (boxL (true, 0, clipF a (loF c) (hiF d), clipF b (loF c) (hiF d))) := by
  refine ⟨boxL_good ha hb, Nat.le_trans (boxL_len _) (by decide), fun p => ?_⟩
  rw [boxL_has, has_clip wa wb]
  exact and_congr_right fun h => (leafIn_span ho h.1).symm

theorem wit_days {a b s x : Runs} {f : Leaf} (wa : Within a 3652424) (ho : ofF f = some (.inl (0, s))) (hx : Sane x) (hl : x.length ≤ 400) (h : ∀ n, mem x n ↔ mem a n ∧ mem b n ∧ mem s n) : WitR a b f (optL 0 x) := by
  obtain ⟨h1, h2, h3, h4, h5, h6, h7⟩ := of_units ho
  have hw : Within x 3652424 := within_sub hx (fun n hn => ((h n).1 hn).1) wa
  refine ⟨optL_good h7 hw hl fun q => absurd rfl q, Nat.le_trans (optL_len _ _) (by decide), fun p => ?_⟩
  rw [optL_day hw, h]
  unfold leafIn
  constructor
  · rintro ⟨e, q1, q2, q3⟩
    exact ⟨⟨by omega, q1, e ▸ q2⟩, p, (has_daysL ho).2 ⟨e, q3⟩, Int.le_refl _, Int.le_refl _⟩
  · rintro ⟨⟨k1, k2, k3⟩, q, hq, j1, j2⟩
    obtain ⟨e, q3⟩ := (has_daysL ho).1 hq
    have e1 : p.1 = p.2 := by omega
    have e2 : q.1 = p.1 := by omega
    exact ⟨e1, k2, e1 ▸ k3, e2 ▸ q3⟩

/-- The boxes of a leaf of units. -/
def witL (a b : Runs) (u : Int) (ns : List Int) : List Leaf := ns.flatMap fun n => boxL (true, 0, clipF a (VCal.ufirst u n) (VCal.ulast u n), clipF b (VCal.ufirst u n) (VCal.ulast u n))

theorem witL_len (a b : Runs) (u : Int) (ns : List Int) : (witL a b u ns).length ≤ ns.length := by
  unfold witL
  induction ns with
  | nil => exact Nat.le_refl _
  | cons n ns ih =>
    have := boxL_len (true, 0, clipF a (VCal.ufirst u n) (VCal.ulast u n), clipF b (VCal.ufirst u n) (VCal.ulast u n))
    rw [List.flatMap_cons, List.length_append, List.length_cons]
    omega

theorem witL_app (a b : Runs) (u : Int) (ns : List Int) (n : Int) : witL a b u (ns ++ [n]) = witL a b u ns ++ boxL (true, 0, clipF a (VCal.ufirst u n) (VCal.ulast u n), clipF b (VCal.ufirst u n) (VCal.ulast u n)) := by
  unfold witL
  rw [List.flatMap_append]
  simp

theorem wit_units {a b s : Runs} {u : Int} {f : Leaf} (wa : Within a 3652424) (wb : Within b 3652424) (ha : a.length ≤ 400) (hb : b.length ≤ 400) (ho : ofF f = some (.inl (u, s))) (hn : (nums s).length ≤ 400) : WitR a b f (witL a b u (nums s)) := by
  refine ⟨fun g hg => ?_, Nat.le_trans (witL_len _ _ _ _) (by omega), fun p => ?_⟩
  · obtain ⟨n, _, hg⟩ := List.mem_flatMap.1 hg
    exact boxL_good ha hb g hg
  · unfold witL
    rw [hasP_flat]
    unfold leafIn
    constructor
    · rintro ⟨n, hn, h⟩
      rw [boxL_has, has_clip wa wb] at h
      refine ⟨h.1, (VCal.ufirst u n, VCal.ulast u n), ?_, h.2⟩
      rw [has_fam, ho]
      exact List.mem_map.2 ⟨n, hn, rfl⟩
    · rintro ⟨h1, q, hq, h2⟩
      rw [has_fam, ho] at hq
      obtain ⟨n, hn, rfl⟩ := List.mem_map.1 hq
      refine ⟨n, hn, ?_⟩
      rw [boxL_has, has_clip wa wb]
      exact ⟨h1, h2⟩

/-- What is left of a Span so far. -/
def OneS (f : Leaf) (m : List Leaf) (r : List Leaf) : Prop :=
  (∀ g ∈ r, Good 400 g) ∧ r.length ≤ 401 * m.length ∧ ∀ p, hasP r p ↔ HasF f p ∧ insideP m p

theorem inside_nil {p : Int × Int} : ¬ insideP [] p := fun ⟨_, q, h, _⟩ => hasP_nil h
theorem inside_one {f : Leaf} {p : Int × Int} : insideP [f] p ↔ p.1 ≤ p.2 ∧ leafIn f p := by
  rw [inside_iff]
  exact and_congr_right fun _ => ⟨fun ⟨g, hg, h⟩ => by cases List.mem_singleton.1 hg; exact h, fun h => ⟨f, List.mem_singleton.2 rfl, h⟩⟩

theorem ones_nil (f : Leaf) : OneS f [] [] := ⟨fun g hg => (by cases hg), Nat.zero_le _, fun p => ⟨fun h => absurd h hasP_nil, fun h => absurd h.2 inside_nil⟩⟩

theorem ones_step {f h : Leaf} {a b : Runs} {pre t r : List Leaf} (ho : ofF f = some (.inr (a, b))) (ht : OneS f pre t) (hr : WitR a b h r) : OneS f (pre ++ [h]) (t ++ r) := by
  refine ⟨fun g hg => (List.mem_append.1 hg).elim (ht.1 g) (hr.1 g), ?_, fun p => ?_⟩
  · have h1 := ht.2.1
    have h2 := hr.2.1
    rw [List.length_append, List.length_append, List.length_singleton]
    omega
  · rw [hasP_app, ht.2.2, hr.2.2, inside_app, inside_one, has_spansL ho]
    constructor
    · rintro (⟨q1, q2⟩ | ⟨q1, q2⟩)
      · exact ⟨q1, .inl q2⟩
      · exact ⟨q1, .inr ⟨q1.1, q2⟩⟩
    · rintro ⟨q1, q2 | q2⟩
      · exact .inl ⟨q1, q2⟩
      · exact .inr ⟨q1, q2.2⟩

theorem one_of {f : Leaf} {m r : List Leaf} (h : OneS f m r) : OneR f m r := ⟨h.1, Nat.le_trans h.2.1 (by omega), h.2.2⟩
theorem one_none {f : Leaf} {m : List Leaf} (ho : ofF f = none) : OneR f m [] := ⟨fun g hg => (by cases hg), Nat.zero_le _, fun p => ⟨fun h => absurd h hasP_nil, fun h => absurd h.1 (has_none ho)⟩⟩

/-- What is left of some leaves. -/
def NarS (m pre out : List Leaf) : Prop :=
  (∀ g ∈ out, Good 400 g) ∧ out.length ≤ pre.length * (401 * m.length + 1) ∧ ∀ p, hasP out p ↔ hasP pre p ∧ insideP m p

theorem nars_nil (m : List Leaf) : NarS m [] [] := ⟨fun g hg => (by cases hg), Nat.zero_le _, fun p => ⟨fun h => absurd h hasP_nil, fun h => absurd h.1 hasP_nil⟩⟩

theorem nars_step {m pre t r : List Leaf} {f : Leaf} (ht : NarS m pre t) (hr : OneR f m r) : NarS m (pre ++ [f]) (t ++ r) := by
  refine ⟨fun g hg => (List.mem_append.1 hg).elim (ht.1 g) (hr.1 g), ?_, fun p => ?_⟩
  · have h1 := ht.2.1
    have h2 := hr.2.1
    rw [List.length_append, List.length_append, List.length_singleton, Nat.add_mul, Nat.one_mul]
    omega
  · rw [hasP_app, ht.2.2, hr.2.2, hasP_app, hasP_one, or_and_right]

theorem nar_of {l m out : List Leaf} (hw : (wideB l || wideB m) = false) (h : NarS m l out) : NarR l m (knownR out) := by
  unfold NarR
  rw [hw, if_neg (by decide)]
  exact ⟨out, h.1, Nat.le_trans h.2.1 (Nat.mul_le_mul_left _ (by omega)), h.2.2, rfl⟩

/-- Two answers are alike. -/
theorem nar_same {l m : List Leaf} {r s : List Leaf × Int} (h : NarR l m r) (k : NarR l m s) : r.2 = s.2 ∧ (r.2 ≠ 0 → r.1 = []) ∧ (∀ g ∈ r.1, Good 400 g) ∧ (∀ g ∈ s.1, Good 400 g) ∧ (∀ p, hasP r.1 p ↔ hasP s.1 p) ∧ r.1.length ≤ l.length * (800 * m.length + 60) ∧ s.1.length ≤ l.length * (800 * m.length + 60) := by
  have nil : ∀ g ∈ ([] : List Leaf), Good 400 g := fun g hg => (by cases hg)
  obtain ⟨w1, e1⟩ | ⟨w1, o1, g1, l1, p1, c1⟩ := nar_cases h
  · obtain ⟨w2, e2⟩ | ⟨w2, _⟩ := nar_cases k
    · rw [e1, e2]; exact ⟨rfl, fun _ => rfl, nil, nil, fun p => Iff.rfl, Nat.zero_le _, Nat.zero_le _⟩
    · rw [w1] at w2; cases w2
  · obtain ⟨w2, e2⟩ | ⟨w2, o2, g2, l2, p2, c2⟩ := nar_cases k
    · rw [w1] at w2; cases w2
    · have hp : ∀ p, hasP o1 p ↔ hasP o2 p := fun p => (p1 p).trans (p2 p).symm
      have hc := st_congr g1 g2 hp
      obtain ⟨e1, n1⟩ | ⟨e1, ⟨q1, n1⟩, b1⟩ | ⟨e1, ⟨q1, n1⟩, _, b1, b1'⟩ := c1
      · obtain ⟨e2, n2⟩ | ⟨e2, ⟨q2, n2⟩, _⟩ | ⟨e2, ⟨q2, n2⟩, _⟩ := c2
        · rw [e1, e2]; exact ⟨rfl, fun _ => rfl, nil, nil, fun p => Iff.rfl, Nat.zero_le _, Nat.zero_le _⟩
        · exact absurd ((hp q2).2 n2) (n1 q2)
        · exact absurd ((hp q2).2 n2) (n1 q2)
      · obtain ⟨e2, n2⟩ | ⟨e2, _⟩ | ⟨e2, _, _, b2, b2'⟩ := c2
        · exact absurd ((hp q1).1 n1) (n2 q1)
        · rw [e1, e2]; exact ⟨rfl, fun _ => rfl, nil, nil, fun p => Iff.rfl, Nat.zero_le _, Nat.zero_le _⟩
        · rw [hc.1, hc.2] at b1; omega
      · obtain ⟨e2, n2⟩ | ⟨e2, _, b2⟩ | ⟨e2, _⟩ := c2
        · exact absurd ((hp q1).1 n1) (n2 q1)
        · rw [← hc.1, ← hc.2] at b2; omega
        · rw [e1, e2]; exact ⟨rfl, fun q => absurd rfl q, g1, g2, hp, l1, l2⟩
end Go.Proofs.YtdlgenbfnahmeaaGreatDoor.V


/- NarrowIs: what Narrow answers is what the document says. No condition of its own. -/
namespace Go.Proofs.YtdlgenbfnahmeaaGreatDoor.V
open Go
set_option linter.unusedVariables false
set_option linter.unusedSimpArgs false
set_option linter.unusedSectionVars false

theorem ok_ref22_within {a b : Runs} {sp : Bool} {u : Int} {f : Leaf} (wa : Within a 3652424) (wb : Within b 3652424) (ha : a.length ≤ 40) (hb : b.length ≤ 40) (hla : f.2.2.1.length ≤ 40) (hlb : f.2.2.2.length ≤ 40) (hn : unitN f ≤ 400) :
    FnE bs n_lustrumref22_within ((Shape.pair sApiLeaf sApiLeaf).compsE ((sp, u, a, b), f)) (.slice sApiLeaf) (WitR a b f) := by
  refine ok_of (e_lustrumref22_within ((sp, u, a, b), f) _) rfl ?_
  unfold c_lustrumref22_within
  refine callP_eq (ok_ref14_Tidy (f := f) (by omega) (by omega)) ?_
  rcases tidy_shape f with ⟨ho, ht⟩ | ⟨v, s, ho, ht⟩ | ⟨c, d, ho, ht⟩
  · rw [ht]
    exact cond_yes rfl (wit_none ho)
  · obtain ⟨h1, h2, h3, h4, h5, h6, h7⟩ := of_units ho
    have hs : s.length ≤ 40 := by rw [h4]; exact hla
    rw [ht]
    refine cond_no (decide_eq_false (fun e => h5 (len_zero.1 e))) (cond_no rfl (cond_dec (fun e => ?_) fun e => ?_))
    · have e : v = 0 := e
      rw [e] at ho
      refine callP_of (ok_ref05_MeetS (a := a) (b := b) (by omega) (by omega) wa.1 wb.1) fun x hx => ?_
      have hxl := hx.2.1
      refine callP_of (ok_ref05_MeetS (a := x) (b := s) (by omega) (by omega) hx.1 h6.1) fun y hy => ?_
      have hyl := hy.2.1
      have hW : WitR a b f (optL 0 y) := wit_days wa ho hy.1 (by omega) fun n => by rw [hy.2.2, hx.2.2, and_assoc]
      unfold optL at hW
      refine cond_dec (fun e => ?_) fun e => ?_
      · rw [if_pos (len_zero.1 e)] at hW; exact hW
      · rw [if_neg (fun q => e (len_zero.2 q))] at hW; exact hW
    · have e : ¬ v = 0 := e
      have hu : (nums s).length ≤ 400 := by
        unfold unitN at hn
        rw [ho] at hn
        dsimp only at hn
        rw [if_neg e] at hn
        exact hn
      have hc := VCal.ucount_pos v
      refine each_u (xs := s) (fun pre t => t = witL a b v (nums pre)) (by omega) rfl (fun k r t back hg hr ht next => ?_) (fun t ht => ?_)
      · subst ht
        dsimp only
        rw [Int.toNat_natCast, rd_of (s := sRun) hg]
        have hk := (List.getElem?_eq_some_iff.1 hg).1
        have hb1 := Within.bounds h6 (n := r.1) ⟨r, hr, Int.le_refl _, (Sane.bounds h6.1 r hr).2.1⟩
        have hb2 := Within.bounds h6 (n := r.2) ⟨r, hr, (Sane.bounds h6.1 r hr).2.1, Int.le_refl _⟩
        have hsplit : s = s.take k ++ [r] ++ s.drop (k + 1) := by
          conv => lhs; rw [← List.take_append_drop (k + 1) s, List.take_add_one, hg]
          rfl
        have hle : (nums (s.take k)).length + (upTo r.1 r.2).length ≤ 400 := by
          have e1 : (nums (s.take k ++ [r] ++ s.drop (k + 1))).length ≤ 400 := by rw [← hsplit]; exact hu
          rw [nums_app, nums_app, List.length_append, List.length_append, nums_one] at e1
          omega
        have rk : (0 : Int) ≤ (k : Int) ∧ (k : Int) < (s.length : Int) := by omega
        refine upto_c rk (fun pre t => t = witL a b v (nums (s.take k) ++ pre)) (by omega) (by omega) (by rw [List.append_nil]) (fun j t back2 h1 h2 ht2 next2 => ?_) (fun j t ht2 => next _ ?_)
        · subst ht2
          dsimp only
          have hl1 : (upTo r.1 (j - 1)).length ≤ (upTo r.1 r.2).length := by simp only [upTo, List.length_map, List.length_range]; omega
          have hl2 := witL_len a b v (nums (s.take k) ++ upTo r.1 (j - 1))
          rw [List.length_append] at hl2
          have hl3 := boxL_len (true, 0, clipF a (VCal.ufirst v j) (VCal.ulast v j), clipF b (VCal.ufirst v j) (VCal.ulast v j))
          refine callP_eq ok_ref03_First (callP_eq ok_ref03_Last ?_)
          unfold firstS lastS
          rw [if_pos (by omega), if_pos (by omega)]
          refine callP_eq (ok_ref22_box (sp := sp) (u := u) (by omega) (by omega) wa.1 wb.1) ⟨?_, next2 _ ?_⟩
          · dsimp only
            omega
          · rw [← List.append_assoc, witL_app]
        · rw [ht2, nums_app, nums_one]
      · subst ht
        exact wit_units wa wb (by omega) (by omega) ho hu
  · obtain ⟨sc, sd, nc, nd, q1, q2⟩ := span_ends ho
    have hsl := span_lens ho
    have lc := List.length_pos_iff.2 nc
    have ld := List.length_pos_iff.2 nd
    rw [ht]
    refine cond_no (decide_eq_false (fun e => nc (len_zero.1 e))) (cond_yes rfl ⟨⟨Int.le_refl _, (by show (0 : Int) < (c.length : Int); omega)⟩, ?_⟩)
    dsimp only
    rw [last_len nd (by omega), Int.toNat_natCast]
    exact ⟨⟨by omega, by omega⟩, callP_eq (ok_ref22_box (sp := sp) (u := u) (by omega) (by omega) wa.1 wb.1) (wit_span wa wb (by omega) (by omega) ho)⟩

theorem ok_ref22_one {f : Leaf} {m : List Leaf} (hla : f.2.2.1.length ≤ 40) (hlb : f.2.2.2.length ≤ 40) (hn : unitN f ≤ 400) (hm : FewL 40 m) (hml : m.length ≤ 6) (hu : ∀ h ∈ m, unitN h ≤ 400) :
    FnE bs n_lustrumref22_one ((Shape.pair sApiLeaf (.slice sApiLeaf)).compsE (f, m)) (.slice sApiLeaf) (OneR f m) := by
  refine ok_of (e_lustrumref22_one (f, m) _) rfl ?_
  unfold c_lustrumref22_one
  refine callP_eq (ok_ref14_Tidy (f := f) (by omega) (by omega)) ?_
  rcases tidy_shape f with ⟨ho, ht⟩ | ⟨v, s, ho, ht⟩ | ⟨a, b, ho, ht⟩
  · rw [ht]
    exact cond_yes rfl (one_none ho)
  · obtain ⟨h1, h2, h3, h4, h5, h6, h7⟩ := of_units ho
    have hs : s.length ≤ 40 := by rw [h4]; exact hla
    rw [ht]
    refine cond_no (decide_eq_false (fun e => h5 (len_zero.1 e))) (cond_yes rfl (cond_dec (fun e => ?_) fun e => cond_yes rfl ?_))
    · have e : v = 0 := e
      subst e
      refine callP_of (ok_ref22_days (s := s) (b := []) (sp := false) (u := 0) (m := m) hm (by omega) hs h6.1) fun r ⟨x, x1, x2, x3, x4⟩ => ?_
      rw [x4]
      exact one_days ho x1 (by omega) x3
    · have e : ¬ v = 0 := e
      refine callP_of (ok_ref22_units (s := s) (b := []) (sp := false) (u := v) (m := m) (hm.mono (by decide)) (by omega) h6) fun r ⟨x, x1, x2, x3, x4⟩ => ?_
      rw [x4]
      exact one_units ho e hn x1 x2 x3
  · obtain ⟨g1, g2, g3, g4, g5, wa0, wb0, ea, eb⟩ := of_span ho
    obtain ⟨sa, sb, na, nb, q1, q2⟩ := span_ends ho
    have hsl := span_lens ho
    have wa : Within a 3652424 := by rw [ea]; exact within_clip wa0
    have wb : Within b 3652424 := by rw [eb]; exact within_clip wb0
    rw [ht]
    refine cond_no (decide_eq_false (fun e => na (len_zero.1 e))) (cond_no rfl (cond_no rfl ?_))
    refine each_u (xs := m) (fun pre t => OneS f pre t) (by omega) (ones_nil f) (fun k h t back hg hh ht next => ?_) (fun t ht => one_of ht)
    have hk := (List.getElem?_eq_some_iff.1 hg).1
    have hff := hm.2 h hh
    have htl := ht.2.1
    rw [List.length_take] at htl
    dsimp only
    rw [Int.toNat_natCast, rd_of (s := sApiLeaf) hg]
    refine callP_of (ok_ref22_within (a := a) (b := b) (sp := true) (u := 0) (f := h) wa wb (by omega) (by omega) hff.1 hff.2 (hu h hh)) fun r hr => ⟨?_, next _ (ones_step ho ht hr)⟩
    have := hr.2.1
    omega

/-! ### Both -/

theorem ok_ref22_both {g : Leaf} (h : Good 400 g) (hs : g.1 = false) : FnE bs n_lustrumref22_both (sApiLeaf.compsE g) (.tup (.pair (.slice sRun) (.slice sRun))) (· = (st1 g, en1 g)) := by
  refine ok_of (e_lustrumref22_both g _) rfl ?_
  unfold c_lustrumref22_both
  have ht := good_told h (Nat.le_refl _)
  refine cond_dec (fun e => ?_) fun e => ?_
  · have e : g.2.1 = 0 := e
    have key : ∀ q, g.2.2.1 = (marksF q g.2.1 g.2.2.1).1 := fun q => by
      rcases good_shape h with ⟨u, s, ho, eg⟩ | ⟨a, b, ho, eg⟩
      · obtain ⟨h1, h2, h3, h4, h5, h6, h7⟩ := of_units ho
        have hl := h.2.2.2.1
        rw [← h3, ← h4] 
        rw [← h4] at hl
        rw [← h3] at e
        unfold marksF
        rw [if_pos e, units_self h6, if_neg (by omega)]
      · rw [eg] at hs; cases hs
    have k1 : g.2.2.1 = st1 g := by unfold st1; rw [if_neg (by rw [hs]; decide)]; exact key _
    have k2 : g.2.2.1 = en1 g := by unfold en1; rw [if_neg (by rw [hs]; decide)]; exact key _
    exact Prod.ext k1 k2
  · have hl1 := h.2.2.2.1
    have hl2 := h.2.2.2.2.1
    refine callP_eq (ok_ref14_Starts (f := g) (by omega) (by omega)) (callP_eq (ok_ref14_Ends (f := g) (by omega) (by omega)) ?_)
    rw [ht.1, ht.2]

/-! ### Narrow -/

theorem flat_lens {n : Nat} (l : List Leaf) (h : ∀ g ∈ l, Good n g) : (makeF (l.flatMap st1)).length ≤ l.length * 400 ∧ (makeF (l.flatMap en1)).length ≤ l.length * 400 :=
  ⟨Nat.le_trans (make_length _) (flatB_len l fun f hf => (st1_len (h f hf)).1), Nat.le_trans (make_length _) (flatB_len l fun f hf => (st1_len (h f hf)).2)⟩

theorem flat_make {l : List Leaf} {q : Leaf → Runs} {f : Leaf} : makeF (makeF (l.flatMap q) ++ q f) = makeF ((l ++ [f]).flatMap q) := by
  rw [make_app, List.flatMap_append]
  simp

theorem ok_ref22_Narrow {l m : List Leaf} (fl : FewL 40 l) (nl : l.length ≤ 6) (fm : FewL 40 m) (nm : m.length ≤ 6) : FnE bs n_lustrumref22_Narrow ((Shape.pair (.slice sApiLeaf) (.slice sApiLeaf)).compsE (l, m)) (.tup (.pair (.slice sApiLeaf) (.int .i64))) (NarR l m) := by
  refine ok_of (e_lustrumref22_Narrow (l, m) _) rfl ?_
  unfold c_lustrumref22_Narrow
  refine callP_eq (ok_ref20_Wide (l := l) (few1000 fl) (by omega)) (cond_bool (fun w1 => ?_) fun w1 => callP_eq (ok_ref20_Wide (l := m) (few1000 fm) (by omega)) (cond_bool (fun w2 => ?_) fun w2 => ?_))
  · show NarR l m ([], 8)
    unfold NarR
    rw [w1, Bool.true_or, if_pos rfl]
  · show NarR l m ([], 8)
    unfold NarR
    rw [w2, Bool.or_true, if_pos rfl]
  have hw : (wideB l || wideB m) = false := by rw [w1, w2]; rfl
  refine each_u (xs := l) (fun pre t => NarS m pre t) (by omega) (nars_nil m) (fun k f t back hg hf ht next => ?_) (fun t ht => ?_)
  · have hk := (List.getElem?_eq_some_iff.1 hg).1
    have hff := fl.2 f hf
    have htl := ht.2.1
    rw [List.length_take] at htl
    have hb : min k l.length * (401 * m.length + 1) ≤ 6 * 2407 := Nat.mul_le_mul (by omega) (by omega)
    dsimp only
    rw [Int.toNat_natCast, rd_of (s := sApiLeaf) hg]
    refine callP_of (ok_ref22_one (f := f) (m := m) hff.1 hff.2 (told_units (not_wide w1 hf).1) fm nm fun h hh => told_units (not_wide w2 hh).1) fun r hr => ⟨?_, next _ (nars_step ht hr)⟩
    have := hr.2.1
    omega
  · have hN := nar_of hw ht
    unfold knownR at hN
    dsimp only
    refine cond_dec (fun e => ?_) fun e => ?_
    · have e : t = [] := List.length_eq_zero_iff.1 (by have e : (t.length : Int) = 0 := e; omega)
      rw [if_pos e] at hN
      exact hN
    · have e : ¬ t = [] := fun q => e (by rw [q]; rfl)
      rw [if_neg e] at hN
      have htl := ht.2.1
      have hb : l.length * (401 * m.length + 1) ≤ 6 * 2407 := Nat.mul_le_mul (by omega) (by omega)
      refine each_bb (xs := t) (fun pre a b => a = makeF (pre.flatMap st1) ∧ b = makeF (pre.flatMap en1)) (by omega) ⟨rfl, rfl⟩ (fun k g a b back hg hgm hab next => ?_) (fun a b hab => ?_)
      · obtain ⟨rfl, rfl⟩ := hab
        have hk := (List.getElem?_eq_some_iff.1 hg).1
        have hgg := ht.1 g hgm
        have hl1 := st1_len hgg
        have hl2 := hgg.2.2.2.1
        have hl3 := hgg.2.2.2.2.1
        have ll := flat_lens (t.take k) fun f hf => ht.1 f (List.mem_of_mem_take hf)
        rw [List.length_take] at ll
        have hkk : min k t.length * 400 ≤ 14442 * 400 := Nat.mul_le_mul_right _ (by omega)
        have rk : (0 : Int) ≤ (k : Int) ∧ (k : Int) < (t.length : Int) := by omega
        dsimp only
        rw [Int.toNat_natCast, rd_of (s := sApiLeaf) hg]
        refine ⟨rk, rk, cond_not (fun q => ⟨rk, ?_⟩) fun q => ?_⟩
        · exact callP_eq (ok_ref22_both hgg q) (callP_eq (ok_ref05_Union (a := makeF ((t.take k).flatMap st1)) (b := st1 g) (by omega)) (callP_eq (ok_ref05_Union (a := makeF ((t.take k).flatMap en1)) (b := en1 g) (by omega)) (next _ _ ⟨flat_make, flat_make⟩)))
        · have hx : g.2.2.1 = st1 g := by unfold st1; rw [if_pos q]
          have hy : g.2.2.2 = en1 g := by unfold en1; rw [if_pos q]
          exact callP_eq (ok_ref05_Union (by omega)) (callP_eq (ok_ref05_Union (by omega)) (next _ _ ⟨by rw [hx]; exact flat_make, by rw [hy]; exact flat_make⟩))
      · obtain ⟨rfl, rfl⟩ := hab
        dsimp only
        refine cond_dec (fun q => ?_) fun q => cond_dec (fun q2 => ?_) fun q2 => ?_
        · have q : (400 : Int) < ((stF t).length : Int) := q
          rw [if_pos (.inl (by omega))] at hN
          exact hN
        · have q2 : (400 : Int) < ((enF t).length : Int) := q2
          rw [if_pos (.inr (by omega))] at hN
          exact hN
        · have q : ¬ (400 : Int) < ((stF t).length : Int) := q
          have q2 : ¬ (400 : Int) < ((enF t).length : Int) := q2
          rw [if_neg (by omega)] at hN
          exact hN

/-! ### The law -/

theorem ok_lustrumlaw22_ends {x : List Leaf} (hg : ∀ g ∈ x, Good 400 g) (hl : x.length ≤ 1000000) : FnE bs n_lustrumlaw22_ends ((Shape.slice sApiLeaf).compsE x) (.tup (.pair (.slice sRun) (.slice sRun))) (· = (stF x, enF x)) := by
  refine ok_of (e_lustrumlaw22_ends x _) rfl ?_
  unfold c_lustrumlaw22_ends
  refine each_bb (xs := x) (fun pre a b => a = makeF (pre.flatMap st1) ∧ b = makeF (pre.flatMap en1)) (by omega) ⟨rfl, rfl⟩ (fun k g a b back hge hgm hab next => ?_) (fun a b hab => ?_)
  · obtain ⟨rfl, rfl⟩ := hab
    have hk := (List.getElem?_eq_some_iff.1 hge).1
    have hgg := hg g hgm
    have hl1 := st1_len hgg
    have hl2 := hgg.2.2.2.1
    have hl3 := hgg.2.2.2.2.1
    have ll := flat_lens (x.take k) fun f hf => hg f (List.mem_of_mem_take hf)
    rw [List.length_take] at ll
    have hkk : min k x.length * 400 ≤ 1000000 * 400 := Nat.mul_le_mul_right _ (by omega)
    have rk : (0 : Int) ≤ (k : Int) ∧ (k : Int) < (x.length : Int) := by omega
    have ht := good_told hgg (Nat.le_refl _)
    dsimp only
    rw [Int.toNat_natCast, rd_of (s := sApiLeaf) hge]
    refine callP_eq (ok_leaf_Starts (f := g) (by omega) (by omega)) ⟨rk, callP_eq (ok_leaf_Ends (f := g) (by omega) (by omega)) ?_⟩
    rw [ht.1, ht.2]
    exact callP_eq (ok_sets_Union (by dsimp only; omega)) (callP_eq (ok_sets_Union (by dsimp only; omega)) (next _ _ ⟨flat_make, flat_make⟩))
  · obtain ⟨rfl, rfl⟩ := hab
    rfl

theorem ok_ref15_HasP {l : List Leaf} {p : Int × Int} (hl : FewL 1000 l) : FnE bs n_lustrumref15_Has ((Shape.pair (.slice sApiLeaf) sRun).compsE (l, p)) .bool (fun r => r = true ↔ hasP l p) := by
  refine ok_of (e_lustrumref15_Has (l, p) _) rfl ?_
  unfold c_lustrumref15_Has
  have hll := hl.1
  refine each_n (xs := l) (fun pre => ∀ f ∈ pre, ¬ HasF f p) (by omega) (fun f hf => by cases hf) (fun k f back hk hf hi next => ?_) (fun hi => no_of fun ⟨f, hf, h⟩ => hi f hf h)
  have hff := hl.2 f hf
  dsimp only
  rw [Int.toNat_natCast, rd_of (s := sApiLeaf) hk]
  refine callP_of (ref14_Has (f := f) (p := p) hff.1 hff.2) fun r hr => cond_bool (fun h => ⟨fun _ => ⟨f, hf, hr.1 h⟩, fun _ => rfl⟩) fun h => next fun g hg => ?_
  rcases List.mem_append.1 hg with hg | hg
  · exact hi g hg
  · cases List.mem_singleton.1 hg
    intro q
    rw [hr.2 q] at h; cases h

theorem ok_NarrowIs (a : List Leaf × List Leaf × (Int × Int)) (hl : a.1.length ≤ 9223372036854775807) (hm : a.2.1.length ≤ 9223372036854775807) : FnE bs n_lustrumlaw22_NarrowIs ((Shape.pair (.slice sApiLeaf) (.pair (.slice sApiLeaf) sRun)).compsE a) .bool (· = true) := by
  obtain ⟨l, m, p⟩ := a
  refine ok_of (e_lustrumlaw22_NarrowIs (l, m, p) _) rfl ?_
  unfold c_lustrumlaw22_NarrowIs
  refine callP_eq ok_lustrumlaw22_awake (callP_of (ok_lustrumlaw22_few hl) fun r hr => cond_not (fun _ => rfl) fun h => callP_of (ok_lustrumlaw22_few hm) fun r' hr' => cond_not (fun _ => rfl) fun h' => ?_)
  obtain ⟨nl, fl⟩ := hr h
  replace nl : l.length ≤ 6 := nl
  replace fl : FewL 40 l := fl
  obtain ⟨nm, fm⟩ := hr' h'
  replace nm : m.length ≤ 6 := nm
  replace fm : FewL 40 m := fm
  have hpr := few_prod (l := l) (m := m) nl (by omega)
  have hk : l.length * (800 * m.length + 60) ≤ 29160 := Nat.le_trans (Nat.mul_le_mul nl (show 800 * m.length + 60 ≤ 4860 by omega)) (by decide)
  refine callP_of (ok_narrow_Narrow (l := l) (m := m) (fl.mono (by decide)) (fm.mono (by decide)) (by omega) hpr) fun x hx => callP_of (ok_ref22_Narrow (l := l) (m := m) fl nl fm nm) fun y hy => ?_
  obtain ⟨e1, e2, g1, g2, hp, l1, l2⟩ := nar_same hx hy
  have hst := st_congr g1 g2 hp
  have fx : FewL 1000 x.1 := out_few g1 (by omega) (by decide)
  have fy : FewL 1000 y.1 := out_few g2 (by omega) (by decide)
  have lx : (stF x.1).length ≤ x.1.length * 400 ∧ (enF x.1).length ≤ x.1.length * 400 := flat_lens x.1 g1
  have ly : (stF y.1).length ≤ y.1.length * 400 ∧ (enF y.1).length ≤ y.1.length * 400 := flat_lens y.1 g2
  refine callP_eq (ok_lustrumlaw22_ends g1 (by omega)) (callP_eq (ok_lustrumlaw22_ends g2 (by omega)) (cond_yes rfl (callP_of (ok_narrow_Inside (m := m) (p := p) (few1000 fm)) fun r8 h8 => callP_of (ok_ref22_Inside (m := m) (p := p) (few1000 fm)) fun r9 h9 => cond_yes (beq_of h8 h9 Iff.rfl) (cond_yes (decide_eq_true e1) ?_))))
  refine cond_dec (fun _ => ?_) fun q => cond_yes (decide_eq_true (by rw [e2 q]; rfl)) ?_
  all_goals
    exact callP_of (ok_HasP (l := x.1) (p := p) fx) fun r10 h10 => callP_of (ok_ref15_HasP (l := y.1) (p := p) fy) fun r11 h11 => cond_yes (beq_of h10 h11 (hp _)) (callP_eq (ok_lustrumref04_Same (a := stF x.1) (b := stF y.1) (by omega) (by omega)) (cond_yes (decide_eq_true hst.1) (callP_eq (ok_lustrumref04_Same (a := enF x.1) (b := enF y.1) (by omega) (by omega)) (decide_eq_true hst.2))))
end Go.Proofs.YtdlgenbfnahmeaaGreatDoor.V

