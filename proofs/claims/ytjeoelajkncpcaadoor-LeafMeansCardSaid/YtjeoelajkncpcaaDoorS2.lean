/- Sets' first and last numbers, sets within bounds, leaves: plain facts. No program in sight. -/
import Derived.Test.YtjeoelajkncpcaaDoorS1
import Derived.Test.YtjeoelajkncpcaaDoorVCalUnit
namespace Go.Proofs.YtjeoelajkncpcaaDoor.V
set_option linter.unusedVariables false

def loF (s : Runs) : Int := (s.getD 0 (0, 0)).1
def hiF (s : Runs) : Int := (s.getD (s.length - 1) (0, 0)).2

theorem loF_cons (r : Int × Int) (s : Runs) : loF (r :: s) = r.1 := rfl

theorem hiF_get {s : Runs} (h : s ≠ []) : ∃ r, s[s.length - 1]? = some r ∧ hiF s = r.2 := by
  have hl : s.length - 1 < s.length := by have := List.length_pos_iff.2 h; omega
  refine ⟨_, List.getElem?_eq_getElem hl, ?_⟩
  unfold hiF
  rw [List.getD_eq_getElem?_getD, List.getElem?_eq_getElem hl]
  rfl

theorem loF_get {s : Runs} (h : s ≠ []) : ∃ r, s[0]? = some r ∧ loF s = r.1 := by
  cases s with
  | nil => exact absurd rfl h
  | cons r s => exact ⟨r, rfl, rfl⟩

theorem sane_le {s : Runs} (h : Sane s) {i j : Nat} {r q : Int × Int} (hi : s[i]? = some r) (hj : s[j]? = some q) (hl : i ≤ j) : r.1 ≤ q.1 ∧ r.2 ≤ q.2 := by
  rcases Nat.lt_or_eq_of_le hl with e | e
  · have := SaneFrom.get h i j r q hi hj e
    have h1 := (SaneFrom.lt h q (List.mem_of_getElem? hj)).2.1
    have h2 := (SaneFrom.lt h r (List.mem_of_getElem? hi)).2.1
    omega
  · subst e; rw [hi] at hj; cases hj; exact ⟨Int.le_refl _, Int.le_refl _⟩

/-- All of a set's numbers are from its first to its last one. -/
theorem mem_between {s : Runs} (h : Sane s) {n : Int} (hn : mem s n) : loF s ≤ n ∧ n ≤ hiF s := by
  obtain ⟨r, hr, h1, h2⟩ := hn
  obtain ⟨i, hi⟩ := List.getElem?_of_mem hr
  have hne : s ≠ [] := List.ne_nil_of_mem hr
  obtain ⟨a, ha, ea⟩ := loF_get hne
  obtain ⟨b, hb, eb⟩ := hiF_get hne
  have hl := (List.getElem?_eq_some_iff.1 hi).1
  have := sane_le h ha hi (Nat.zero_le _)
  have := sane_le h hi hb (by omega)
  omega

theorem mem_lo {s : Runs} (h : Sane s) (hne : s ≠ []) : mem s (loF s) := by
  obtain ⟨a, ha, ea⟩ := loF_get hne
  have hm := List.mem_of_getElem? ha
  have := (SaneFrom.lt h a hm).2.1
  exact ⟨a, hm, by omega, by omega⟩

theorem mem_hi {s : Runs} (h : Sane s) (hne : s ≠ []) : mem s (hiF s) := by
  obtain ⟨a, ha, ea⟩ := hiF_get hne
  have hm := List.mem_of_getElem? ha
  have := (SaneFrom.lt h a hm).2.1
  exact ⟨a, hm, by omega, by omega⟩

theorem lo_le_hi {s : Runs} (h : Sane s) (hne : s ≠ []) : loF s ≤ hiF s := (mem_between h (mem_lo h hne)).2

theorem sane_nil {s : Runs} (h : Sane s) (k : ∀ n, ¬ mem s n) : s = [] := by
  cases s with
  | nil => rfl
  | cons r t => exact absurd (mem_cons.2 (.inl ⟨Int.le_refl _, h.1⟩)) (k r.1)

/-- What is within bounds. -/
def clipF (s : Runs) (lo hi : Int) : Runs := s.filterMap fun r => if max r.1 lo ≤ min r.2 hi then some (max r.1 lo, min r.2 hi) else none

theorem mem_clip {s : Runs} {lo hi n : Int} : mem (clipF s lo hi) n ↔ mem s n ∧ lo ≤ n ∧ n ≤ hi := by
  unfold clipF
  constructor
  · rintro ⟨r, hr, h1, h2⟩
    obtain ⟨q, hq, e⟩ := List.mem_filterMap.1 hr
    split at e
    · cases e
      dsimp only at h1 h2
      exact ⟨⟨q, hq, by omega, by omega⟩, by omega, by omega⟩
    · cases e
  · rintro ⟨⟨q, hq, h1, h2⟩, h3, h4⟩
    refine ⟨(max q.1 lo, min q.2 hi), List.mem_filterMap.2 ⟨q, hq, if_pos (by omega)⟩, ?_, ?_⟩ <;> dsimp only <;> omega

theorem clip_from : ∀ {s : Runs} {a b lo hi : Int}, SaneFrom a s → b ≤ a → SaneFrom b (clipF s lo hi)
  | [], _, _, _, _, _, _ => trivial
  | r :: s, a, b, lo, hi, h, hb => by
    have h1 := h.1
    have h2 := h.2.1
    have h3 := h.2.2.1
    unfold clipF
    rw [List.filterMap_cons]
    split
    · rename_i e
      exact clip_from h.2.2.2 (by omega)
    · rename_i q e
      split at e
      · cases e
        refine ⟨by assumption, by dsimp only; omega, by dsimp only; omega, clip_from h.2.2.2 (by dsimp only; omega)⟩
      · cases e

theorem sane_clip {s : Runs} {lo hi : Int} (h : Sane s) : Sane (clipF s lo hi) := clip_from h (Int.le_refl _)

theorem clip_length (s : Runs) (lo hi : Int) : (clipF s lo hi).length ≤ s.length := List.length_filterMap_le _ _

/-! ### Leaves -/

abbrev Leaf := Bool × Int × Runs × Runs

/-- A set of numbers up to one. -/
def Within (s : Runs) (most : Int) : Prop := Sane s ∧ (s = [] ∨ (0 ≤ loF s ∧ hiF s ≤ most))
instance (s : Runs) (m : Int) : Decidable (Within s m) := inferInstanceAs (Decidable (_ ∧ _))

theorem Within.bounds {s : Runs} {m : Int} (h : Within s m) {n : Int} (hn : mem s n) : 0 ≤ n ∧ n ≤ m := by
  have := mem_between h.1 hn
  rcases h.2 with e | e
  · subst e; exact (mem_nil hn).elim
  · omega

def LeafSane (f : Leaf) : Prop := if f.1 = true then f.2.1 = 0 ∧ Within f.2.2.1 3652424 ∧ Within f.2.2.2 3652424 else (0 ≤ f.2.1 ∧ f.2.1 ≤ 5) ∧ Within f.2.2.1 (VCal.ucount f.2.1 - 1) ∧ f.2.2.2 = []
instance (f : Leaf) : Decidable (LeafSane f) := by unfold LeafSane; exact inferInstance

abbrev Family := Option ((Int × Runs) ⊕ (Runs × Runs))

/-- A leaf's family. -/
def ofF (f : Leaf) : Family :=
  if ¬ LeafSane f ∨ f.2.2.1 = [] then none
  else if f.1 = false then some (.inl (f.2.1, f.2.2.1))
  else if f.2.2.2 = [] ∨ hiF f.2.2.2 < loF f.2.2.1 then none
  else some (.inr (clipF f.2.2.1 0 (hiF f.2.2.2), clipF f.2.2.2 (loF f.2.2.1) 3652424))

theorem of_units {f : Leaf} {u : Int} {s : Runs} (h : ofF f = some (.inl (u, s))) : f.1 = false ∧ LeafSane f ∧ u = f.2.1 ∧ s = f.2.2.1 ∧ s ≠ [] ∧ Within s (VCal.ucount u - 1) ∧ (0 ≤ u ∧ u ≤ 5) := by
  unfold ofF at h
  split at h
  · cases h
  · rename_i q
    rw [not_or, Decidable.not_not] at q
    split at h
    · rename_i e
      cases h
      have hs := q.1
      unfold LeafSane at hs
      rw [if_neg (by rw [e]; decide)] at hs
      exact ⟨e, q.1, rfl, rfl, q.2, hs.2.1, hs.1⟩
    · split at h <;> cases h

theorem of_span {f : Leaf} {a b : Runs} (h : ofF f = some (.inr (a, b))) : f.1 = true ∧ LeafSane f ∧ f.2.2.1 ≠ [] ∧ f.2.2.2 ≠ [] ∧ loF f.2.2.1 ≤ hiF f.2.2.2 ∧ Within f.2.2.1 3652424 ∧ Within f.2.2.2 3652424 ∧ a = clipF f.2.2.1 0 (hiF f.2.2.2) ∧ b = clipF f.2.2.2 (loF f.2.2.1) 3652424 := by
  unfold ofF at h
  split at h
  · cases h
  · rename_i q
    rw [not_or, Decidable.not_not] at q
    split at h
    · cases h
    · rename_i e
      split at h
      · cases h
      · rename_i e2
        cases h
        rw [not_or] at e2
        have hs := q.1
        have e1 : f.1 = true := by simpa using e
        unfold LeafSane at hs
        rw [if_pos e1] at hs
        exact ⟨e1, q.1, q.2, e2.1, by omega, hs.2.1, hs.2.2, rfl, rfl⟩

/-- The first start and the last end of a span that has pairs. -/
theorem span_ends {f : Leaf} {a b : Runs} (h : ofF f = some (.inr (a, b))) : Sane a ∧ Sane b ∧ a ≠ [] ∧ b ≠ [] ∧ loF a = loF f.2.2.1 ∧ hiF b = hiF f.2.2.2 := by
  obtain ⟨h1, h2, h3, h4, h5, h6, h7, rfl, rfl⟩ := of_span h
  have b1 := Within.bounds h6 (mem_lo h6.1 h3)
  have b2 := Within.bounds h7 (mem_hi h7.1 h4)
  have ma : mem (clipF f.2.2.1 0 (hiF f.2.2.2)) (loF f.2.2.1) := mem_clip.2 ⟨mem_lo h6.1 h3, b1.1, h5⟩
  have mb : mem (clipF f.2.2.2 (loF f.2.2.1) 3652424) (hiF f.2.2.2) := mem_clip.2 ⟨mem_hi h7.1 h4, h5, b2.2⟩
  have na : clipF f.2.2.1 0 (hiF f.2.2.2) ≠ [] := fun e => by rw [e] at ma; exact mem_nil ma
  have nb : clipF f.2.2.2 (loF f.2.2.1) 3652424 ≠ [] := fun e => by rw [e] at mb; exact mem_nil mb
  have sa := sane_clip (lo := 0) (hi := hiF f.2.2.2) h6.1
  have sb := sane_clip (lo := loF f.2.2.1) (hi := 3652424) h7.1
  refine ⟨sa, sb, na, nb, ?_, ?_⟩
  · have := mem_between sa ma
    have := mem_between h6.1 (mem_clip.1 (mem_lo sa na)).1
    omega
  · have := mem_between sb mb
    have := mem_between h7.1 (mem_clip.1 (mem_hi sb nb)).1
    omega

/-- Is a pair one of a leaf's? -/
def HasF (f : Leaf) (p : Int × Int) : Prop := match ofF f with
  | none => False
  | some (.inl (u, s)) => ∃ i, VCal.uof u p.1 = some i ∧ mem s i ∧ p = (VCal.ufirst u i, VCal.ulast u i)
  | some (.inr (a, b)) => p.1 ≤ p.2 ∧ mem a p.1 ∧ mem b p.2
end Go.Proofs.YtjeoelajkncpcaaDoor.V
