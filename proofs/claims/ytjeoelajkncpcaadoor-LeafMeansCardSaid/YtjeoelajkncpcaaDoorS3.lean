/- The numbers of a set, and the pairs of a family, as lists: plain facts. No program in sight. -/
import Derived.Test.YtjeoelajkncpcaaDoorS2
namespace Go.Proofs.YtjeoelajkncpcaaDoor.V
set_option linter.unusedVariables false

/-- The numbers from one to another. -/
def upTo (lo hi : Int) : List Int := (List.range (hi + 1 - lo).toNat).map fun (k : Nat) => lo + (k : Int)

theorem upTo_nil {lo hi : Int} (h : hi < lo) : upTo lo hi = [] := by
  unfold upTo
  rw [show (hi + 1 - lo).toNat = 0 by omega]; rfl

theorem upTo_cons {lo hi : Int} (h : lo ≤ hi) : upTo lo hi = lo :: upTo (lo + 1) hi := by
  unfold upTo
  rw [show (hi + 1 - lo).toNat = (hi + 1 - (lo + 1)).toNat + 1 by omega, List.range_succ_eq_map, List.map_cons, List.map_map]
  congr 1
  · simp
  · apply List.map_congr_left
    intro k _
    simp only [Function.comp]
    omega

theorem mem_upTo {lo hi n : Int} : n ∈ upTo lo hi ↔ lo ≤ n ∧ n ≤ hi := by
  unfold upTo
  rw [List.mem_map]
  constructor
  · rintro ⟨k, hk, rfl⟩
    have := List.mem_range.1 hk
    omega
  · intro h
    exact ⟨(n - lo).toNat, List.mem_range.2 (by omega), by omega⟩

def nums (s : Runs) : List Int := s.flatMap fun r => upTo r.1 r.2

theorem mem_nums {s : Runs} {n : Int} : n ∈ nums s ↔ mem s n := by
  unfold nums mem
  rw [List.mem_flatMap]
  constructor
  · rintro ⟨r, hr, h⟩; exact ⟨r, hr, mem_upTo.1 h⟩
  · rintro ⟨r, hr, h⟩; exact ⟨r, hr, mem_upTo.2 h⟩

/-- A family's pairs, all of them. -/
def unitPairs (u : Int) (s : Runs) : List (Int × Int) := (nums s).map fun i => (VCal.ufirst u i, VCal.ulast u i)
def spanPairs (a b : Runs) : List (Int × Int) := (nums a).flatMap fun s => b.flatMap fun r => (upTo (max r.1 s) r.2).map fun t => (s, t)

def famPairs : Family → List (Int × Int)
  | none => []
  | some (.inl (u, s)) => unitPairs u s
  | some (.inr (a, b)) => spanPairs a b

/-- The first pairs. -/
def pairsF (f : Leaf) (n : Int) : List (Int × Int) := (famPairs (ofF f)).take (min n 1000).toNat

/-- A list that is being filled from another one, up to a length: 'rest' is what is still to come. -/
def Fill (all : List (Int × Int)) (n : Int) (out rest : List (Int × Int)) : Prop := (out.length : Int) ≤ max n 0 ∧ ∃ q, all = out ++ q ∧ ((out.length : Int) < n → q = rest)

theorem Fill.done {all out : List (Int × Int)} {n : Int} (h : Fill all n out []) : out = all.take n.toNat := by
  obtain ⟨h1, q, h2, h3⟩ := h
  by_cases hl : (out.length : Int) < n
  · have := h3 hl
    subst this
    rw [h2, List.append_nil, List.take_of_length_le (by omega)]
  · rw [h2, List.take_append_of_le_length (by omega), List.take_of_length_le (by omega)]

theorem Fill.step {all out rest : List (Int × Int)} {n : Int} {p : Int × Int} (h : Fill all n out (p :: rest)) (hl : (out.length : Int) < n) : Fill all n (out ++ [p]) rest := by
  obtain ⟨h1, q, h2, h3⟩ := h
  have := h3 hl
  subst this
  exact ⟨by simp; omega, rest, by rw [h2]; simp, fun _ => rfl⟩

theorem Fill.full {all out rest rest' : List (Int × Int)} {n : Int} (h : Fill all n out rest) (hl : ¬ (out.length : Int) < n) : Fill all n out rest' := by
  obtain ⟨h1, q, h2, h3⟩ := h
  exact ⟨h1, q, h2, fun k => absurd k hl⟩

theorem Fill.start {all : List (Int × Int)} {n : Int} : Fill all n [] all := ⟨by simp; omega, all, rfl, fun _ => rfl⟩

def CoversF (f : Leaf) (d : Int) : Prop := match ofF f with
  | none => False
  | some (.inl (u, s)) => ∃ i, VCal.uof u d = some i ∧ mem s i
  | some (.inr (a, b)) => loF a ≤ d ∧ d ≤ hiF b

/-- What a leaf that may be has. -/
theorem has_span {f : Leaf} {p : Int × Int} (h : LeafSane f) (hs : f.1 = true) : HasF f p ↔ (p.1 ≤ p.2 ∧ mem f.2.2.1 p.1 ∧ mem f.2.2.2 p.2) := by
  have h' := h
  unfold LeafSane at h'
  rw [if_pos hs] at h'
  obtain ⟨_, ha, hb⟩ := h'
  unfold HasF ofF
  by_cases ea : f.2.2.1 = []
  · rw [if_pos (.inr ea), ea]
    exact ⟨False.elim, fun q => (mem_nil q.2.1).elim⟩
  · rw [if_neg (by simp [h, ea]), if_neg (by simp [hs])]
    by_cases eb : f.2.2.2 = []
    · rw [if_pos (.inl eb), eb]
      exact ⟨False.elim, fun q => (mem_nil q.2.2).elim⟩
    · by_cases el : hiF f.2.2.2 < loF f.2.2.1
      · rw [if_pos (.inr el)]
        refine ⟨False.elim, fun ⟨q1, q2, q3⟩ => ?_⟩
        have := mem_between ha.1 q2
        have := mem_between hb.1 q3
        omega
      · rw [if_neg (by simp [eb, el])]
        dsimp only
        rw [mem_clip, mem_clip]
        constructor
        · rintro ⟨q1, q2, q3⟩; exact ⟨q1, q2.1, q3.1⟩
        · rintro ⟨q1, q2, q3⟩
          have := mem_between ha.1 q2
          have := mem_between hb.1 q3
          have := Within.bounds ha q2
          have := Within.bounds hb q3
          exact ⟨q1, ⟨q2, by omega, by omega⟩, ⟨q3, by omega, by omega⟩⟩

theorem has_units {f : Leaf} {p : Int × Int} (h : LeafSane f) (hs : f.1 = false) : HasF f p ↔ ∃ i, VCal.uof f.2.1 p.1 = some i ∧ mem f.2.2.1 i ∧ p = (VCal.ufirst f.2.1 i, VCal.ulast f.2.1 i) := by
  unfold HasF ofF
  by_cases ea : f.2.2.1 = []
  · rw [if_pos (.inr ea), ea]
    exact ⟨False.elim, fun ⟨i, _, q, _⟩ => (mem_nil q).elim⟩
  · rw [if_neg (by simp [h, ea]), if_pos hs]
end Go.Proofs.YtjeoelajkncpcaaDoor.V
