/- Sets of whole numbers as runs: plain facts. No program in sight. -/
import Derived.RowKit
namespace Go.Proofs.YtjeoelajkncpcaaDoor.V
set_option linter.unusedVariables false

abbrev Lim : Int := 1099511627776
abbrev Runs := List (Int × Int)

/-- A number is in one of the runs. -/
def mem (s : Runs) (n : Int) : Prop := ∃ r ∈ s, r.1 ≤ n ∧ n ≤ r.2

instance (s : Runs) (n : Int) : Decidable (mem s n) := inferInstanceAs (Decidable (∃ r ∈ s, r.1 ≤ n ∧ n ≤ r.2))

def SaneFrom : Int → Runs → Prop
  | _, [] => True
  | last, r :: s => r.1 ≤ r.2 ∧ last + 2 ≤ r.1 ∧ r.2 ≤ Lim ∧ SaneFrom r.2 s

def decSane : (last : Int) → (s : Runs) → Decidable (SaneFrom last s)
  | _, [] => isTrue trivial
  | last, r :: s => match decSane r.2 s with
    | isTrue h => if h1 : r.1 ≤ r.2 ∧ last + 2 ≤ r.1 ∧ r.2 ≤ Lim then isTrue ⟨h1.1, h1.2.1, h1.2.2, h⟩ else isFalse fun k => h1 ⟨k.1, k.2.1, k.2.2.1⟩
    | isFalse h => isFalse fun k => h k.2.2.2

instance (last : Int) (s : Runs) : Decidable (SaneFrom last s) := decSane last s

/-- Is it a set? -/
def Sane (s : Runs) : Prop := SaneFrom (-1099511627778) s
instance (s : Runs) : Decidable (Sane s) := inferInstanceAs (Decidable (SaneFrom _ s))

theorem SaneFrom.mono : ∀ {s : Runs} {a b : Int}, SaneFrom a s → b ≤ a → SaneFrom b s
  | [], _, _, _, _ => trivial
  | r :: s, a, b, h, k => ⟨h.1, by have := h.2.1; omega, h.2.2.1, h.2.2.2⟩

theorem SaneFrom.lt : ∀ {s : Runs} {a : Int}, SaneFrom a s → ∀ r ∈ s, a + 2 ≤ r.1 ∧ r.1 ≤ r.2 ∧ r.2 ≤ Lim
  | [], _, _, r, hr => by cases hr
  | q :: s, a, h, r, hr => by
    rcases List.mem_cons.1 hr with e | e
    · subst e; exact ⟨h.2.1, h.1, h.2.2.1⟩
    · have := SaneFrom.lt h.2.2.2 r e
      have := h.1; have := h.2.1
      omega

theorem Sane.bounds {s : Runs} (h : Sane s) : ∀ r ∈ s, -Lim ≤ r.1 ∧ r.1 ≤ r.2 ∧ r.2 ≤ Lim := fun r hr => by
  have := SaneFrom.lt h r hr
  unfold Lim at *
  omega

theorem SaneFrom.get : ∀ {s : Runs} {a : Int}, SaneFrom a s → ∀ (i j : Nat) (r q : Int × Int), s[i]? = some r → s[j]? = some q → i < j → r.2 + 2 ≤ q.1
  | [], _, _, i, _, _, _, hi, _, _ => by simp at hi
  | x :: s, a, h, 0, j + 1, r, q, hi, hj, _ => by
    simp at hi hj
    subst hi
    exact (SaneFrom.lt h.2.2.2 q (List.mem_of_getElem? hj)).1
  | x :: s, a, h, i + 1, j + 1, r, q, hi, hj, hl => SaneFrom.get h.2.2.2 i j r q (by simpa using hi) (by simpa using hj) (by omega)
  | x :: s, a, h, i, 0, r, q, hi, hj, hl => by omega

theorem SaneFrom.mem_gt {s : Runs} {a n : Int} (h : SaneFrom a s) (k : mem s n) : a + 2 ≤ n := by
  obtain ⟨r, hr, h1, h2⟩ := k
  have := SaneFrom.lt h r hr
  omega

theorem mem_nil {n : Int} : ¬ mem [] n := fun ⟨r, hr, _⟩ => by cases hr
theorem mem_cons {r : Int × Int} {s : Runs} {n : Int} : mem (r :: s) n ↔ (r.1 ≤ n ∧ n ≤ r.2) ∨ mem s n := by
  constructor
  · rintro ⟨q, hq, h⟩
    rcases List.mem_cons.1 hq with e | e
    · subst e; exact .inl h
    · exact .inr ⟨q, e, h⟩
  · rintro (h | ⟨q, hq, h⟩)
    · exact ⟨r, List.mem_cons_self .., h⟩
    · exact ⟨q, List.mem_cons_of_mem _ hq, h⟩
theorem mem_append {s t : Runs} {n : Int} : mem (s ++ t) n ↔ mem s n ∨ mem t n := by
  constructor
  · rintro ⟨q, hq, h⟩
    rcases List.mem_append.1 hq with e | e
    · exact .inl ⟨q, e, h⟩
    · exact .inr ⟨q, e, h⟩
  · rintro (⟨q, hq, h⟩ | ⟨q, hq, h⟩)
    · exact ⟨q, List.mem_append_left _ hq, h⟩
    · exact ⟨q, List.mem_append_right _ hq, h⟩

/-- Two sets with the same members are one. -/
theorem sane_ext : ∀ {s t : Runs} {a b : Int}, SaneFrom a s → SaneFrom b t → (∀ n, mem s n ↔ mem t n) → s = t
  | [], [], _, _, _, _, _ => rfl
  | [], r :: t, _, _, _, h, k => (mem_nil ((k r.1).2 (mem_cons.2 (.inl ⟨Int.le_refl _, h.1⟩)))).elim
  | r :: s, [], _, _, h, _, k => (mem_nil ((k r.1).1 (mem_cons.2 (.inl ⟨Int.le_refl _, h.1⟩)))).elim
  | r :: s, q :: t, a, b, h, h', k => by
    have hs := fun n (hn : mem s n) => SaneFrom.mem_gt h.2.2.2 hn
    have ht := fun n (hn : mem t n) => SaneFrom.mem_gt h'.2.2.2 hn
    have hr := h.1
    have hq := h'.1
    have e1 : r.1 = q.1 := by
      rcases mem_cons.1 ((k r.1).1 (mem_cons.2 (.inl ⟨Int.le_refl _, hr⟩))) with x | x
      · rcases mem_cons.1 ((k q.1).2 (mem_cons.2 (.inl ⟨Int.le_refl _, hq⟩))) with y | y
        · omega
        · have := hs _ y; omega
      · have := ht _ x
        rcases mem_cons.1 ((k q.1).2 (mem_cons.2 (.inl ⟨Int.le_refl _, hq⟩))) with y | y
        · omega
        · have := hs _ y; omega
    have e2 : r.2 = q.2 := by
      have a1 : ¬ r.2 < q.2 := fun hl => by
        rcases mem_cons.1 ((k (r.2 + 1)).2 (mem_cons.2 (.inl ⟨by omega, by omega⟩))) with x | x
        · omega
        · have := hs _ x; omega
      have a2 : ¬ q.2 < r.2 := fun hl => by
        rcases mem_cons.1 ((k (q.2 + 1)).1 (mem_cons.2 (.inl ⟨by omega, by omega⟩))) with x | x
        · omega
        · have := ht _ x; omega
      omega
    have e : r = q := Prod.ext e1 e2
    subst e
    refine congrArg (r :: ·) (sane_ext h.2.2.2 h'.2.2.2 fun n => ?_)
    constructor
    · intro hn
      rcases mem_cons.1 ((k n).1 (mem_cons.2 (.inr hn))) with x | x
      · have := hs _ hn; omega
      · exact x
    · intro hn
      rcases mem_cons.1 ((k n).2 (mem_cons.2 (.inr hn))) with x | x
      · have := ht _ hn; omega
      · exact x

theorem SaneFrom.append : ∀ {s : Runs} {a : Int} {r : Int × Int}, SaneFrom a s → r.1 ≤ r.2 → r.2 ≤ Lim → a + 2 ≤ r.1 → (∀ q ∈ s, q.2 + 2 ≤ r.1) → SaneFrom a (s ++ [r])
  | [], a, r, _, h1, h2, h3, _ => ⟨h1, h3, h2, trivial⟩
  | x :: s, a, r, h, h1, h2, h3, h4 => ⟨h.1, h.2.1, h.2.2.1, SaneFrom.append h.2.2.2 h1 h2 (h4 x (List.mem_cons_self ..)) fun q hq => h4 q (List.mem_cons_of_mem _ hq)⟩
end Go.Proofs.YtjeoelajkncpcaaDoor.V
