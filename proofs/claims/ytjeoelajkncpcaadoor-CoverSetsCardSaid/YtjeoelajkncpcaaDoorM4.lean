/- The calculus of the program's functions and their contracts, part 4. No condition of its own. -/
import Derived.Test.YtjeoelajkncpcaaDoorM3

/- The set of what is in some runs: plain facts. No program in sight. -/
namespace Go.Proofs.YtjeoelajkncpcaaDoor.V
set_option linter.unusedVariables false
set_option linter.unusedSimpArgs false

/-- A run, laid into a set. -/
def putS : Runs → Int × Int → Runs
  | [], x => [x]
  | r :: s, x => if r.2 + 1 < x.1 then r :: putS s x else if x.2 + 1 < r.1 then x :: r :: s else putS s (min x.1 r.1, max x.2 r.2)

def clampR (r : Int × Int) : Int × Int := (max r.1 (-Lim), min r.2 Lim)

def putF (s : Runs) (r : Int × Int) : Runs := if (clampR r).1 ≤ (clampR r).2 then putS s (clampR r) else s

/-- The set of what is in some runs. -/
def makeF (l : Runs) : Runs := l.foldl putF []

/-- In some run, within the bounds. -/
def memL (l : Runs) (n : Int) : Prop := -Lim ≤ n ∧ n ≤ Lim ∧ mem l n

theorem putS_mem : ∀ {s : Runs} {a : Int} {x : Int × Int}, SaneFrom a s → x.1 ≤ x.2 → ∀ n, mem (putS s x) n ↔ (x.1 ≤ n ∧ n ≤ x.2) ∨ mem s n
  | [], a, x, _, _, n => mem_cons
  | r :: s, a, x, h, hx, n => by
    unfold putS
    have h1 := h.1
    split
    · rw [mem_cons, putS_mem h.2.2.2 hx n, mem_cons]
      constructor
      · rintro (q | q | q)
        · exact .inr (.inl q)
        · exact .inl q
        · exact .inr (.inr q)
      · rintro (q | q | q)
        · exact .inr (.inl q)
        · exact .inl q
        · exact .inr (.inr q)
    · split
      · exact mem_cons
      · rw [putS_mem h.2.2.2 (by dsimp only; omega) n, mem_cons]
        dsimp only
        constructor
        · rintro (q | q)
          · by_cases e : x.1 ≤ n ∧ n ≤ x.2
            · exact .inl e
            · exact .inr (.inl (by omega))
          · exact .inr (.inr q)
        · rintro (q | q | q)
          · exact .inl (by omega)
          · exact .inl (by omega)
          · exact .inr q

theorem putS_sane : ∀ {s : Runs} {a : Int} {x : Int × Int}, SaneFrom a s → x.1 ≤ x.2 → a + 2 ≤ x.1 → x.2 ≤ Lim → SaneFrom a (putS s x)
  | [], a, x, _, h1, h2, h3 => ⟨h1, h2, h3, trivial⟩
  | r :: s, a, x, h, h1, h2, h3 => by
    unfold putS
    have q1 := h.1
    have q2 := h.2.1
    have q3 := h.2.2.1
    split
    · exact ⟨q1, q2, q3, putS_sane h.2.2.2 h1 (by omega) h3⟩
    · split
      · exact ⟨h1, h2, h3, q1, by omega, q3, h.2.2.2⟩
      · exact putS_sane (h.2.2.2.mono (by omega)) (by dsimp only; omega) (by dsimp only; omega) (by dsimp only; omega)

theorem putS_length : ∀ (s : Runs) (x : Int × Int), (putS s x).length ≤ s.length + 1
  | [], x => Nat.le_refl _
  | r :: s, x => by
    unfold putS
    split
    · have := putS_length s x; simp only [List.length_cons]; omega
    · split
      · simp
      · have := putS_length s (min x.1 r.1, max x.2 r.2); simp only [List.length_cons]; omega

theorem clamp_in {r : Int × Int} {n : Int} : (clampR r).1 ≤ n ∧ n ≤ (clampR r).2 ↔ -Lim ≤ n ∧ n ≤ Lim ∧ r.1 ≤ n ∧ n ≤ r.2 := by
  unfold clampR Lim
  dsimp only
  omega

theorem putF_spec {s : Runs} {r : Int × Int} (h : Sane s) : Sane (putF s r) ∧ ∀ n, mem (putF s r) n ↔ mem s n ∨ memL [r] n := by
  have hr : ∀ n, memL [r] n ↔ (clampR r).1 ≤ n ∧ n ≤ (clampR r).2 := fun n => by
    rw [clamp_in]
    unfold memL
    rw [mem_cons]
    constructor
    · rintro ⟨h1, h2, h3 | h3⟩
      · exact ⟨h1, h2, h3⟩
      · exact (mem_nil h3).elim
    · rintro ⟨h1, h2, h3⟩
      exact ⟨h1, h2, .inl h3⟩
  unfold putF
  split
  · rename_i hc
    refine ⟨putS_sane h hc (by unfold clampR Lim; dsimp only; omega) (by unfold clampR Lim; dsimp only; omega), fun n => ?_⟩
    rw [putS_mem h hc n, hr n]
    exact Or.comm
  · rename_i hc
    refine ⟨h, fun n => ⟨.inl, fun q => q.elim id fun q => ?_⟩⟩
    have := (hr n).1 q
    omega

theorem foldl_put : ∀ (l : Runs) {s : Runs}, Sane s → Sane (l.foldl putF s) ∧ ∀ n, mem (l.foldl putF s) n ↔ mem s n ∨ memL l n
  | [], s, h => ⟨h, fun n => ⟨.inl, fun q => q.elim id fun q => (mem_nil q.2.2).elim⟩⟩
  | r :: l, s, h => by
    have h1 := putF_spec (r := r) h
    have h2 := foldl_put l h1.1
    refine ⟨h2.1, fun n => ?_⟩
    rw [List.foldl_cons, h2.2 n, h1.2 n]
    unfold memL
    rw [mem_cons, mem_cons]
    constructor
    · rintro ((q | ⟨q1, q2, q3⟩) | ⟨q1, q2, q3⟩)
      · exact .inl q
      · exact .inr ⟨q1, q2, q3.imp id fun q => (mem_nil q).elim⟩
      · exact .inr ⟨q1, q2, .inr q3⟩
    · rintro (q | ⟨q1, q2, q3 | q3⟩)
      · exact .inl (.inl q)
      · exact .inl (.inr ⟨q1, q2, .inl q3⟩)
      · exact .inr ⟨q1, q2, q3⟩

theorem sane_nil' : Sane [] := trivial
theorem make_sane (l : Runs) : Sane (makeF l) := (foldl_put l sane_nil').1

theorem mem_make {l : Runs} {n : Int} : mem (makeF l) n ↔ memL l n := by
  unfold makeF
  rw [(foldl_put l (s := []) sane_nil').2 n]
  exact ⟨fun h => h.elim (fun q => (mem_nil q).elim) id, .inr⟩

theorem make_of {l s : Runs} (h : Sane s) (k : ∀ n, mem s n ↔ memL l n) : s = makeF l := sane_ext h (make_sane l) fun n => by rw [k n, mem_make]

theorem mem_lim {s : Runs} (h : Sane s) {n : Int} (k : mem s n) : -Lim ≤ n ∧ n ≤ Lim := by
  obtain ⟨r, hr, h1, h2⟩ := k
  have := Sane.bounds h r hr
  omega

theorem make_self {s : Runs} (h : Sane s) : makeF s = s := (make_of h fun n => ⟨fun q => ⟨(mem_lim h q).1, (mem_lim h q).2, q⟩, fun q => q.2.2⟩).symm

theorem foldl_length : ∀ (l : Runs) (s : Runs), (l.foldl putF s).length ≤ s.length + l.length
  | [], s => by simp
  | r :: l, s => by
    have := foldl_length l (putF s r)
    have h : (putF s r).length ≤ s.length + 1 := by
      unfold putF
      split
      · exact putS_length _ _
      · omega
    simp only [List.foldl_cons, List.length_cons]
    omega

theorem make_length (l : Runs) : (makeF l).length ≤ l.length := by
  have := foldl_length l []
  unfold makeF
  simpa using this

/-! ### Runs in the order of where they begin, one after the other -/

theorem sane_last : ∀ {f : Runs} {a : Int} {q v : Int × Int}, SaneFrom a (f ++ [q]) → v.1 = q.1 → v.1 ≤ v.2 → v.2 ≤ Lim → SaneFrom a (f ++ [v])
  | [], a, q, v, h, h1, h2, h3 => ⟨h2, by rw [h1]; exact h.2.1, h3, trivial⟩
  | x :: f, a, q, v, h, h1, h2, h3 => ⟨h.1, h.2.1, h.2.2.1, sane_last h.2.2.2 h1 h2 h3⟩

theorem set_last (f : Runs) (q v : Int × Int) : (f ++ [q]).set f.length v = f ++ [v] := by
  rw [List.set_append_right _ _ (Nat.le_refl _)]
  simp
end Go.Proofs.YtjeoelajkncpcaaDoor.V

