/- What two sets have in common; leaves: what the program's functions answer. No condition of its own. -/
import Derived.Test.YtjeoelajkncpcaaDoorC3
namespace Go.Proofs.YtjeoelajkncpcaaDoor.V
open Go
set_option linter.unusedVariables false

theorem meet_step1 {x y : Int × Int} {A B : Runs} {a b : Int} (hA : SaneFrom a (x :: A)) (hB : SaneFrom b (y :: B)) (h : x.2 < y.2) (n : Int) : (mem (x :: A) n ∧ mem (y :: B) n) ↔ ((x.1 ≤ n ∧ n ≤ x.2) ∧ (y.1 ≤ n ∧ n ≤ y.2)) ∨ (mem A n ∧ mem (y :: B) n) := by
  constructor
  · rintro ⟨h1, h2⟩
    rcases mem_cons.1 h1 with p | p
    · rcases mem_cons.1 h2 with q | q
      · exact .inl ⟨p, q⟩
      · have := SaneFrom.mem_gt hB.2.2.2 q; omega
    · exact .inr ⟨p, h2⟩
  · rintro (⟨p, q⟩ | ⟨p, q⟩)
    · exact ⟨mem_cons.2 (.inl p), mem_cons.2 (.inl q)⟩
    · exact ⟨mem_cons.2 (.inr p), q⟩

theorem meet_step2 {x y : Int × Int} {A B : Runs} {a b : Int} (hA : SaneFrom a (x :: A)) (hB : SaneFrom b (y :: B)) (h : ¬ x.2 < y.2) (n : Int) : (mem (x :: A) n ∧ mem (y :: B) n) ↔ ((x.1 ≤ n ∧ n ≤ x.2) ∧ (y.1 ≤ n ∧ n ≤ y.2)) ∨ (mem (x :: A) n ∧ mem B n) := by
  constructor
  · rintro ⟨h1, h2⟩
    rcases mem_cons.1 h2 with q | q
    · rcases mem_cons.1 h1 with p | p
      · exact .inl ⟨p, q⟩
      · have := SaneFrom.mem_gt hA.2.2.2 p; omega
    · exact .inr ⟨h1, q⟩
  · rintro (⟨p, q⟩ | ⟨p, q⟩)
    · exact ⟨mem_cons.2 (.inl p), mem_cons.2 (.inl q)⟩
    · exact ⟨p, mem_cons.2 (.inr q)⟩

/-- What two sets have in common. -/
def MeetR (a b out : Runs) : Prop := Sane out ∧ out.length ≤ a.length + b.length ∧ ∀ n, mem out n ↔ mem a n ∧ mem b n

theorem SaneFrom.drop : ∀ {s : Runs} {a : Int} (k : Nat), SaneFrom a s → ∃ b, SaneFrom b (s.drop k)
  | s, a, 0, h => ⟨a, h⟩
  | [], a, k + 1, h => ⟨a, trivial⟩
  | x :: s, a, k + 1, h => SaneFrom.drop k h.2.2.2

theorem ok_sets_Meet {a b : Runs} (hla : a.length ≤ 1000000000) (hlb : b.length ≤ 1000000000) (ha : Sane a) (hb : Sane b) : FnE bs n_sets_Meet ((Shape.pair (.slice sRun) (.slice sRun)).compsE (a, b)) (.slice sRun) (MeetR a b) := by
  refine ok_of (e_sets_Meet (a, b) _) rfl ?_
  unfold c_sets_Meet
  refine callP_eq (ok_sets_known hla ha) (callP_eq (ok_sets_known hlb hb) ?_)
  refine loopP_of (fun z : Unit × Int × Int × Runs => ∃ i k : Nat, z.2.1 = i ∧ z.2.2.1 = k ∧ i ≤ a.length ∧ k ≤ b.length ∧ z.2.2.2.length ≤ i + k ∧ Sane z.2.2.2 ∧
      (∀ n, (mem a n ∧ mem b n) ↔ mem z.2.2.2 n ∨ (mem (a.drop i) n ∧ mem (b.drop k) n)) ∧ (∀ q ∈ z.2.2.2, ∀ x ∈ a.drop i, ∀ y ∈ b.drop k, q.2 + 2 ≤ max x.1 y.1))
    (fun z => a.length - z.2.1.toNat + (b.length - z.2.2.1.toNat)) ?_ ⟨0, 0, rfl, rfl, Nat.zero_le _, Nat.zero_le _, Nat.le_refl _, trivial, fun n => ⟨fun h => .inr (by simpa using h), fun h => h.elim (fun q => (mem_nil q).elim) fun q => by simpa using q⟩, fun q hq => by cases hq⟩
  intro z A ⟨i, k, e1, e2, hi, hk, hlen, hs, hm, hap⟩ back
  obtain ⟨u, zi, zk, out⟩ := z
  dsimp only at *
  subst e1; subst e2
  have fin : (¬ (i < a.length) ∨ ¬ (k < b.length)) → MeetR a b out := fun h => ⟨hs, by omega, fun n => by
    rw [hm n]
    constructor
    · exact .inl
    · rintro (q | ⟨q1, q2⟩)
      · exact q
      · rcases h with h | h
        · rw [List.drop_eq_nil_of_le (by omega)] at q1; exact (mem_nil q1).elim
        · rw [List.drop_eq_nil_of_le (by omega)] at q2; exact (mem_nil q2).elim⟩
  refine cond_dec (fun h1 => cond_dec (fun h2 => ?_) fun h2 => fin (.inr (by dsimp only [Shape.Val] at *; omega))) fun h1 => fin (.inl (by dsimp only [Shape.Val] at *; omega))
  dsimp only [Shape.Val] at h1 h2
  have hi' : i < a.length := by omega
  have hk' : k < b.length := by omega
  have hga := List.getElem?_eq_getElem hi'
  have hgb := List.getElem?_eq_getElem hk'
  generalize a[i] = x at hga
  generalize b[k] = y at hgb
  have ea := drop_cons hga
  have eb := drop_cons hgb
  obtain ⟨ca, hca⟩ := SaneFrom.drop i ha
  obtain ⟨cb, hcb⟩ := SaneFrom.drop k hb
  rw [ea] at hca
  rw [eb] at hcb
  have bx := Sane.bounds ha x (List.mem_of_getElem? hga)
  have by' := Sane.bounds hb y (List.mem_of_getElem? hgb)
  rw [toNat_ofNat, toNat_ofNat, rd_of (s := sRun) hga, rd_of (s := sRun) hgb]
  have hmax : maxI x.1 y.1 = max x.1 y.1 := by unfold maxI; split <;> omega
  have hmin : minI x.2 y.2 = min x.2 y.2 := by unfold minI; split <;> omega
  rw [hmax, hmin, w64_of (n := (i : Int) + 1) (by omega), w64_of (n := (k : Int) + 1) (by omega)]
  rw [ea, eb] at hm hap
  -- the next state
  have next1 : ∀ out' : Runs, x.2 < y.2 → out'.length ≤ i + k + 1 → Sane out' → (∀ n, mem out' n ↔ mem out n ∨ ((x.1 ≤ n ∧ n ≤ x.2) ∧ (y.1 ≤ n ∧ n ≤ y.2))) → (∀ q ∈ out', q ∈ out ∨ q.2 ≤ x.2) → A ((), (i : Int) + 1, (k : Int), out') := by
    intro out' hlt hl' hs' hm' hq'
    refine back ((), (i : Int) + 1, (k : Int), out') ⟨i + 1, k, by simp, rfl, hi', hk, by dsimp only; omega, hs', fun n => ?_, fun q hq p hp r hr => ?_⟩ (by dsimp only; omega)
    · dsimp only
      rw [hm n, meet_step1 hca hcb hlt n, hm' n, eb]
      constructor
      · rintro (h | h | h)
        · exact .inl (.inl h)
        · exact .inl (.inr h)
        · exact .inr h
      · rintro ((h | h) | h)
        · exact .inl h
        · exact .inr (.inl h)
        · exact .inr (.inr h)
    · dsimp only at hq hp hr
      rw [eb] at hr
      rcases hq' q hq with h | h
      · exact hap q h p (List.mem_cons_of_mem _ hp) r hr
      · have := (SaneFrom.lt hca.2.2.2 p hp).1
        omega
  have next2 : ∀ out' : Runs, ¬ x.2 < y.2 → out'.length ≤ i + k + 1 → Sane out' → (∀ n, mem out' n ↔ mem out n ∨ ((x.1 ≤ n ∧ n ≤ x.2) ∧ (y.1 ≤ n ∧ n ≤ y.2))) → (∀ q ∈ out', q ∈ out ∨ q.2 ≤ y.2) → A ((), (i : Int), (k : Int) + 1, out') := by
    intro out' hlt hl' hs' hm' hq'
    refine back ((), (i : Int), (k : Int) + 1, out') ⟨i, k + 1, rfl, by simp, hi, hk', by dsimp only; omega, hs', fun n => ?_, fun q hq p hp r hr => ?_⟩ (by dsimp only; omega)
    · dsimp only
      rw [hm n, meet_step2 hca hcb hlt n, hm' n, ea]
      constructor
      · rintro (h | h | h)
        · exact .inl (.inl h)
        · exact .inl (.inr h)
        · exact .inr h
      · rintro ((h | h) | h)
        · exact .inl h
        · exact .inr (.inl h)
        · exact .inr (.inr h)
    · dsimp only at hq hp hr
      rw [ea] at hp
      rcases hq' q hq with h | h
      · exact hap q h p hp r (List.mem_cons_of_mem _ hr)
      · have := (SaneFrom.lt hcb.2.2.2 r hr).1
        omega
  refine ⟨⟨by omega, h1⟩, ⟨by omega, h2⟩, ⟨by omega, h1⟩, ⟨by omega, h2⟩, ?_⟩
  refine cond_dec (fun h3 => ⟨?_, ⟨by omega, h1⟩, ⟨by omega, h2⟩, ?_⟩) fun h3 => ⟨⟨by omega, h1⟩, ⟨by omega, h2⟩, ?_⟩
  · simp only [List.length_cons, List.length_nil]
    omega
  · have hs' : Sane (out ++ [(max x.1 y.1, min x.2 y.2)]) := SaneFrom.append hs h3 (by dsimp only; omega) (by dsimp only; unfold Lim at *; omega) fun q hq => hap q hq x (List.mem_cons_self ..) y (List.mem_cons_self ..)
    have hm' : ∀ n, mem (out ++ [(max x.1 y.1, min x.2 y.2)]) n ↔ mem out n ∨ ((x.1 ≤ n ∧ n ≤ x.2) ∧ (y.1 ≤ n ∧ n ≤ y.2)) := fun n => by
      rw [mem_append, mem_cons]
      constructor
      · rintro (h | h | h)
        · exact .inl h
        · exact .inr (by dsimp only at h; omega)
        · exact (mem_nil h).elim
      · rintro (h | h)
        · exact .inl h
        · exact .inr (.inl (by dsimp only; omega))
    have hq' : ∀ q ∈ out ++ [(max x.1 y.1, min x.2 y.2)], q ∈ out ∨ (q.2 ≤ x.2 ∧ q.2 ≤ y.2) := fun q hq => by
      rcases List.mem_append.1 hq with h | h
      · exact .inl h
      · rw [List.mem_singleton] at h; subst h; exact .inr (by dsimp only; omega)
    have hl' : (out ++ [(max x.1 y.1, min x.2 y.2)]).length ≤ i + k + 1 := by simp; omega
    exact cond_dec (fun h4 => next1 _ h4 hl' hs' hm' fun q hq => (hq' q hq).imp id (·.1)) fun h4 => next2 _ h4 hl' hs' hm' fun q hq => (hq' q hq).imp id (·.2)
  · have hm' : ∀ n, mem out n ↔ mem out n ∨ ((x.1 ≤ n ∧ n ≤ x.2) ∧ (y.1 ≤ n ∧ n ≤ y.2)) := fun n => ⟨.inl, fun h => h.elim id fun q => by omega⟩
    exact cond_dec (fun h4 => next1 _ h4 (by omega) hs hm' fun q hq => .inl hq) fun h4 => next2 _ h4 (by omega) hs hm' fun q hq => .inl hq
end Go.Proofs.YtjeoelajkncpcaaDoor.V
