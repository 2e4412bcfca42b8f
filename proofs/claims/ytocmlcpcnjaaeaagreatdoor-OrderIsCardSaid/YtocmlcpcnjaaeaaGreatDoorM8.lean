/- The calculus of the program's functions and their contracts, part 8. No condition of its own. -/
import Derived.Test.YtocmlcpcnjaaeaaGreatDoorM7
import Derived.RangeFuncBound
import Derived.RangeFuncCalls
import Derived.Shelf.Abstract
import Derived.Shelf.RegionOpen
import Derived.WalkKit
import Derived.OwnWalkIn
import Derived.TacticsInMore
import Derived.LoopNIn
import Derived.LoopIn
import Derived.Shelf.Spec.SlicesGrow


/- Sets as runs, of whatever runs: what the program's functions answer. No condition of its own. -/
namespace Go.Proofs.YtocmlcpcnjaaeaaGreatDoor.V
open Go
set_option linter.unusedVariables false
set_option linter.unusedSimpArgs false

theorem ok_runs_order_compare {x : PR × PR} : FnE bs n_runs_order_compare ((Shape.pair sRunsOrder (.pair sRun sRun)).compsE (false, x)) (.int .i64) (· = cmpS x.1.1 x.2.1) := by
  refine ok_of (e_runs_order_compare (false, x) _) rfl ?_
  unfold c_runs_order_compare
  exact cond_no rfl (callP_eq ok_cmp_Compare rfl)

theorem ky_get {xs : List PR} {k : Nat} {r : PR} (h : xs[k]? = some r) : ky xs k = r.1 := by
  unfold ky el
  rw [List.getD_eq_getElem?_getD, h]
  rfl

theorem max_max (a b : Int) : maxI a b = max a b := by unfold maxI; split <;> omega
theorem min_min (a b : Int) : minI a b = min a b := by unfold minI; split <;> omega

/-- Runs that are clamped, the empty ones left out. -/
def clampO (r : PR) : Option PR := if (clampR r).1 ≤ (clampR r).2 then some (clampR r) else none

theorem clampO_mem {l : Runs} {n : Int} : mem (l.filterMap clampO) n ↔ memL l n := by
  unfold memL mem
  constructor
  · rintro ⟨q, hq, h1, h2⟩
    obtain ⟨r, hr, e⟩ := List.mem_filterMap.1 hq
    unfold clampO at e
    split at e
    · cases e
      have := clamp_in.1 ⟨h1, h2⟩
      exact ⟨this.1, this.2.1, r, hr, this.2.2⟩
    · cases e
  · rintro ⟨h1, h2, r, hr, h3, h4⟩
    have := clamp_in.2 ⟨h1, h2, h3, h4⟩
    exact ⟨clampR r, List.mem_filterMap.2 ⟨r, hr, by unfold clampO; rw [if_pos (by omega)]⟩, this.1, this.2⟩

theorem mem_take_succ {s : Runs} {k : Nat} {r : PR} (h : s[k]? = some r) (n : Int) : mem (s.take (k + 1)) n ↔ mem (s.take k) n ∨ (r.1 ≤ n ∧ n ≤ r.2) := by
  rw [List.take_add_one, h, Option.toList_some, mem_append, mem_cons]
  exact ⟨fun q => q.imp id fun q => q.elim id fun q => (mem_nil q).elim, fun q => q.imp id .inl⟩

theorem ok_runs_Make {l : Runs} (hl : l.length < 65536) : FnE bs n_runs_Make ((Shape.slice sRun).compsE l) (.slice sRun) (· = makeF l) := by
  refine ok_han (e_runs_Make l _) rfl (HanOK.ofList [(200, .mut 0)] rfl rfl trivial) ?_
  unfold c_runs_Make
  refine loopP_of (fun z : Unit × Int × Runs => ∃ k : Nat, z.2.1 = k ∧ k ≤ l.length ∧ z.2.2 = (l.take k).filterMap clampO) (fun z => l.length - z.2.1.toNat) ?_ ⟨0, rfl, Nat.zero_le _, rfl⟩
  rintro ⟨u, _, acc⟩ A ⟨k, e1, hk, e2⟩ back
  dsimp only at e1 e2 ⊢
  subst e1
  subst e2
  have hacc : ((l.take k).filterMap clampO).length ≤ k := Nat.le_trans (List.length_filterMap_le _ _) (by rw [List.length_take]; omega)
  refine cond_dec (fun h1 => ⟨⟨by omega, h1⟩, ?_⟩) fun h1 => ?_
  · have h1 : (k : Int) < l.length := h1
    have hk' : k < l.length := by omega
    have hg := List.getElem?_eq_getElem hk'
    generalize l[k] = r at hg
    rw [toNat_ofNat, rd_of (s := sRun) hg, max_max, min_min, w_succ (by omega)]
    have ht : l.take (k + 1) = l.take k ++ [r] := by rw [List.take_add_one, hg]; rfl
    refine cond_dec (fun h2 => ⟨?_, ?_⟩) fun h2 => ?_
    · simp only [List.length_cons, List.length_nil]; omega
    · refine back ((), ((k + 1 : Nat) : Int), _) ⟨k + 1, rfl, hk', ?_⟩ (by dsimp only; omega)
      rw [ht, List.filterMap_append]
      have : clampO r = some (max r.1 (-1099511627776), min r.2 1099511627776) := by unfold clampO; rw [if_pos (show (clampR r).1 ≤ (clampR r).2 from h2)]; rfl
      simp [this]
    · refine back ((), ((k + 1 : Nat) : Int), _) ⟨k + 1, rfl, hk', ?_⟩ (by dsimp only; omega)
      rw [ht, List.filterMap_append]
      have : clampO r = none := by unfold clampO; rw [if_neg (show ¬ (clampR r).1 ≤ (clampR r).2 from h2)]
      simp [this]
  · have hkl : k = l.length := by have h1 : ¬ (k : Int) < l.length := h1; omega
    subst hkl
    rw [List.take_length] at hacc ⊢
    have hmem := fun n => clampO_mem (l := l) (n := n)
    have hbd : ∀ r ∈ l.filterMap clampO, -Lim ≤ r.1 ∧ r.1 ≤ r.2 ∧ r.2 ≤ Lim := fun r hr => by
      obtain ⟨q, hq, e⟩ := List.mem_filterMap.1 hr
      unfold clampO at e
      split at e
      · cases e
        rename_i h
        unfold clampR Lim at *
        dsimp only at *
        omega
      · cases e
    refine ⟨G, ⟨(ok_runs_order_compare (x := ((0, 0), (0, 0)))).1, fun x r hx => by cases hx; exact ok_runs_order_compare⟩, ?_⟩
    generalize l.filterMap clampO = xs at hacc hmem hbd
    refine callMP_of (ok_SortFunc (xs := xs) (by omega)) fun r (ys : Runs) hy => ?_
    have hy : ys.Perm xs ∧ Srt ys 0 xs.length := hy
    have hyl : ys.length = xs.length := hy.1.length_eq
    refine ⟨hyl, ?_⟩
    have hyb : ∀ (j : Nat) r, ys[j]? = some r → -Lim ≤ r.1 ∧ r.1 ≤ r.2 ∧ r.2 ≤ Lim := fun j r hr => hbd r (hy.1.subset (List.mem_of_getElem? hr))
    refine loopP_of (fun z : Unit × Int × Runs => ∃ k : Nat, z.2.1 = k ∧ k ≤ ys.length ∧ z.2.2.length ≤ k ∧ Sane z.2.2 ∧ (∀ n, mem z.2.2 n ↔ mem (ys.take k) n) ∧ ∀ q ∈ z.2.2, ∀ j r, k ≤ j → ys[j]? = some r → q.1 ≤ r.1) (fun z => ys.length - z.2.1.toNat) ?_ ⟨0, rfl, Nat.zero_le _, Nat.zero_le _, sane_nil', fun n => Iff.rfl, fun q hq => by cases hq⟩
    rintro ⟨u, _, out⟩ A2 ⟨k, e1, hk, g1, g2, g3, g4⟩ back2
    dsimp only at e1 g1 g2 g3 g4 ⊢
    subst e1
    refine cond_dec (fun h1 => ⟨⟨by omega, h1⟩, ?_⟩) fun h1 => ?_
    · have h1 : (k : Int) < ys.length := h1
      have hk' : k < ys.length := by omega
      have hg := List.getElem?_eq_getElem hk'
      generalize ys[k] = r at hg
      have hb := hyb k r hg
      rw [toNat_ofNat, rd_of (s := sRun) hg, w_succ (by omega)]
      have hlater : ∀ j q, k + 1 ≤ j → ys[j]? = some q → r.1 ≤ q.1 := fun j q hj hq => by
        have := hy.2 k j (Nat.zero_le _) (by omega) (by have := (List.getElem?_eq_some_iff.1 hq).1; omega)
        rw [ky_get hg, ky_get hq] at this
        exact this
      -- a run of its own
      have own : (∀ q ∈ out, q.2 + 2 ≤ r.1) → chk ((out.length + [(r.1, r.2)].length) * 16 ≤ 140737488355328) (A2 ((), ((k + 1 : Nat) : Int), out ++ [(r.1, r.2)])) := fun h => by
        refine ⟨by simp only [List.length_cons, List.length_nil]; omega, ?_⟩
        refine back2 ((), ((k + 1 : Nat) : Int), out ++ [(r.1, r.2)]) ⟨k + 1, rfl, hk', by simp; omega, SaneFrom.append g2 hb.2.1 hb.2.2 (by unfold Lim at hb; dsimp only; omega) h, fun n => ?_, fun q hq j p hj hp => ?_⟩ (by dsimp only; omega)
        · rw [mem_take_succ hg, mem_append, g3 n, mem_cons]
          exact ⟨fun q => q.imp id fun q => q.elim id fun q => (mem_nil q).elim, fun q => q.imp id .inl⟩
        · rcases List.mem_append.1 hq with hq | hq
          · exact g4 q hq j p (by omega) hp
          · rw [List.mem_singleton] at hq; subst hq; exact hlater j p hj hp
      rcases List.eq_nil_or_concat out with e | ⟨f, q, e⟩
      · subst e
        refine cond_dec (fun h2 => ?_) fun _ => own fun q hq => by cases hq
        exact absurd h2 (by decide)
      · rw [List.concat_eq_append] at e
        subst e
        have hfl : ((f ++ [q]).length : Int) - 1 = (f.length : Int) := by simp
        rw [hfl, w64_of (n := (f.length : Int)) (by simp at g1; omega)]
        have hgl : (f ++ [q])[f.length]? = some q := by simp
        rw [toNat_ofNat, rd_of (s := sRun) hgl, set_last]
        have hq := Sane.bounds g2 q (by simp)
        have hql := g4 q (by simp) k r (Nat.le_refl _) hg
        refine cond_dec (fun h2 => ⟨⟨by omega, by simp; omega⟩, ?_⟩) fun h2 => absurd (show (0 : Int) ≤ f.length by omega) h2
        rw [w64_of (n := q.2 + 1) (by unfold Lim at hq; omega), max_max]
        refine cond_dec (fun h3 => ⟨⟨by omega, by simp; omega⟩, ⟨by omega, by simp; omega⟩, ?_⟩) fun h3 => own fun p hp => ?_
        · have h3 : r.1 ≤ q.2 + 1 := h3
          refine back2 ((), ((k + 1 : Nat) : Int), f ++ [(q.1, max q.2 r.2)]) ⟨k + 1, rfl, hk', by simp at g1 ⊢; omega, sane_last g2 rfl (by dsimp only; omega) (by dsimp only; omega), fun n => ?_, fun p hp j t hj ht => ?_⟩ (by dsimp only; omega)
          · rw [mem_take_succ hg, ← g3 n, mem_append, mem_append, mem_cons, mem_cons]
            dsimp only
            constructor
            · rintro (x | x | x)
              · exact .inl (.inl x)
              · by_cases e : n ≤ q.2
                · exact .inl (.inr (.inl ⟨x.1, e⟩))
                · exact .inr (by omega)
              · exact (mem_nil x).elim
            · rintro ((x | x | x) | x)
              · exact .inl x
              · exact .inr (.inl (by omega))
              · exact (mem_nil x).elim
              · exact .inr (.inl (by omega))
          · rcases List.mem_append.1 hp with hp | hp
            · exact g4 p (by simp [hp]) j t (by omega) ht
            · rw [List.mem_singleton] at hp; subst hp; exact g4 q (by simp) j t (by omega) ht
        · have h3 : ¬ r.1 ≤ q.2 + 1 := h3
          obtain ⟨i, hi⟩ := List.getElem?_of_mem hp
          have hil := (List.getElem?_eq_some_iff.1 hi).1
          by_cases e : i = f.length
          · subst e
            rw [hgl] at hi; cases hi; omega
          · have := SaneFrom.get g2 i f.length p q hi hgl (by simp at hil; omega)
            omega
    · have hkl : k = ys.length := by have h1 : ¬ (k : Int) < ys.length := h1; omega
      subst hkl
      refine make_of g2 fun n => ?_
      rw [g3 n, List.take_length, ← hmem n]
      unfold mem
      exact ⟨fun ⟨q, hq, h⟩ => ⟨q, hy.1.subset hq, h⟩, fun ⟨q, hq, h⟩ => ⟨q, hy.1.symm.subset hq, h⟩⟩

theorem ok_runs_knownA {s : Runs} (hl : s.length < 65536) : FnE bs n_runs_known ((Shape.slice sRun).compsE s) (.slice sRun) (· = makeF s) := by
  refine ok_of (e_runs_known s _) rfl ?_
  unfold c_runs_known
  refine callP_eq (ok_runs_Sane (by omega)) (cond_dec (fun h => (make_self h).symm) fun h => callP_eq (ok_runs_Make hl) rfl)

theorem ok_sets_knownA {s : Runs} (hl : s.length < 65536) : FnE bs n_sets_known ((Shape.slice sRun).compsE s) (.slice sRun) (· = makeF s) := by
  refine ok_of (e_sets_known s _) rfl ?_
  unfold c_sets_known
  refine callP_eq (ok_runs_Sane (by omega)) (cond_dec (fun h => (make_self h).symm) fun h => callP_eq (ok_runs_Make hl) rfl)

section
variable {s a b : Runs} {n lo hi : Int}

theorem ok_sets_MeetA (hla : a.length < 65536) (hlb : b.length < 65536) : FnE bs n_sets_Meet ((Shape.pair (.slice sRun) (.slice sRun)).compsE (a, b)) (.slice sRun) (MeetR (makeF a) (makeF b)) :=
  ok_sets_Meet_gen (ok_sets_knownA hla) (ok_sets_knownA hlb) (by have := make_length a; omega) (by have := make_length b; omega) (make_sane a) (make_sane b)

theorem ok_sets_WideA (hl : s.length < 65536) : FnE bs n_sets_Wide ((Shape.slice sRun).compsE s) .bool (· = decide (400 < (makeF s).length)) := by
  refine ok_of (e_sets_Wide s _) rfl ?_
  unfold c_sets_Wide
  refine callP_eq (ok_sets_knownA hl) (be (decide_eq_decide.2 ?_))
  omega

/-- The greatest number up to one. -/
def PrevR (s : Runs) (n : Int) (r : Int × Bool) : Prop := (r = (0, false) ∧ ∀ m, mem s m → n < m) ∨ (r.2 = true ∧ mem s r.1 ∧ r.1 ≤ n ∧ ∀ m, mem s m → m ≤ n → m ≤ r.1)

theorem ok_runs_PrevA (hl : s.length < 65536) : FnE bs n_runs_Prev ((Shape.pair (.slice sRun) (.int .i64)).compsE (s, n)) (.tup (.pair (.int .i64) .bool)) (PrevR (makeF s) n) := by
  refine ok_of (e_runs_Prev (s, n) _) rfl ?_
  unfold c_runs_Prev
  have hml := make_length s
  have h := make_sane s
  refine callP_eq (ok_runs_knownA hl) (callP_of (ok_runs_at (s := makeF s) (by omega) h) fun k hk => ?_)
  obtain ⟨k0, k1, k2⟩ := hk
  generalize makeF s = t at hml h k1 k2
  obtain ⟨k, rfl⟩ := Int.eq_ofNat_of_zero_le (show 0 ≤ (k : Int) from k0)
  dsimp only [Shape.Val] at *
  -- what ends ahead of it
  have before : ∀ (_ : k = t.length ∨ ∃ q, t[k]? = some q ∧ n < q.1), cond (decide ((k : Int) = 0)) (PrevR t n (0, false)) (chk ((0 : Int) ≤ w64 ((k : Int) - 1) ∧ w64 ((k : Int) - 1) < (t.length : Int)) (PrevR t n ((rd sRun t (w64 ((k : Int) - 1)).toNat).2, true))) := by
    intro hq
    have far : ∀ (i : Nat) r m, t[i]? = some r → k ≤ i → r.1 ≤ m → n < m := fun i r m hi hki hm => by
      rcases hq with hq | ⟨q, hq, hqn⟩
      · have := (List.getElem?_eq_some_iff.1 hi).1; omega
      · rcases Nat.lt_or_eq_of_le hki with e | e
        · have := SaneFrom.get h _ _ _ _ hq hi e
          have := Sane.bounds h q (List.mem_of_getElem? hq)
          omega
        · subst e; rw [hq] at hi; cases hi; omega
    refine cond_dec (fun e => ?_) fun e => ?_
    · have e : (k : Int) = 0 := e
      refine .inl ⟨rfl, fun m ⟨r, hr, hm⟩ => ?_⟩
      obtain ⟨i, hi⟩ := List.getElem?_of_mem hr
      exact far i r m hi (by omega) hm.1
    · have e : ¬ (k : Int) = 0 := e
      rw [w_pred (by omega) (by omega), toNat_ofNat]
      have hk' : k - 1 < t.length := by omega
      have hg := List.getElem?_eq_getElem hk'
      generalize t[k - 1] = r at hg
      rw [rd_of (s := sRun) hg]
      have hb := Sane.bounds h r (List.mem_of_getElem? hg)
      have hr := (k2 _ r hg).1 (by omega)
      refine ⟨⟨by omega, by omega⟩, .inr ⟨rfl, ⟨r, List.mem_of_getElem? hg, hb.2.1, Int.le_refl _⟩, by dsimp only; omega, fun m ⟨q, hq, hm⟩ hmn => ?_⟩⟩
      obtain ⟨i, hi⟩ := List.getElem?_of_mem hq
      by_cases hik : k ≤ i
      · have := far i q m hi hik hm.1; omega
      · have := sorted_hi h hi hg (by omega)
        dsimp only
        omega
  refine cond_dec (fun e => ⟨⟨by omega, e⟩, ?_⟩) fun e => ?_
  · have e : (k : Int) < t.length := e
    have hk' : k < t.length := by omega
    have hg := List.getElem?_eq_getElem hk'
    generalize t[k] = r at hg
    have hr := (k2 _ r hg).2 (Int.le_refl _)
    rw [toNat_ofNat, rd_of (s := sRun) hg]
    refine cond_dec (fun e2 => ?_) fun e2 => before (.inr ⟨r, hg, by have e2 : ¬ r.1 ≤ n := e2; omega⟩)
    exact .inr ⟨rfl, ⟨r, List.mem_of_getElem? hg, e2, hr⟩, Int.le_refl _, fun m _ hm => hm⟩
  · exact before (.inl (by have e : ¬ (k : Int) < t.length := e; omega))

/-- How many numbers a set has. -/
def countF : Runs → Int
  | [] => 0
  | r :: s => (r.2 - r.1 + 1) + countF s

theorem count_append (s t : Runs) : countF (s ++ t) = countF s + countF t := by
  induction s with
  | nil => simp [countF]
  | cons r s ih => simp only [List.cons_append, countF, ih]; omega

theorem ok_runs_CountA (hl : s.length < 65536) : FnE bs n_runs_Count ((Shape.slice sRun).compsE s) (.int .i64) (· = countF (makeF s)) := by
  refine ok_of (e_runs_Count s _) rfl ?_
  unfold c_runs_Count
  have hml := make_length s
  have h := make_sane s
  refine callP_eq (ok_runs_knownA hl) ?_
  generalize makeF s = t at hml h
  refine loopP_of (fun z : Int × Int => ∃ k : Nat, z.2 = k ∧ k ≤ t.length ∧ z.1 = countF (t.take k) ∧ 0 ≤ z.1 ∧ z.1 ≤ k * 2199023255553) (fun z => t.length - z.2.toNat) ?_ ⟨0, rfl, Nat.zero_le _, rfl, by decide, by decide⟩
  rintro ⟨_, _⟩ A ⟨k, e1, hk, e2, e3, e4⟩ back
  dsimp only at e1 e2 e3 e4 ⊢
  subst e1
  subst e2
  refine cond_dec (fun h1 => ⟨⟨by omega, h1⟩, ?_⟩) fun h1 => ?_
  · have h1 : (k : Int) < t.length := h1
    have hk' : k < t.length := by omega
    have hg := List.getElem?_eq_getElem hk'
    generalize t[k] = r at hg
    have hb := Sane.bounds h r (List.mem_of_getElem? hg)
    unfold Lim at hb
    rw [toNat_ofNat, rd_of (s := sRun) hg, w_succ (by omega), w64_of (n := r.2 - r.1) (by omega), w64_of (n := r.2 - r.1 + 1) (by omega), w64_of (n := countF (t.take k) + (r.2 - r.1 + 1)) (by omega)]
    refine back (_, ((k + 1 : Nat) : Int)) ⟨k + 1, rfl, hk', ?_, ?_, ?_⟩ (by dsimp only; omega) <;> dsimp only
    · rw [List.take_add_one, hg, Option.toList_some, count_append]
      simp [countF]
    · omega
    · omega
  · rw [List.take_of_length_le (by have h1 : ¬ (k : Int) < t.length := h1; omega)]

theorem ok_runs_Of {l : List Int} (hl : l.length < 65536) : FnE bs n_runs_Of ((Shape.slice (.int .i64)).compsE l) (.slice sRun) (· = makeF (l.map fun n => (n, n))) := by
  refine ok_of (e_runs_Of l _) rfl ?_
  unfold c_runs_Of
  refine loopP_of (fun z : Unit × Int × Runs => ∃ k : Nat, z.2.1 = k ∧ k ≤ l.length ∧ z.2.2 = (l.take k).map fun n => (n, n)) (fun z => l.length - z.2.1.toNat) ?_ ⟨0, rfl, Nat.zero_le _, rfl⟩
  rintro ⟨u, _, acc⟩ A ⟨k, e1, hk, e2⟩ back
  dsimp only at e1 e2 ⊢
  subst e1
  subst e2
  refine cond_dec (fun h1 => ⟨⟨by omega, h1⟩, ?_⟩) fun h1 => ?_
  · have h1 : (k : Int) < l.length := h1
    have hk' : k < l.length := by omega
    have hg := List.getElem?_eq_getElem hk'
    generalize l[k] = r at hg
    rw [toNat_ofNat, rd_of (s := .int .i64) hg, w_succ (by omega)]
    refine ⟨by simp only [List.length_cons, List.length_nil, List.length_map, List.length_take]; omega, ?_⟩
    refine back ((), ((k + 1 : Nat) : Int), _) ⟨k + 1, rfl, hk', ?_⟩ (by dsimp only; omega)
    rw [List.take_add_one, hg, Option.toList_some, List.map_append]
    rfl
  · rw [List.take_of_length_le (by have h1 : ¬ (k : Int) < l.length := h1; omega)]
    exact callP_eq (ok_runs_Make (by rw [List.length_map]; exact hl)) rfl
end
end Go.Proofs.YtocmlcpcnjaaeaaGreatDoor.V


/- The document's answer for sets: what its functions answer. No condition of its own. -/
namespace Go.Proofs.YtocmlcpcnjaaeaaGreatDoor.V
open Go
set_option linter.unusedVariables false
set_option linter.unusedSimpArgs false

theorem saneFrom_take : ∀ {s : Runs} {a : Int}, SaneFrom a s ↔ ∀ (k : Nat) r, s[k]? = some r → r.1 ≤ r.2 ∧ r.2 ≤ Lim ∧ (k = 0 → a + 2 ≤ r.1) ∧ ∀ q, 1 ≤ k → s[k - 1]? = some q → q.2 + 2 ≤ r.1
  | [], a => ⟨fun _ k r h => by simp at h, fun _ => trivial⟩
  | x :: s, a => by
    constructor
    · intro h k r hk
      cases k with
      | zero => simp at hk; subst hk; exact ⟨h.1, h.2.2.1, fun _ => h.2.1, fun q h1 => by omega⟩
      | succ k =>
        have hk' : s[k]? = some r := by simpa using hk
        have := (saneFrom_take.1 h.2.2.2) k r hk'
        refine ⟨this.1, this.2.1, fun e => by omega, fun q _ hq => ?_⟩
        cases k with
        | zero => simp at hq; subst hq; exact this.2.2.1 rfl
        | succ k => exact this.2.2.2 q (by omega) (by simpa using hq)
    · intro h
      have h0 := h 0 x rfl
      refine ⟨h0.1, h0.2.2.1 rfl, h0.2.1, saneFrom_take.2 fun k r hk => ?_⟩
      have := h (k + 1) r (by simpa using hk)
      refine ⟨this.1, this.2.1, fun e => ?_, fun q hk1 hq => ?_⟩
      · subst e; exact this.2.2.2 x (by omega) rfl
      · obtain ⟨j, rfl⟩ : ∃ j, k = j + 1 := ⟨k - 1, by omega⟩
        exact this.2.2.2 q (by omega) (by simpa using hq)

theorem ok_ref04_Sane {s : Runs} (hl : s.length ≤ 1000000000) : FnE bs n_lustrumref04_Sane ((Shape.slice sRun).compsE s) .bool (· = decide (Sane s)) := by
  refine ok_of (e_lustrumref04_Sane s _) rfl ?_
  unfold c_lustrumref04_Sane
  have hS : Sane s ↔ _ := saneFrom_take
  refine loopP_of (fun z : Int => ∃ k : Nat, z = k ∧ k ≤ s.length ∧ ∀ (i : Nat) r, i < k → s[i]? = some r → r.1 ≤ r.2 ∧ -Lim ≤ r.1 ∧ r.2 ≤ Lim ∧ ∀ q, 1 ≤ i → s[i - 1]? = some q → q.2 + 2 ≤ r.1) (fun z => s.length - z.toNat) ?_ ⟨0, rfl, Nat.zero_le _, fun i r h => by omega⟩
  rintro _ A ⟨k, rfl, hk, hi⟩ back
  refine cond_dec (fun h1 => ?_) fun h1 => ?_
  · have h1 : (k : Int) < s.length := h1
    have hk' : k < s.length := by omega
    have hg := List.getElem?_eq_getElem hk'
    generalize s[k] = r at hg
    rw [toNat_ofNat, rd_of (s := sRun) hg, w64_of (n := (k : Int) + 1) (by omega)]
    have no : ∀ {P : Prop}, (Sane s → P) → ¬ P → (false : Bool) = decide (Sane s) := fun h q => (decide_eq_false fun hs => q (h hs)).symm
    refine ⟨⟨by omega, h1⟩, ⟨by omega, h1⟩, cond_dec (fun h2 => be (no (P := r.1 ≤ r.2) (fun hs => (Sane.bounds hs r (List.mem_of_getElem? hg)).2.1) (by have h2 : r.2 < r.1 := h2; omega))) fun h2 => ⟨⟨by omega, h1⟩, cond_dec (fun h3 => be (no (P := -Lim ≤ r.1) (fun hs => (Sane.bounds hs r (List.mem_of_getElem? hg)).1) (by have h3 : r.1 < -1099511627776 := h3; unfold Lim; omega))) fun h3 => ⟨⟨by omega, h1⟩, cond_dec (fun h4 => be (no (P := r.2 ≤ Lim) (fun hs => (Sane.bounds hs r (List.mem_of_getElem? hg)).2.2) (by have h4 : 1099511627776 < r.2 := h4; unfold Lim; omega))) fun h4 => cond_dec (fun h5 => ?_) fun h5 => ?_⟩⟩⟩
    · have h2 : ¬ r.2 < r.1 := h2
      have h3 : ¬ r.1 < -1099511627776 := h3
      have h4 : ¬ 1099511627776 < r.2 := h4
      have h5 : (0 : Int) < k := h5
      rw [w_pred (by omega) (by omega), toNat_ofNat, w64_of (n := r.1 - 1) (by omega)]
      have hk2 : k - 1 < s.length := by omega
      have hg2 := List.getElem?_eq_getElem hk2
      generalize s[k - 1] = q at hg2
      rw [rd_of (s := sRun) hg2]
      refine ⟨⟨by omega, h1⟩, ⟨by omega, by omega⟩, cond_dec (fun h6 => be (no (P := q.2 + 2 ≤ r.1) (fun hs => SaneFrom.get hs (k - 1) k q r hg2 hg (by omega)) (by have h6 : r.1 - 1 ≤ q.2 := h6; omega))) fun h6 => ?_⟩
      have h6 : ¬ r.1 - 1 ≤ q.2 := h6
      refine back _ ⟨k + 1, by simp, hk', fun i p hik hp => ?_⟩ (by omega)
      by_cases e : i = k
      · subst e
        rw [hg] at hp; cases hp
        exact ⟨by omega, by unfold Lim; omega, by unfold Lim; omega, fun p hp1 hp2 => by rw [hg2] at hp2; cases hp2; omega⟩
      · exact hi i p (by omega) hp
    · have h2 : ¬ r.2 < r.1 := h2
      have h3 : ¬ r.1 < -1099511627776 := h3
      have h4 : ¬ 1099511627776 < r.2 := h4
      have h5 : ¬ (0 : Int) < k := h5
      have : k = 0 := by omega
      subst this
      refine back _ ⟨1, by simp, hk', fun i p hik hp => ?_⟩ (by omega)
      have : i = 0 := by omega
      subst this
      rw [hg] at hp; cases hp
      exact ⟨by omega, by unfold Lim; omega, by unfold Lim; omega, fun p hp1 => by omega⟩
  · refine be (decide_eq_true (hS.2 fun i r hr => ?_)).symm
    have hil := (List.getElem?_eq_some_iff.1 hr).1
    have := hi i r (by have h1 : ¬ (k : Int) < s.length := h1; omega) hr
    exact ⟨this.1, this.2.2.1, fun _ => by unfold Lim at this; omega, this.2.2.2⟩

theorem ok_ref04_put {s : Runs} {r : Int × Int} (hl : s.length ≤ 1000000) (h : Sane s) : FnE bs n_lustrumref04_put ((Shape.pair (.slice sRun) sRun).compsE (s, r)) (.slice sRun) (· = putF s r) := by
  refine ok_of (e_lustrumref04_put (s, r) _) rfl ?_
  unfold c_lustrumref04_put
  dsimp only
  rw [max_max, min_min]
  have hc : clampR r = (max r.1 (-1099511627776), min r.2 1099511627776) := rfl
  refine cond_dec (fun h1 => ?_) fun h1 => ?_
  · show s = putF s r
    have h1 : min r.2 1099511627776 < max r.1 (-1099511627776) := h1
    unfold putF
    rw [hc, if_neg (by dsimp only; omega)]
  · have h1 : ¬ min r.2 1099511627776 < max r.1 (-1099511627776) := h1
    have hput : putF s r = putS s (max r.1 (-1099511627776), min r.2 1099511627776) := by unfold putF; rw [hc, if_pos (by dsimp only; omega)]
    rw [hput]
    generalize hx : (max r.1 (-1099511627776), min r.2 1099511627776) = x0
    have hx1 : max r.1 (-1099511627776) = x0.1 := by rw [← hx]
    have hx2 : min r.2 1099511627776 = x0.2 := by rw [← hx]
    rw [hx1, hx2] at h1
    have hb0 : -Lim ≤ x0.1 ∧ x0.2 ≤ Lim := by rw [← hx1, ← hx2]; unfold Lim; omega
    -- those ahead; then what is still to be looked at, unless some are behind
    refine loopP_of (fun z : Unit × Unit × Int × (Int × Int) × Runs × Runs => ∃ k : Nat, z.2.2.1 = k ∧ k ≤ s.length ∧ z.2.2.2.2.1.length ≤ k ∧ z.2.2.2.2.2.length ≤ k ∧ -Lim ≤ z.2.2.2.1.1 ∧ z.2.2.2.1.1 ≤ z.2.2.2.1.2 ∧ z.2.2.2.1.2 ≤ Lim ∧
        ((z.2.2.2.2.2 = [] ∧ putS s x0 = z.2.2.2.2.1 ++ putS (s.drop k) z.2.2.2.1) ∨ (z.2.2.2.2.2 ≠ [] ∧ putS s x0 = z.2.2.2.2.1 ++ z.2.2.2.1 :: (z.2.2.2.2.2 ++ s.drop k) ∧ ∀ q ∈ s.drop k, z.2.2.2.1.2 + 1 < q.1))) (fun z => s.length - z.2.2.1.toNat) ?_ ⟨0, rfl, Nat.zero_le _, Nat.zero_le _, Nat.zero_le _, hb0.1, by dsimp only; omega, hb0.2, .inl ⟨rfl, rfl⟩⟩
    rintro ⟨_, _, _, x, be', af⟩ A ⟨k, e1, hk, hlb, hla, b1, b2, b3, hcase⟩ back
    dsimp only at e1 hlb hla b1 b2 b3 hcase ⊢
    subst e1
    unfold Lim at b1 b3
    refine cond_dec (fun h2 => ?_) fun h2 => ?_
    · have h2 : (k : Int) < s.length := h2
      have hk' : k < s.length := by omega
      have hg := List.getElem?_eq_getElem hk'
      generalize s[k] = q at hg
      have hq := Sane.bounds h q (List.mem_of_getElem? hg)
      unfold Lim at hq
      have ed := drop_cons hg
      rw [toNat_ofNat, rd_of (s := sRun) hg, w64_of (n := x.1 - 1) (by omega), w64_of (n := x.2 + 1) (by omega), w_succ (by omega)]
      have hafter : ∀ p ∈ s.drop (k + 1), q.2 + 2 ≤ p.1 := fun p hp => by
        obtain ⟨c, hcc⟩ := SaneFrom.drop k h
        rw [ed] at hcc
        exact (SaneFrom.lt hcc.2.2.2 p hp).1
      refine ⟨⟨by omega, h2⟩, cond_dec (fun h3 => ⟨⟨by omega, h2⟩, ?_, ?_⟩) fun h3 => ⟨⟨by omega, h2⟩, cond_dec (fun h4 => ⟨⟨by omega, h2⟩, ?_, ?_⟩) fun h4 => ⟨⟨by omega, h2⟩, ⟨by omega, h2⟩, ?_⟩⟩⟩
      · simp only [List.length_cons, List.length_nil]; omega
      · have h3 : q.2 < x.1 - 1 := h3
        refine back ((), (), ((k + 1 : Nat) : Int), x, be' ++ [q], af) ⟨k + 1, rfl, hk', by simp; omega, by dsimp only; omega, b1, b2, b3, ?_⟩ (by dsimp only; omega)
        dsimp only
        rcases hcase with ⟨c1, c2⟩ | ⟨c1, c2, c3⟩
        · refine .inl ⟨c1, ?_⟩
          rw [c2, ed]
          conv => lhs; unfold putS
          rw [if_pos (by omega)]
          simp
        · have := c3 q (by rw [ed]; exact List.mem_cons_self ..)
          omega
      · simp only [List.length_cons, List.length_nil]; omega
      · have h3 : ¬ q.2 < x.1 - 1 := h3
        have h4 : x.2 + 1 < q.1 := h4
        refine back ((), (), ((k + 1 : Nat) : Int), x, be', af ++ [q]) ⟨k + 1, rfl, hk', by dsimp only; omega, by simp; omega, b1, b2, b3, .inr ⟨by simp, ?_, fun p hp => ?_⟩⟩ (by dsimp only; omega) <;> dsimp only at *
        · rcases hcase with ⟨c1, c2⟩ | ⟨c1, c2, c3⟩
          · rw [c2, ed, c1]
            conv => lhs; unfold putS
            rw [if_neg (by omega), if_pos h4]
            simp
          · rw [c2, ed]
            simp
        · have := hafter p hp; omega
      · have h3 : ¬ q.2 < x.1 - 1 := h3
        have h4 : ¬ x.2 + 1 < q.1 := h4
        rw [max_max, min_min]
        refine back ((), (), ((k + 1 : Nat) : Int), (min x.1 q.1, max x.2 q.2), be', af) ⟨k + 1, rfl, hk', by dsimp only; omega, by dsimp only; omega, by unfold Lim; dsimp only; omega, by dsimp only; omega, by unfold Lim; dsimp only; omega, ?_⟩ (by dsimp only; omega)
        dsimp only
        rcases hcase with ⟨c1, c2⟩ | ⟨c1, c2, c3⟩
        · refine .inl ⟨c1, ?_⟩
          rw [c2, ed]
          conv => lhs; unfold putS
          rw [if_neg (by omega), if_neg h4]
        · have := c3 q (by rw [ed]; exact List.mem_cons_self ..)
          omega
    · have hkl : k = s.length := by have h2 : ¬ (k : Int) < s.length := h2; omega
      subst hkl
      rw [List.drop_length] at hcase
      refine ⟨?_, ?_, ?_⟩
      · simp only [List.length_cons, List.length_nil]; omega
      · simp only [List.length_append, List.length_cons, List.length_nil]; omega
      · show (be' ++ [(x.1, x.2)]) ++ af = putS s x0
        rcases hcase with ⟨c1, c2⟩ | ⟨c1, c2, c3⟩
        · rw [c2, c1]; simp [putS]
        · rw [c2]; simp

theorem ok_ref04_Make {l : Runs} (hl : l.length ≤ 100000) : FnE bs n_lustrumref04_Make ((Shape.slice sRun).compsE l) (.slice sRun) (· = makeF l) := by
  refine ok_of (e_lustrumref04_Make l _) rfl ?_
  unfold c_lustrumref04_Make
  refine loopP_of (fun z : Runs × Int => ∃ k : Nat, z.2 = k ∧ k ≤ l.length ∧ z.1 = makeF (l.take k)) (fun z => l.length - z.2.toNat) ?_ ⟨0, rfl, Nat.zero_le _, rfl⟩
  rintro ⟨_, _⟩ A ⟨k, e1, hk, e2⟩ back
  dsimp only at e1 e2 ⊢
  subst e1
  subst e2
  refine cond_dec (fun h1 => ⟨⟨by omega, h1⟩, ?_⟩) fun h1 => ?_
  · have h1 : (k : Int) < l.length := h1
    have hk' : k < l.length := by omega
    have hg := List.getElem?_eq_getElem hk'
    generalize l[k] = q at hg
    rw [toNat_ofNat, rd_of (s := sRun) hg, w_succ (by omega)]
    have hml := make_length (l.take k)
    rw [List.length_take] at hml
    refine callP_eq (ok_ref04_put (by omega) (make_sane _)) (back _ ⟨k + 1, rfl, hk', ?_⟩ (by dsimp only; omega))
    dsimp only
    rw [List.take_add_one, hg, Option.toList_some]
    unfold makeF
    rw [List.foldl_append]
    rfl
  · rw [List.take_of_length_le (by have h1 : ¬ (k : Int) < l.length := h1; omega)]

theorem ok_ref04_As {s : Runs} (hl : s.length ≤ 100000) : FnE bs n_lustrumref04_As ((Shape.slice sRun).compsE s) (.slice sRun) (· = makeF s) := by
  refine ok_of (e_lustrumref04_As s _) rfl ?_
  unfold c_lustrumref04_As
  exact callP_eq (ok_ref04_Sane (by omega)) (cond_dec (fun h => (make_self h).symm) fun h => callP_eq (ok_ref04_Make hl) rfl)

/-! ### What two sets have in common -/

def meetF (a b : Runs) : Runs := a.flatMap fun x => clipF b x.1 x.2

theorem mem_meet {a b : Runs} {n : Int} : mem (meetF a b) n ↔ mem a n ∧ mem b n := by
  unfold meetF
  constructor
  · rintro ⟨q, hq, h1, h2⟩
    obtain ⟨x, hx, hqx⟩ := List.mem_flatMap.1 hq
    have := (mem_clip (s := b) (lo := x.1) (hi := x.2) (n := n)).1 ⟨q, hqx, h1, h2⟩
    exact ⟨⟨x, hx, this.2⟩, this.1⟩
  · rintro ⟨⟨x, hx, h1, h2⟩, hb⟩
    obtain ⟨q, hq, h3⟩ := (mem_clip (s := b) (lo := x.1) (hi := x.2) (n := n)).2 ⟨hb, h1, h2⟩
    exact ⟨q, List.mem_flatMap.2 ⟨x, hx, hq⟩, h3⟩

theorem saneFrom_append : ∀ {s t : Runs} {a b : Int}, SaneFrom a s → SaneFrom b t → a ≤ b → (∀ q ∈ s, q.2 ≤ b) → SaneFrom a (s ++ t)
  | [], t, a, b, _, h, hab, _ => h.mono hab
  | x :: s, t, a, b, hs, h, hab, hq => ⟨hs.1, hs.2.1, hs.2.2.1, saneFrom_append hs.2.2.2 h (hq x (List.mem_cons_self ..)) fun q hqs => hq q (List.mem_cons_of_mem _ hqs)⟩

theorem clip_in {s : Runs} {lo hi : Int} : ∀ q ∈ clipF s lo hi, lo ≤ q.1 ∧ q.2 ≤ hi := by
  intro q hq
  obtain ⟨r, _, e⟩ := List.mem_filterMap.1 hq
  split at e
  · cases e; dsimp only; omega
  · cases e

theorem clip_from2 {s : Runs} {b a lo hi : Int} (h : SaneFrom b s) (hlo : a + 2 ≤ lo) : SaneFrom a (clipF s lo hi) := by
  rcases Int.lt_or_le b a with hba | hba
  · have h1 := clip_from (b := b) (lo := lo) (hi := hi) h (Int.le_refl _)
    have h2 := fun q (hq : q ∈ clipF s lo hi) => (clip_in q hq).1
    cases he : clipF s lo hi with
    | nil => trivial
    | cons x t =>
      rw [he] at h1 h2
      exact ⟨h1.1, by have := h2 x (List.mem_cons_self ..); omega, h1.2.2.1, h1.2.2.2⟩
  · exact clip_from h hba

theorem meet_from {b : Runs} (hb : Sane b) : ∀ {s : Runs} {a : Int}, SaneFrom a s → SaneFrom a (meetF s b)
  | [], _, _ => trivial
  | x :: s, a, h => by
    unfold meetF
    rw [List.flatMap_cons]
    refine saneFrom_append (clip_from2 hb h.2.1) (meet_from hb h.2.2.2) (by have := h.1; have := h.2.1; omega) fun q hq => (clip_in q hq).2

theorem meet_sane {a b : Runs} (ha : Sane a) (hb : Sane b) : Sane (meetF a b) := meet_from hb ha

theorem meet_of {a b out : Runs} (ha : Sane a) (hb : Sane b) (h : MeetR a b out) : out = meetF a b := sane_ext h.1 (meet_sane ha hb) fun n => by rw [h.2.2 n, mem_meet]

theorem ok_sets_MeetF {a b : Runs} (hla : a.length < 65536) (hlb : b.length < 65536) : FnE bs n_sets_Meet ((Shape.pair (.slice sRun) (.slice sRun)).compsE (a, b)) (.slice sRun) (fun r => r = meetF (makeF a) (makeF b) ∧ r.length ≤ a.length + b.length) :=
  (ok_sets_MeetA hla hlb).mono fun r hr => ⟨meet_of (make_sane _) (make_sane _) hr, by have := hr.2.1; have := make_length a; have := make_length b; omega⟩

/-- Within bounds is what it has in common with one run. -/
theorem meet_clip {s : Runs} {lo hi : Int} (hs : Sane s) : meetF s (makeF [(lo, hi)]) = clipF s lo hi := by
  refine sane_ext (meet_sane hs (make_sane _)) (sane_clip hs) fun n => ?_
  rw [mem_meet, mem_make, mem_clip]
  unfold memL
  rw [mem_cons]
  constructor
  · rintro ⟨h1, h2, h3, h4 | h4⟩
    · exact ⟨h1, h4⟩
    · exact (mem_nil h4).elim
  · rintro ⟨h1, h2⟩
    have := mem_lim hs h1
    exact ⟨h1, this.1, this.2, .inl h2⟩

theorem ok_sets_ClipA {s : Runs} {lo hi : Int} (hl : s.length < 65536) : FnE bs n_sets_Clip ((Shape.pair (.slice sRun) (.pair (.int .i64) (.int .i64))).compsE (s, lo, hi)) (.slice sRun) (· = clipF (makeF s) lo hi) := by
  refine ok_of (e_sets_Clip (s, lo, hi) _) rfl ?_
  unfold c_sets_Clip
  refine callP_of (ok_sets_MeetF (a := s) (b := [(lo, hi)]) hl (by simp)) fun r hr => ?_
  exact hr.1.trans (meet_clip (make_sane s))

theorem ok_ref05_Meet {a b : Runs} (hla : a.length ≤ 1000) (hlb : b.length ≤ 1000) : FnE bs n_lustrumref05_Meet ((Shape.pair (.slice sRun) (.slice sRun)).compsE (a, b)) (.slice sRun) (· = meetF (makeF a) (makeF b)) := by
  refine ok_of (e_lustrumref05_Meet (a, b) _) rfl ?_
  unfold c_lustrumref05_Meet
  have la := make_length a
  have lb := make_length b
  refine callP_eq (ok_ref04_As (by dsimp only; omega)) (callP_eq (ok_ref04_As (by dsimp only; omega)) ?_)
  generalize makeF a = p at la
  generalize makeF b = q at lb
  have hcl : ∀ lo hi, (clipF q lo hi).length ≤ 1000 := fun lo hi => Nat.le_trans (clip_length _ _ _) (by omega)
  have hml : ∀ k, (meetF (p.take k) q).length ≤ k * 1000 := by
    intro k
    induction k with
    | zero => simp [meetF]
    | succ k ih =>
      rcases Nat.lt_or_ge k p.length with e | e
      · rw [List.take_add_one, List.getElem?_eq_getElem e, Option.toList_some]
        unfold meetF at *
        rw [List.flatMap_append, List.length_append, List.flatMap_cons, List.flatMap_nil, List.append_nil]
        have := hcl p[k].1 p[k].2
        omega
      · rw [List.take_of_length_le (i := k + 1) (by omega)]
        rw [List.take_of_length_le (i := k) e] at ih
        exact Nat.le_trans ih (Nat.mul_le_mul_right _ (Nat.le_succ k))
  refine loopP_of (fun z : Unit × Int × Runs => ∃ k : Nat, z.2.1 = k ∧ k ≤ p.length ∧ z.2.2 = meetF (p.take k) q) (fun z => p.length - z.2.1.toNat) ?_ ⟨0, rfl, Nat.zero_le _, rfl⟩
  rintro ⟨u, _, _⟩ A ⟨k, e1, hk, e2⟩ back
  dsimp only at e1 e2 ⊢
  subst e1
  subst e2
  refine cond_dec (fun h1 => ?_) fun h1 => ?_
  · have h1 : (k : Int) < p.length := h1
    have hk' : k < p.length := by omega
    have hg := List.getElem?_eq_getElem hk'
    generalize p[k] = x at hg
    rw [toNat_ofNat, rd_of (s := sRun) hg, w_succ (by omega)]
    refine loopP_of (fun z : Unit × Int × Runs => ∃ j : Nat, z.2.1 = j ∧ j ≤ q.length ∧ z.2.2 = meetF (p.take k) q ++ clipF (q.take j) x.1 x.2) (fun z => q.length - z.2.1.toNat) ?_ ⟨0, rfl, Nat.zero_le _, by simp [clipF]⟩
    rintro ⟨u, _, _⟩ A2 ⟨j, e1, hj, e2⟩ back2
    dsimp only at e1 e2 ⊢
    subst e1
    subst e2
    refine cond_dec (fun h2 => ?_) fun h2 => ?_
    · have h2 : (j : Int) < q.length := h2
      have hj' : j < q.length := by omega
      have hg2 := List.getElem?_eq_getElem hj'
      generalize q[j] = y at hg2
      rw [toNat_ofNat, rd_of (s := sRun) hg2, w_succ (by omega), max_max, min_min]
      have step : ∀ t : Runs, t = clipF [y] x.1 x.2 → A2 ((), ((j + 1 : Nat) : Int), (meetF (p.take k) q ++ clipF (q.take j) x.1 x.2) ++ t) := fun t ht => by
        refine back2 ((), ((j + 1 : Nat) : Int), _) ⟨j + 1, rfl, hj', ?_⟩ (by dsimp only; omega)
        dsimp only
        rw [ht, List.append_assoc, List.take_add_one, hg2, Option.toList_some]
        unfold clipF
        rw [List.filterMap_append]
      have hs1 : (clipF (q.take j) x.1 x.2).length ≤ 1000 := Nat.le_trans (clip_length _ _ _) (by rw [List.length_take]; omega)
      have hs2 := hml k
      refine ⟨⟨by omega, h1⟩, ⟨by omega, h2⟩, ⟨by omega, h1⟩, ⟨by omega, h2⟩, cond_dec (fun h3 => ⟨⟨by omega, h1⟩, ⟨by omega, h2⟩, ⟨by omega, h1⟩, ⟨by omega, h2⟩, ?_, ?_⟩) fun h3 => ?_⟩
      · have : k * 1000 ≤ 1000 * 1000 := Nat.mul_le_mul_right _ (by omega)
        simp only [List.length_append, List.length_cons, List.length_nil]; omega
      · have h3 : max x.1 y.1 ≤ min x.2 y.2 := h3
        refine step _ ?_
        unfold clipF
        rw [List.filterMap_cons, if_pos (by omega), Int.max_comm y.1 x.1, Int.min_comm y.2 x.2]
        rfl
      · have h3 : ¬ max x.1 y.1 ≤ min x.2 y.2 := h3
        have := step [] (by unfold clipF; rw [List.filterMap_cons, if_neg (by omega)]; rfl)
        rwa [List.append_nil] at this
    · rw [List.take_of_length_le (l := q) (i := j) (by have h2 : ¬ (j : Int) < q.length := h2; omega)]
      refine back ((), ((k + 1 : Nat) : Int), _) ⟨k + 1, rfl, hk', ?_⟩ (by dsimp only; omega)
      dsimp only
      rw [List.take_add_one, hg, Option.toList_some]
      unfold meetF
      rw [List.flatMap_append, List.flatMap_cons, List.flatMap_nil, List.append_nil]
  · rw [List.take_of_length_le (by have h1 : ¬ (k : Int) < p.length := h1; omega)]

theorem ok_ref05_Clip {s : Runs} {lo hi : Int} (hl : s.length ≤ 1000) : FnE bs n_lustrumref05_Clip ((Shape.pair (.slice sRun) (.pair (.int .i64) (.int .i64))).compsE (s, lo, hi)) (.slice sRun) (· = clipF (makeF s) lo hi) := by
  refine ok_of (e_lustrumref05_Clip (s, lo, hi) _) rfl ?_
  unfold c_lustrumref05_Clip
  exact callP_eq (ok_ref05_Meet (a := s) (b := [(lo, hi)]) hl (by simp)) (meet_clip (make_sane s))
end Go.Proofs.YtocmlcpcnjaaeaaGreatDoor.V


/- lustrumlaw14: the laws of leaves, as conditions on the program's functions alone. No condition of its own. -/
namespace Go.Proofs.YtocmlcpcnjaaeaaGreatDoor.V
open Go
set_option linter.unusedVariables false
set_option linter.unusedSimpArgs false

theorem ok_lustrumref14_Few {f : Leaf} : FnE bs n_lustrumref14_Few (sApiLeaf.compsE f) .bool (· = decide (f.2.2.1.length ≤ 40 ∧ f.2.2.2.length ≤ 40)) := by
  obtain ⟨sp, u, a, b⟩ := f
  refine ok_of (e_lustrumref14_Few (sp, u, a, b) _) rfl ?_
  unfold c_lustrumref14_Few
  refine cond_dec (fun h => be (decide_eq_decide.2 ?_)) fun h => be (decide_eq_false ?_).symm <;> dsimp only [Shape.Val] at *
  · omega
  · omega

end Go.Proofs.YtocmlcpcnjaaeaaGreatDoor.V


/- lustrumlaw14.LeafCovers, as a condition on the program's functions alone. No condition of its own. -/
namespace Go.Proofs.YtocmlcpcnjaaeaaGreatDoor.V
open Go
set_option linter.unusedVariables false

end Go.Proofs.YtocmlcpcnjaaeaaGreatDoor.V


/- lustrumlaw14.LeafPairs, as a condition on the program's functions alone. No condition of its own. -/
namespace Go.Proofs.YtocmlcpcnjaaeaaGreatDoor.V
open Go
set_option linter.unusedVariables false
set_option linter.unusedSimpArgs false

end Go.Proofs.YtocmlcpcnjaaeaaGreatDoor.V


/- lustrumlaw14.LeafTidy, as a condition on the program's functions alone. No condition of its own. -/
namespace Go.Proofs.YtocmlcpcnjaaeaaGreatDoor.V
open Go
set_option linter.unusedVariables false
set_option linter.unusedSimpArgs false

/-! ### Tidied -/

theorem tidy_lens (f : Leaf) : (tidyF f).2.2.1.length ≤ f.2.2.1.length ∧ (tidyF f).2.2.2.length ≤ f.2.2.2.length := by
  rcases ho : ofF f with _ | ⟨u, s⟩ | ⟨a, b⟩
  · have e : tidyF f = (false, 0, [], []) := by unfold tidyF; rw [ho]
    rw [e]; simp
  · obtain ⟨h1, h2, h3, h4, h5, h6, h7⟩ := of_units ho
    have e : tidyF f = (false, u, s, []) := by unfold tidyF; rw [ho]
    rw [e]; simp [h4]
  · obtain ⟨h1, h2, h3, h4, h5, h6, h7, e1, e2⟩ := of_span ho
    have e : tidyF f = (true, 0, a, b) := by unfold tidyF; rw [ho]
    rw [e, e1, e2]
    exact ⟨clip_length _ _ _, clip_length _ _ _⟩

end Go.Proofs.YtocmlcpcnjaaeaaGreatDoor.V


/- The least and greatest days of families: plain facts. No program in sight. -/
namespace Go.Proofs.YtocmlcpcnjaaeaaGreatDoor.V
set_option linter.unusedVariables false
set_option linter.unusedSimpArgs false

/-- The least and the greatest start, the least and the greatest end. -/
abbrev Q4 := Int × Int × Int × Int

def extF (f : Leaf) : Option Q4 := match ofF f with
  | none => none
  | some (.inl (u, s)) => some (VCal.ufirst u (loF s), VCal.ufirst u (hiF s), VCal.ulast u (loF s), VCal.ulast u (hiF s))
  | some (.inr (a, b)) => some (loF a, hiF a, loF b, hiF b)

def comb : Option Q4 → Option Q4 → Option Q4
  | none, q => q
  | some p, none => some p
  | some p, some q => some (min p.1 q.1, max p.2.1 q.2.1, min p.2.2.1 q.2.2.1, max p.2.2.2 q.2.2.2)

def allF (l : List Leaf) : Option Q4 := l.foldl (fun x f => comb x (extF f)) none

theorem comb_none (p : Option Q4) : comb p none = p := by cases p <;> rfl

theorem comb_assoc (p q r : Option Q4) : comb (comb p q) r = comb p (comb q r) := by
  cases p with
  | none => rfl
  | some p =>
    cases q with
    | none => rfl
    | some q =>
      cases r with
      | none => rfl
      | some r =>
        simp only [comb, Option.some.injEq, Prod.mk.injEq]
        omega

theorem foldl_comb : ∀ (l : List Leaf) (x : Option Q4), l.foldl (fun x f => comb x (extF f)) x = comb x (allF l)
  | [], x => (comb_none x).symm
  | f :: l, x => by
    unfold allF
    rw [List.foldl_cons, List.foldl_cons, foldl_comb l (comb x (extF f)), foldl_comb l (comb none (extF f)), comb_assoc]
    rfl

theorem all_append (l m : List Leaf) : allF (l ++ m) = comb (allF l) (allF m) := by
  unfold allF
  rw [List.foldl_append, foldl_comb m]
  rfl

theorem all_cons (f : Leaf) (l : List Leaf) : allF (f :: l) = comb (extF f) (allF l) := by
  rw [show f :: l = [f] ++ l from rfl, all_append]
  rfl

theorem ext_none {f : Leaf} : extF f = none ↔ ofF f = none := by
  unfold extF
  rcases ho : ofF f with _ | ⟨u, s⟩ | ⟨a, b⟩ <;> simp

/-- What a quadruple says of pairs: it bounds them, and each of its days is met. -/
def Bounds (q : Q4) (P : Int × Int → Prop) : Prop := (∀ p, P p → q.1 ≤ p.1 ∧ p.1 ≤ q.2.1 ∧ q.2.2.1 ≤ p.2 ∧ p.2 ≤ q.2.2.2 ∧ p.1 ≤ p.2) ∧ (∃ p, P p ∧ p.1 = q.1) ∧ (∃ p, P p ∧ p.1 = q.2.1) ∧ (∃ p, P p ∧ p.2 = q.2.2.1) ∧ ∃ p, P p ∧ p.2 = q.2.2.2

theorem ufirst_le {u i j : Int} (h0 : 0 ≤ i) (hij : i ≤ j) (hj : j < VCal.ucount u) : VCal.ufirst u i ≤ VCal.ufirst u j ∧ VCal.ulast u i ≤ VCal.ulast u j := by
  rcases Int.lt_or_eq_of_le hij with e | e
  · have h1 := ufirst_lt h0 e hj
    have h2 := VCal.unit_in (kind := u) (i := i) h0 (by omega)
    have h3 := VCal.unit_in (kind := u) (i := j) (by omega) hj
    omega
  · subst e; omega

theorem span_pair {a b : Runs} (sa : Sane a) (sb : Sane b) {s t : Int} (hs : mem a s) (ht : mem b t) (h : s ≤ t) : (s, t) ∈ spanPairs a b := by
  obtain ⟨r, hr, h1, h2⟩ := ht
  exact List.mem_flatMap.2 ⟨s, mem_nums.2 hs, List.mem_flatMap.2 ⟨r, hr, List.mem_map.2 ⟨t, mem_upTo.2 ⟨by omega, h2⟩, rfl⟩⟩⟩

theorem pair_span {a b : Runs} {p : Int × Int} (h : p ∈ spanPairs a b) : mem a p.1 ∧ mem b p.2 ∧ p.1 ≤ p.2 := by
  obtain ⟨s, hs, h⟩ := List.mem_flatMap.1 h
  obtain ⟨r, hr, h⟩ := List.mem_flatMap.1 h
  obtain ⟨t, ht, rfl⟩ := List.mem_map.1 h
  have ht := mem_upTo.1 ht
  exact ⟨mem_nums.1 hs, ⟨r, hr, by dsimp only; omega, by dsimp only; omega⟩, by dsimp only; omega⟩

theorem ext_bounds {f : Leaf} {q : Q4} (h : extF f = some q) : Bounds q (· ∈ famPairs (ofF f)) := by
  unfold extF at h
  rcases ho : ofF f with _ | ⟨u, s⟩ | ⟨a, b⟩
  · rw [ho] at h; cases h
  · rw [ho] at h
    cases h
    obtain ⟨h1, h2, h3, h4, h5, h6, h7⟩ := of_units ho
    have hlo := mem_lo h6.1 h5
    have hhi := mem_hi h6.1 h5
    have pr : ∀ i, mem s i → (VCal.ufirst u i, VCal.ulast u i) ∈ famPairs (some (.inl (u, s))) := fun i hi => List.mem_map.2 ⟨i, mem_nums.2 hi, rfl⟩
    refine ⟨fun p hp => ?_, ⟨_, pr _ hlo, rfl⟩, ⟨_, pr _ hhi, rfl⟩, ⟨_, pr _ hlo, rfl⟩, ⟨_, pr _ hhi, rfl⟩⟩
    obtain ⟨i, hi, rfl⟩ := List.mem_map.1 hp
    have hm := mem_nums.1 hi
    have hb := mem_between h6.1 hm
    have b1 := Within.bounds h6 hlo
    have b2 := Within.bounds h6 hhi
    have m1 := ufirst_le (u := u) (i := loF s) (j := i) (by omega) hb.1 (by omega)
    have m2 := ufirst_le (u := u) (i := i) (j := hiF s) (by omega) hb.2 (by omega)
    have m3 := VCal.unit_in (kind := u) (i := i) (by omega) (by omega)
    dsimp only
    omega
  · rw [ho] at h
    cases h
    obtain ⟨h1, h2, h3, h4, h5, h6, h7, e1, e2⟩ := of_span ho
    obtain ⟨sa, sb, na, nb, l1, l2⟩ := span_ends ho
    have alo := mem_lo sa na
    have ahi := mem_hi sa na
    have blo := mem_lo sb nb
    have bhi := mem_hi sb nb
    have ma : ∀ n, mem a n → 0 ≤ n ∧ n ≤ hiF b := fun n hn => by
      have h := hn
      rw [e1, mem_clip] at h
      rw [l2]
      exact h.2
    have mb : ∀ n, mem b n → loF a ≤ n ∧ n ≤ 3652424 := fun n hn => by
      have h := hn
      rw [e2, mem_clip] at h
      rw [l1]
      exact h.2
    have x1 := ma _ alo
    have x2 := ma _ ahi
    have x3 := mb _ blo
    have hab := lo_le_hi sa na
    refine ⟨fun p hp => ?_, ⟨_, span_pair sa sb alo bhi (by omega), rfl⟩, ⟨_, span_pair sa sb ahi bhi (by omega), rfl⟩, ⟨_, span_pair sa sb alo blo (by omega), rfl⟩, ⟨_, span_pair sa sb alo bhi (by omega), rfl⟩⟩
    obtain ⟨p1, p2, p3⟩ := pair_span hp
    have := mem_between sa p1
    have := mem_between sb p2
    dsimp only
    omega

theorem Bounds.comb {p q : Q4} {P R : Int × Int → Prop} (h : Bounds p P) (k : Bounds q R) : Bounds (min p.1 q.1, max p.2.1 q.2.1, min p.2.2.1 q.2.2.1, max p.2.2.2 q.2.2.2) fun x => P x ∨ R x := by
  obtain ⟨h0, ⟨a1, h1, h1'⟩, ⟨a2, h2, h2'⟩, ⟨a3, h3, h3'⟩, ⟨a4, h4, h4'⟩⟩ := h
  obtain ⟨k0, ⟨b1, k1, k1'⟩, ⟨b2, k2, k2'⟩, ⟨b3, k3, k3'⟩, ⟨b4, k4, k4'⟩⟩ := k
  refine ⟨fun x hx => ?_, ?_, ?_, ?_, ?_⟩
  · rcases hx with hx | hx
    · have := h0 x hx; dsimp only; omega
    · have := k0 x hx; dsimp only; omega
  · rcases Int.le_total p.1 q.1 with e | e
    · exact ⟨a1, .inl h1, by dsimp only; omega⟩
    · exact ⟨b1, .inr k1, by dsimp only; omega⟩
  · rcases Int.le_total p.2.1 q.2.1 with e | e
    · exact ⟨b2, .inr k2, by dsimp only; omega⟩
    · exact ⟨a2, .inl h2, by dsimp only; omega⟩
  · rcases Int.le_total p.2.2.1 q.2.2.1 with e | e
    · exact ⟨a3, .inl h3, by dsimp only; omega⟩
    · exact ⟨b3, .inr k3, by dsimp only; omega⟩
  · rcases Int.le_total p.2.2.2 q.2.2.2 with e | e
    · exact ⟨b4, .inr k4, by dsimp only; omega⟩
    · exact ⟨a4, .inl h4, by dsimp only; omega⟩

theorem Bounds.congr {q : Q4} {P R : Int × Int → Prop} (h : Bounds q P) (k : ∀ p, P p ↔ R p) : Bounds q R := by
  have : P = R := funext fun p => propext (k p)
  subst this
  exact h

/-- A pair of some family. -/
def anyP (l : List Leaf) (p : Int × Int) : Prop := ∃ f ∈ l, p ∈ famPairs (ofF f)

theorem all_spec : ∀ (l : List Leaf), (allF l = none ∧ ∀ f ∈ l, ofF f = none) ∨ ∃ q, allF l = some q ∧ Bounds q (anyP l)
  | [] => .inl ⟨rfl, fun f h => by cases h⟩
  | f :: l => by
    rw [all_cons]
    have hc : ∀ p, anyP (f :: l) p ↔ p ∈ famPairs (ofF f) ∨ anyP l p := fun p => by
      unfold anyP
      constructor
      · rintro ⟨g, hg, h⟩
        rcases List.mem_cons.1 hg with e | e
        · subst e; exact .inl h
        · exact .inr ⟨g, e, h⟩
      · rintro (h | ⟨g, hg, h⟩)
        · exact ⟨f, List.mem_cons_self .., h⟩
        · exact ⟨g, List.mem_cons_of_mem _ hg, h⟩
    cases he : extF f with
    | none =>
      have hn := ext_none.1 he
      rcases all_spec l with ⟨h1, h2⟩ | ⟨q, h1, h2⟩
      · refine .inl ⟨h1, fun g hg => ?_⟩
        rcases List.mem_cons.1 hg with e | e
        · rw [e]; exact hn
        · exact h2 g e
      · refine .inr ⟨q, h1, h2.congr fun p => ?_⟩
        rw [hc, hn]
        exact ⟨.inr, fun h => h.elim (fun h => by cases h) id⟩
    | some p =>
      have hb := ext_bounds he
      rcases all_spec l with ⟨h1, h2⟩ | ⟨q, h1, h2⟩
      · refine .inr ⟨p, by rw [h1]; rfl, hb.congr fun x => ?_⟩
        rw [hc]
        refine ⟨.inl, fun h => h.elim id fun ⟨g, hg, hx⟩ => ?_⟩
        rw [h2 g hg] at hx
        cases hx
      · refine .inr ⟨_, by rw [h1]; rfl, (hb.comb h2).congr fun x => (hc x).symm⟩
end Go.Proofs.YtocmlcpcnjaaeaaGreatDoor.V


/- The document's answer for leaves and their least and greatest days, and the program's: what the functions answer. No condition of its own. -/
namespace Go.Proofs.YtocmlcpcnjaaeaaGreatDoor.V
open Go
set_option linter.unusedVariables false
set_option linter.unusedSimpArgs false

theorem ok_ref14_within {s : Runs} {m : Int} (hl : s.length ≤ 1000000000) : FnE bs n_lustrumref14_within ((Shape.pair (.slice sRun) (.int .i64)).compsE (s, m)) .bool (· = decide (Within s m)) := by
  refine ok_of (e_lustrumref14_within (s, m) _) rfl ?_
  unfold c_lustrumref14_within Within
  refine callP_eq (ok_ref04_Sane hl) (cond_dec (fun h => cond_dec (fun h2 => ?_) fun h2 => ?_) fun h => ?_)
  · have h2 : s = [] := len_zero.1 h2
    have h : Sane s := h
    exact be (decide_eq_true ⟨h, .inl h2⟩).symm
  · have h2 : ¬ s = [] := fun e => h2 (len_zero.2 e)
    refine ⟨first_in h2, ?_⟩
    dsimp only
    rw [rd_lo h2, rd_hi h2 hl]
    refine cond_dec (fun h3 => ⟨last_in h2 hl, be ?_⟩) fun h3 => be ?_
    · have h3 : 0 ≤ loF s := h3
      simp [h, h2, h3]
    · have h3 : ¬ 0 ≤ loF s := h3
      simp [h2, h3]
  · exact be (by simp [h])

theorem ok_ref14_Sane {f : Leaf} (hla : f.2.2.1.length ≤ 1000000000) (hlb : f.2.2.2.length ≤ 1000000000) : FnE bs n_lustrumref14_Sane (sApiLeaf.compsE f) .bool (· = decide (LeafSane f)) := by
  obtain ⟨sp, u, a, b⟩ := f
  dsimp only at hla hlb
  refine ok_of (e_lustrumref14_Sane (sp, u, a, b) _) rfl ?_
  unfold c_lustrumref14_Sane LeafSane
  dsimp only
  cases sp
  · refine cond_no rfl (cond_dec (fun h1 => cond_dec (fun h2 => callP_eq ok_ref03_Count ?_) fun h2 => be ?_) fun h1 => be ?_)
    · have := VCal.ucount_pos u
      rw [w64_of (by omega)]
      refine callP_eq (ok_ref14_within hla) (cond_dec (fun h3 => be ?_) fun h3 => be ?_)
      · have h1 : 0 ≤ u := h1
        have h2 : u ≤ 5 := h2
        refine decide_eq_decide.2 ⟨fun q => ?_, fun q => ?_⟩
        · rw [if_neg (by decide)]; exact ⟨⟨h1, h2⟩, h3, len_zero.1 q⟩
        · rw [if_neg (by decide)] at q; exact len_zero.2 q.2.2
      · simp [h3]
    · have h2 : ¬ u ≤ 5 := h2
      simp [h2]
    · have h1 : ¬ 0 ≤ u := h1
      simp [h1]
  · refine cond_yes rfl (cond_dec (fun h1 => callP_eq (ok_ref14_within hla) (cond_dec (fun h2 => callP_eq (ok_ref14_within hlb) (be ?_)) fun h2 => be ?_)) fun h1 => be ?_)
    · have h1 : u = 0 := h1
      simp [h1, h2]
    · simp [h2]
    · have h1 : ¬ u = 0 := h1
      simp [h1]

def asL (f : Leaf) : Leaf := if LeafSane f then f else (false, 0, [], [])

theorem ok_ref14_As {f : Leaf} (hla : f.2.2.1.length ≤ 1000000000) (hlb : f.2.2.2.length ≤ 1000000000) : FnE bs n_lustrumref14_As (sApiLeaf.compsE f) sApiLeaf (· = asL f) := by
  obtain ⟨sp, u, a, b⟩ := f
  refine ok_of (e_lustrumref14_As (sp, u, a, b) _) rfl ?_
  unfold c_lustrumref14_As asL
  refine callP_eq (ok_ref14_Sane hla hlb) (cond_not (fun h => ?_) fun h => ?_)
  · rw [if_neg (by simpa using h)]
  · rw [if_pos (by simpa using h)]

theorem ok_ref14_Tidy {f : Leaf} (hla : f.2.2.1.length ≤ 1000) (hlb : f.2.2.2.length ≤ 1000) : FnE bs n_lustrumref14_Tidy (sApiLeaf.compsE f) sApiLeaf (· = tidyF f) := by
  obtain ⟨sp, u, a, b⟩ := f
  dsimp only at hla hlb
  refine ok_of (e_lustrumref14_Tidy (sp, u, a, b) _) rfl ?_
  unfold c_lustrumref14_Tidy
  refine callP_eq (ok_ref14_As (by dsimp only; omega) (by dsimp only; omega)) ?_
  unfold tidyF ofF asL
  dsimp only
  by_cases hs : LeafSane (sp, u, a, b)
  · rw [if_pos hs]
    dsimp only
    refine cond_dec (fun h => ?_) fun h => ?_
    · have h : a = [] := len_zero.1 h
      rw [if_pos (.inr h)]
    · have h : ¬ a = [] := fun e => h (len_zero.2 e)
      rw [if_neg (by simp [hs, h])]
      have hs' := hs
      unfold LeafSane at hs'
      dsimp only at hs'
      cases sp with
      | false =>
        rw [if_neg (by decide)] at hs'
        refine cond_no rfl (cond_yes rfl ?_)
        rw [if_pos rfl]
        show (false, u, a, b) = (false, u, a, [])
        rw [hs'.2.2]
      | true =>
        rw [if_pos rfl] at hs'
        refine cond_yes rfl (cond_dec (fun h2 => ?_) fun h2 => ⟨first_in h, ?_⟩)
        · rw [if_neg (by simp), if_pos (.inl (len_zero.1 h2))]
        · have h2 : ¬ b = [] := fun e => h2 (len_zero.2 e)
          refine ⟨last_in h2 (by omega), ?_⟩
          rw [rd_lo h, rd_hi h2 (by omega)]
          refine cond_dec (fun h3 => ?_) fun h3 => cond_no rfl ⟨last_in h2 (by omega), ?_⟩
          · have h3 : hiF b < loF a := h3
            rw [if_neg (by simp), if_pos (.inr h3)]
          · have h3 : ¬ hiF b < loF a := h3
            refine callP_eq (ok_ref05_Clip hla) ⟨first_in h, callP_eq (ok_ref05_Clip hlb) ?_⟩
            rw [if_neg (by simp), if_neg (by simp [h2, h3]), make_self hs'.2.1.1, make_self hs'.2.2.1]
  · rw [if_neg hs]
    dsimp only
    rw [if_pos (.inl hs)]
    exact cond_yes (by decide) rfl

/-! ### The least and greatest days -/

theorem ok_ref16_ends {f : Leaf} {q : Q4} (h : extF f = some q) (hla : (tidyF f).2.2.1.length ≤ 1000000000) (hlb : (tidyF f).2.2.2.length ≤ 1000000000) :
    FnE bs n_lustrumref16_ends (sApiLeaf.compsE (tidyF f)) (.st (.pair (.int .i64) (.pair (.int .i64) (.pair (.int .i64) (.int .i64))))) (· = q) := by
  unfold extF at h
  rcases ho : ofF f with _ | ⟨u, s⟩ | ⟨a, b⟩
  · rw [ho] at h; cases h
  · rw [ho] at h
    cases h
    obtain ⟨h1, h2, h3, h4, h5, h6, h7⟩ := of_units ho
    have e : tidyF f = (false, u, s, []) := by unfold tidyF; rw [ho]
    rw [e] at hla hlb ⊢
    dsimp only at hla hlb
    refine ok_of (e_lustrumref16_ends (false, u, s, []) _) rfl ?_
    unfold c_lustrumref16_ends
    dsimp only
    have b1 := Within.bounds h6 (mem_lo h6.1 h5)
    have b2 := Within.bounds h6 (mem_hi h6.1 h5)
    rw [rd_lo h5, rd_hi h5 hla]
    have f1 : firstS u (loF s) = (VCal.ufirst u (loF s), true) := by unfold firstS; rw [if_pos (by omega)]
    have f2 : firstS u (hiF s) = (VCal.ufirst u (hiF s), true) := by unfold firstS; rw [if_pos (by omega)]
    have f3 : lastS u (loF s) = (VCal.ulast u (loF s), true) := by unfold lastS; rw [if_pos (by omega)]
    have f4 : lastS u (hiF s) = (VCal.ulast u (hiF s), true) := by unfold lastS; rw [if_pos (by omega)]
    refine ⟨first_in h5, last_in h5 hla, cond_no rfl (callP_eq ok_ref03_First (callP_eq ok_ref03_First (callP_eq ok_ref03_Last (callP_eq ok_ref03_Last ?_))))⟩
    rw [f1, f2, f3, f4]
  · rw [ho] at h
    cases h
    obtain ⟨sa, sb, na, nb, l1, l2⟩ := span_ends ho
    have e : tidyF f = (true, 0, a, b) := by unfold tidyF; rw [ho]
    rw [e] at hla hlb ⊢
    dsimp only at hla hlb
    refine ok_of (e_lustrumref16_ends (true, 0, a, b) _) rfl ?_
    unfold c_lustrumref16_ends
    dsimp only
    rw [rd_lo na, rd_hi na hla, rd_lo nb, rd_hi nb hlb]
    exact ⟨first_in na, last_in na hla, cond_yes rfl ⟨first_in nb, last_in nb hlb, rfl⟩⟩

/-- A list of leaves of few runs. -/
def FewL (n : Nat) (l : List Leaf) : Prop := l.length ≤ 1000000 ∧ ∀ f ∈ l, f.2.2.1.length ≤ n ∧ f.2.2.2.length ≤ n

def Q4.out : Option Q4 → Q4 × Bool
  | none => ((0, 0, 0, 0), false)
  | some q => (q, true)

theorem tidy_nil {f : Leaf} : (tidyF f).2.2.1 = [] ↔ extF f = none := by
  rw [ext_none]
  rcases ho : ofF f with _ | ⟨u, s⟩ | ⟨a, b⟩
  · have e : tidyF f = (false, 0, [], []) := by unfold tidyF; rw [ho]
    rw [e]; simp
  · obtain ⟨h1, h2, h3, h4, h5, h6, h7⟩ := of_units ho
    have e : tidyF f = (false, u, s, []) := by unfold tidyF; rw [ho]
    rw [e]; simp [h5]
  · obtain ⟨sa, sb, na, nb, l1, l2⟩ := span_ends ho
    have e : tidyF f = (true, 0, a, b) := by unfold tidyF; rw [ho]
    rw [e]; simp [na]

theorem all_take_succ {l : List Leaf} {k : Nat} {f : Leaf} (h : l[k]? = some f) : allF (l.take (k + 1)) = comb (allF (l.take k)) (extF f) := by
  rw [List.take_add_one, h, Option.toList_some, all_append]
  rfl

theorem ok_ref16_All {l : List Leaf} (hl : FewL 1000 l) : FnE bs n_lustrumref16_All ((Shape.slice sApiLeaf).compsE l) (.tup (.pair (.st (.pair (.int .i64) (.pair (.int .i64) (.pair (.int .i64) (.int .i64))))) .bool)) (· = Q4.out (allF l)) := by
  refine ok_of (e_lustrumref16_All l _) rfl ?_
  unfold c_lustrumref16_All
  have hll := hl.1
  refine loopP_of (fun z : Bool × Int × Int × Int × Int × Int => ∃ k : Nat, z.2.1 = k ∧ k ≤ l.length ∧ (z.2.2, z.1) = Q4.out (allF (l.take k))) (fun z => l.length - z.2.1.toNat) ?_ ⟨0, rfl, Nat.zero_le _, rfl⟩
  rintro ⟨any, _, q⟩ A ⟨k, e1, hk, e2⟩ back
  dsimp only at e1 e2 ⊢
  subst e1
  refine cond_dec (fun h1 => ⟨⟨by omega, h1⟩, ?_⟩) fun h1 => ?_
  · have h1 : (k : Int) < l.length := h1
    have hk' : k < l.length := by omega
    have hg := List.getElem?_eq_getElem hk'
    generalize l[k] = f at hg
    have hf := hl.2 f (List.mem_of_getElem? hg)
    have ht := tidy_lens f
    rw [toNat_ofNat, rd_of (s := sApiLeaf) hg, w_succ (by omega)]
    refine callP_eq (ok_ref14_Tidy (f := f) hf.1 hf.2) (cond_dec (fun h2 => ?_) fun h2 => ?_)
    · have h2 : extF f = none := tidy_nil.1 (len_zero.1 h2)
      refine back _ ⟨k + 1, rfl, hk', ?_⟩ (by dsimp only; omega)
      dsimp only
      rw [all_take_succ hg, h2, comb_none, ← e2]
    · have h2 : ¬ extF f = none := fun e => h2 (len_zero.2 (tidy_nil.2 e))
      obtain ⟨x, hx⟩ := Option.ne_none_iff_exists'.1 h2
      refine callP_eq (ok_ref16_ends hx (by omega) (by omega)) (cond_not (fun h3 => ?_) fun h3 => ?_)
      · refine ⟨by decide, by decide, by decide, by decide, by decide, by decide, by decide, by decide, back _ ⟨k + 1, rfl, hk', ?_⟩ (by dsimp only; omega)⟩
        dsimp only
        have ha : allF (l.take k) = none := by
          cases hq : allF (l.take k) with
          | none => rfl
          | some y => rw [hq] at e2; have := congrArg Prod.snd e2; rw [show any = true from this] at h3; cases h3
        rw [all_take_succ hg, ha, hx, max_max, max_max, min_min, min_min]
        show _ = (x, true)
        rw [Int.min_self, Int.min_self, Int.max_self, Int.max_self]
      · refine ⟨by decide, by decide, by decide, by decide, by decide, by decide, by decide, by decide, back _ ⟨k + 1, rfl, hk', ?_⟩ (by dsimp only; omega)⟩
        dsimp only
        cases hq : allF (l.take k) with
        | none => rw [hq] at e2; have := congrArg Prod.snd e2; rw [show any = false from this] at h3; cases h3
        | some y =>
          rw [hq] at e2
          have e3 : q = y := congrArg Prod.fst e2
          rw [all_take_succ hg, hq, hx, max_max, max_max, min_min, min_min, e3, h3]
          rfl
  · rw [List.take_of_length_le (by have h1 : ¬ (k : Int) < l.length := h1; omega)] at e2
    exact e2

/-- One of the four days, or that there is none. -/
def dayF (sel : Q4 → Int) (l : List Leaf) : Int × Int := match allF l with
  | none => (0, 9)
  | some q => (sel q, 0)

theorem ok_ref16_Earliest {l : List Leaf} (hl : FewL 1000 l) : FnE bs n_lustrumref16_Earliest ((Shape.slice sApiLeaf).compsE l) (.tup (.pair (.int .i64) (.int .i64))) (· = dayF (·.1) l) := by
  refine ok_han (e_lustrumref16_Earliest l _) rfl (HanOK.ofList [(142, .inl g_lustrumref16_Earliest__lustrumref16_told)] rfl rfl ⟨rfl, HanOK.none rfl rfl, trivial⟩) ?_
  unfold c_lustrumref16_Earliest dayF
  refine callP_eq (ok_ref16_All hl) ?_
  cases allF l with
  | none => exact cond_yes rfl rfl
  | some q => exact cond_no rfl ⟨by decide, rfl⟩

theorem ok_ref16_LastStart {l : List Leaf} (hl : FewL 1000 l) : FnE bs n_lustrumref16_LastStart ((Shape.slice sApiLeaf).compsE l) (.tup (.pair (.int .i64) (.int .i64))) (· = dayF (·.2.1) l) := by
  refine ok_han (e_lustrumref16_LastStart l _) rfl (HanOK.ofList [(142, .inl g_lustrumref16_LastStart__lustrumref16_told)] rfl rfl ⟨rfl, HanOK.none rfl rfl, trivial⟩) ?_
  unfold c_lustrumref16_LastStart dayF
  refine callP_eq (ok_ref16_All hl) ?_
  cases allF l with
  | none => exact cond_yes rfl rfl
  | some q => exact cond_no rfl ⟨by decide, rfl⟩

theorem ok_ref16_FirstEnd {l : List Leaf} (hl : FewL 1000 l) : FnE bs n_lustrumref16_FirstEnd ((Shape.slice sApiLeaf).compsE l) (.tup (.pair (.int .i64) (.int .i64))) (· = dayF (·.2.2.1) l) := by
  refine ok_han (e_lustrumref16_FirstEnd l _) rfl (HanOK.ofList [(142, .inl g_lustrumref16_FirstEnd__lustrumref16_told)] rfl rfl ⟨rfl, HanOK.none rfl rfl, trivial⟩) ?_
  unfold c_lustrumref16_FirstEnd dayF
  refine callP_eq (ok_ref16_All hl) ?_
  cases allF l with
  | none => exact cond_yes rfl rfl
  | some q => exact cond_no rfl ⟨by decide, rfl⟩

theorem ok_ref16_Latest {l : List Leaf} (hl : FewL 1000 l) : FnE bs n_lustrumref16_Latest ((Shape.slice sApiLeaf).compsE l) (.tup (.pair (.int .i64) (.int .i64))) (· = dayF (·.2.2.2) l) := by
  refine ok_han (e_lustrumref16_Latest l _) rfl (HanOK.ofList [(142, .inl g_lustrumref16_Latest__lustrumref16_told)] rfl rfl ⟨rfl, HanOK.none rfl rfl, trivial⟩) ?_
  unfold c_lustrumref16_Latest dayF
  refine callP_eq (ok_ref16_All hl) ?_
  cases allF l with
  | none => exact cond_yes rfl rfl
  | some q => exact cond_no rfl ⟨by decide, rfl⟩

/-! ### The program's -/

theorem ok_env_pick {gr : Bool} {g1 : Int × Int → Option (Int × Bool)} {g2 : Leaf → Option Runs} {s : Runs} (hn : s ≠ []) (hl : s.length ≤ 1000000000) : FnE bs n_env_way_pick ((Shape.pair sEnvWay (.slice sRun)).compsE ((gr, g1, g2), s)) (.int .i64) (· = if gr = true then hiF s else loF s) := by
  refine ok_of (e_env_way_pick ((gr, g1, g2), s) _) rfl ?_
  unfold c_env_way_pick
  dsimp only
  rw [rd_hi hn hl, rd_lo hn]
  exact cond_bool (fun h => ⟨last_in hn hl, by rw [if_pos h]⟩) fun h => ⟨first_in hn, by rw [if_neg (by rw [h]; decide)]⟩

/-- How a way tells a tidied leaf's day. -/
def WayV (gr : Bool) (g1 : Int × Int → Option (Int × Bool)) (g2 : Leaf → Option Runs) (f : Leaf) (v : Int) : Prop :=
  if f.1 = true then ∃ s, g2 f = some s ∧ s ≠ [] ∧ s.length ≤ 1000000000 ∧ (if gr = true then hiF s else loF s) = v
  else ∃ r, g1 (f.2.1, if gr = true then hiF f.2.2.1 else loF f.2.2.1) = some r ∧ r.1 = v

theorem ok_env_all {gr : Bool} {g1 : Int × Int → Option (Int × Bool)} {g2 : Leaf → Option Runs} {sel : Q4 → Int} {l : List Leaf} (hl : FewL 1000 l) (hv : ∀ f q, f ∈ l → extF f = some q → WayV gr g1 g2 (tidyF f) (sel q))
    (hs : ∀ p q : Q4, sel (min p.1 q.1, max p.2.1 q.2.1, min p.2.2.1 q.2.2.1, max p.2.2.2 q.2.2.2) = if gr = true then max (sel p) (sel q) else min (sel p) (sel q)) :
    FnE bs n_env_way_all ((Shape.pair sEnvWay (.slice sApiLeaf)).compsE ((gr, g1, g2), l)) (.tup (.pair (.int .i64) (.int .i64))) (· = dayF sel l) := by
  refine ok_of (e_env_way_all ((gr, g1, g2), l) _) rfl ?_
  unfold c_env_way_all
  have hll := hl.1
  refine loopP_of (fun z : Int × Int × Int => ∃ k : Nat, z.2.2 = k ∧ k ≤ l.length ∧ (z.1, z.2.1) = dayF sel (l.take k)) (fun z => l.length - z.2.2.toNat) ?_ ⟨0, rfl, Nat.zero_le _, rfl⟩
  rintro ⟨best, e, _⟩ A ⟨k, e1, hk, e2⟩ back
  dsimp only at e1 e2 ⊢
  subst e1
  refine cond_dec (fun h1 => ⟨⟨by omega, h1⟩, ?_⟩) fun h1 => ?_
  · have h1 : (k : Int) < l.length := h1
    have hk' : k < l.length := by omega
    have hg := List.getElem?_eq_getElem hk'
    generalize l[k] = f at hg
    have hfm := List.mem_of_getElem? hg
    have hf := hl.2 f hfm
    have ht := tidy_lens f
    rw [toNat_ofNat, rd_of (s := sApiLeaf) hg, w_succ (by omega)]
    refine callP_eq (ok_leaf_Tidy (f := f) (by omega) (by omega)) (cond_dec (fun h2 => ?_) fun h2 => ?_)
    · have h2 : extF f = none := tidy_nil.1 (len_zero.1 h2)
      refine back _ ⟨k + 1, rfl, hk', ?_⟩ (by dsimp only; omega)
      dsimp only
      unfold dayF at e2 ⊢
      rw [all_take_succ hg, h2, comb_none, ← e2]
    · have hne : (tidyF f).2.2.1 ≠ [] := fun e => h2 (len_zero.2 e)
      have h2 : ¬ extF f = none := fun e => hne (tidy_nil.2 e)
      obtain ⟨x, hx⟩ := Option.ne_none_iff_exists'.1 h2
      have hw := hv f x hfm hx
      -- the day is told: is it better?
      have step : ∀ v : Int, v = sel x → cond (!decide (e = (0 : Int))) (A (v, (0 : Int), ((k + 1 : Nat) : Int))) (cond (decide ((decide (best < v)) = gr)) (A (v, (0 : Int), ((k + 1 : Nat) : Int))) (A (best, e, ((k + 1 : Nat) : Int)))) := by
        intro v ev
        have next : ∀ b : Int, (∀ y, allF (l.take k) = some y → b = if gr = true then max (sel y) v else min (sel y) v) → (allF (l.take k) = none → b = v) → A (b, (0 : Int), ((k + 1 : Nat) : Int)) := by
          intro b q1 q2
          refine back _ ⟨k + 1, rfl, hk', ?_⟩ (by dsimp only; omega)
          dsimp only
          unfold dayF
          rw [all_take_succ hg, hx]
          cases hq : allF (l.take k) with
          | none =>
            rw [q2 hq, ev]
            rfl
          | some y =>
            rw [q1 y hq, ev]
            simp only [comb]
            rw [hs]
        unfold dayF at e2
        cases hq : allF (l.take k) with
        | none =>
          rw [hq] at e2
          have e3 : e = 9 := congrArg Prod.snd e2
          subst e3
          exact cond_yes (by decide) (next v (fun y hy => by rw [hq] at hy; cases hy) fun _ => rfl)
        | some y =>
          rw [hq] at e2
          have e3 : e = 0 := congrArg Prod.snd e2
          have e4 : best = sel y := congrArg Prod.fst e2
          subst e3
          refine cond_no (by decide) (cond_dec (fun h3 => next v (fun z hz => ?_) fun hz => absurd (hq.symm.trans hz) (by simp)) fun h3 => next best (fun z hz => ?_) fun hz => absurd (hq.symm.trans hz) (by simp)) <;> rw [hq] at hz <;> cases hz
          · rw [← e4, ← h3]
            by_cases hb : best < v
            · rw [if_pos (by simpa using hb)]; omega
            · rw [if_neg (by simpa using hb)]; omega
          · rw [← e4]
            cases gr with
            | true =>
              have : ¬ best < v := fun q => h3 (by simpa using q)
              rw [if_pos rfl]; omega
            | false =>
              have : best < v := by simpa using h3
              rw [if_neg (by decide)]; omega
      unfold WayV at hw
      refine cond_bool (fun h3 => ?_) fun h3 => ?_
      · have h3 : (tidyF f).1 = true := h3
        rw [if_pos h3] at hw
        obtain ⟨s, w1, w2, w3, w4⟩ := hw
        exact gcall_eq w1 (callP_eq (ok_env_pick w2 w3) (step _ w4))
      · have h3 : (tidyF f).1 = false := h3
        rw [if_neg (by rw [h3]; decide)] at hw
        obtain ⟨r, w1, w2⟩ := hw
        exact callP_eq (ok_env_pick hne (by omega)) (gcall_eq w1 (step _ w2))
  · rw [List.take_of_length_le (by have h1 : ¬ (k : Int) < l.length := h1; omega)] at e2
    exact e2

theorem cl_First : CloSpec bs 136 [] [] (.pair (.int .i64) (.int .i64)) (.tup (.pair (.int .i64) .bool)) (fun x => some (firstS x.1 x.2)) := ⟨(ok_unit_First (kind := 0) (i := 0)).1, fun x r hx => by cases hx; exact ok_unit_First⟩
theorem cl_Last : CloSpec bs 108 [] [] (.pair (.int .i64) (.int .i64)) (.tup (.pair (.int .i64) .bool)) (fun x => some (lastS x.1 x.2)) := ⟨(ok_unit_Last (kind := 0) (i := 0)).1, fun x r hx => by cases hx; exact ok_unit_Last⟩
theorem ok_env_starts {f : Leaf} : FnE bs n_env_starts (sApiLeaf.compsE f) (.slice sRun) (· = f.2.2.1) := ok_of (e_env_starts f _) rfl rfl
theorem ok_env_ends {f : Leaf} : FnE bs n_env_ends (sApiLeaf.compsE f) (.slice sRun) (· = f.2.2.2) := ok_of (e_env_ends f _) rfl rfl
theorem cl_starts : CloSpec bs 141 [] [] sApiLeaf (.slice sRun) (fun x : Leaf => some x.2.2.1) := ⟨(ok_env_starts (f := (false, 0, [], []))).1, fun x r hx => by cases hx; rw [List.append_nil]; exact ok_env_starts⟩
theorem cl_ends : CloSpec bs 139 [] [] sApiLeaf (.slice sRun) (fun x : Leaf => some x.2.2.2) := ⟨(ok_env_ends (f := (false, 0, [], []))).1, fun x r hx => by cases hx; rw [List.append_nil]; exact ok_env_ends⟩

theorem way_of {gr : Bool} {g1 : Int × Int → Option (Int × Bool)} {g2 : Leaf → Option Runs} {f : Leaf} {q : Q4} (h : extF f = some q) (hla : (tidyF f).2.2.1.length ≤ 1000000000) (hlb : (tidyF f).2.2.2.length ≤ 1000000000) {v : Int}
    (hu : ∀ u s, ofF f = some (.inl (u, s)) → (0 ≤ loF s ∧ loF s < VCal.ucount u) → (0 ≤ hiF s ∧ hiF s < VCal.ucount u) → ∃ r, g1 (u, if gr = true then hiF s else loF s) = some r ∧ r.1 = v)
    (hb : ∀ a b, ofF f = some (.inr (a, b)) → ∃ s, g2 (true, 0, a, b) = some s ∧ (s = a ∨ s = b) ∧ (if gr = true then hiF s else loF s) = v) : WayV gr g1 g2 (tidyF f) v := by
  unfold WayV
  rcases ho : ofF f with _ | ⟨u, s⟩ | ⟨a, b⟩
  · rw [ext_none.2 ho] at h; cases h
  · have e : tidyF f = (false, u, s, []) := by unfold tidyF; rw [ho]
    obtain ⟨h1, h2, h3, h4, h5, h6, h7⟩ := of_units ho
    have b1 := Within.bounds h6 (mem_lo h6.1 h5)
    have b2 := Within.bounds h6 (mem_hi h6.1 h5)
    rw [e, if_neg (by simp)]
    exact hu u s ho (by omega) (by omega)
  · have e : tidyF f = (true, 0, a, b) := by unfold tidyF; rw [ho]
    obtain ⟨sa, sb, na, nb, l1, l2⟩ := span_ends ho
    rw [e] at hla hlb
    rw [e, if_pos rfl]
    obtain ⟨s, w1, w2, w3⟩ := hb a b ho
    rcases w2 with rfl | rfl
    · exact ⟨_, w1, na, hla, w3⟩
    · exact ⟨_, w1, nb, hlb, w3⟩

section
variable {l : List Leaf} (hl : FewL 1000 l)

theorem FewL.tidy {f : Leaf} (hl : FewL 1000 l) (hf : f ∈ l) : (tidyF f).2.2.1.length ≤ 1000000000 ∧ (tidyF f).2.2.2.length ≤ 1000000000 := by
  have := hl.2 f hf
  have := tidy_lens f
  omega

theorem ok_env_Earliest (hl : FewL 1000 l) : FnE bs n_env_Earliest ((Shape.slice sApiLeaf).compsE l) (.tup (.pair (.int .i64) (.int .i64))) (· = dayF (·.1) l) := by
  refine ok_of (e_env_Earliest l _) rfl ?_
  unfold c_env_Earliest
  refine ⟨_, cl_First, _, cl_starts, callP_eq (ok_env_all (sel := (·.1)) hl (fun f q hf hq => ?_) fun p q => rfl) rfl⟩
  have ht := hl.tidy hf
  refine way_of hq ht.1 ht.2 (fun u s ho b1 b2 => ⟨_, rfl, ?_⟩) fun a b ho => ⟨_, rfl, .inl rfl, ?_⟩ <;> unfold extF at hq <;> rw [ho] at hq <;> cases hq
  · show (firstS u (loF s)).1 = _
    unfold firstS
    rw [if_pos (by omega)]
  · rfl

theorem ok_env_Latest (hl : FewL 1000 l) : FnE bs n_env_Latest ((Shape.slice sApiLeaf).compsE l) (.tup (.pair (.int .i64) (.int .i64))) (· = dayF (·.2.2.2) l) := by
  refine ok_of (e_env_Latest l _) rfl ?_
  unfold c_env_Latest
  refine ⟨_, cl_Last, _, cl_ends, callP_eq (ok_env_all (sel := (·.2.2.2)) hl (fun f q hf hq => ?_) fun p q => rfl) rfl⟩
  have ht := hl.tidy hf
  refine way_of hq ht.1 ht.2 (fun u s ho b1 b2 => ⟨_, rfl, ?_⟩) fun a b ho => ⟨_, rfl, .inr rfl, ?_⟩ <;> unfold extF at hq <;> rw [ho] at hq <;> cases hq
  · dsimp only; unfold lastS; rw [if_pos rfl, if_pos (by omega)]
  · rfl

theorem ok_env_FirstEnd (hl : FewL 1000 l) : FnE bs n_env_FirstEnd ((Shape.slice sApiLeaf).compsE l) (.tup (.pair (.int .i64) (.int .i64))) (· = dayF (·.2.2.1) l) := by
  refine ok_of (e_env_FirstEnd l _) rfl ?_
  unfold c_env_FirstEnd
  refine ⟨_, cl_Last, _, cl_ends, callP_eq (ok_env_all (sel := (·.2.2.1)) hl (fun f q hf hq => ?_) fun p q => rfl) rfl⟩
  have ht := hl.tidy hf
  refine way_of hq ht.1 ht.2 (fun u s ho b1 b2 => ⟨_, rfl, ?_⟩) fun a b ho => ⟨_, rfl, .inr rfl, ?_⟩ <;> unfold extF at hq <;> rw [ho] at hq <;> cases hq
  · show (lastS u (loF s)).1 = _
    unfold lastS
    rw [if_pos (by omega)]
  · rfl

theorem ok_env_LastStart (hl : FewL 1000 l) : FnE bs n_env_LastStart ((Shape.slice sApiLeaf).compsE l) (.tup (.pair (.int .i64) (.int .i64))) (· = dayF (·.2.1) l) := by
  refine ok_of (e_env_LastStart l _) rfl ?_
  unfold c_env_LastStart
  refine ⟨_, cl_First, _, cl_starts, callP_eq (ok_env_all (sel := (·.2.1)) hl (fun f q hf hq => ?_) fun p q => rfl) rfl⟩
  have ht := hl.tidy hf
  refine way_of hq ht.1 ht.2 (fun u s ho b1 b2 => ⟨_, rfl, ?_⟩) fun a b ho => ⟨_, rfl, .inl rfl, ?_⟩ <;> unfold extF at hq <;> rw [ho] at hq <;> cases hq
  · dsimp only; unfold firstS; rw [if_pos rfl, if_pos (by omega)]
  · rfl
end
end Go.Proofs.YtocmlcpcnjaaeaaGreatDoor.V


/- Places in order: plain facts. No program in sight. -/
namespace Go.Proofs.YtocmlcpcnjaaeaaGreatDoor.V
set_option linter.unusedVariables false
set_option linter.unusedSimpArgs false

/-- A place, its key, and whether it is empty. -/
abbrev Pl := Int × (Int × Int) × Bool

/-- Is one taken ahead of another one, or alike? -/
def leP (a b : Pl) : Prop := (a.2.2 = false ∧ b.2.2 = true) ∨ (a.2.2 = b.2.2 ∧ (a.2.1.1 < b.2.1.1 ∨ (a.2.1.1 = b.2.1.1 ∧ (a.2.1.2 < b.2.1.2 ∨ (a.2.1.2 = b.2.1.2 ∧ a.1 ≤ b.1)))))
instance (a b : Pl) : Decidable (leP a b) := inferInstanceAs (Decidable (_ ∨ _))

theorem ordP : HP.Ord leP := by
  refine ⟨fun a b => ?_, fun a b c h k => ?_⟩
  · obtain ⟨a1, ⟨a2, a3⟩, a4⟩ := a
    obtain ⟨b1, ⟨b2, b3⟩, b4⟩ := b
    unfold leP
    dsimp only
    cases a4 <;> cases b4 <;> simp <;> omega
  · obtain ⟨a1, ⟨a2, a3⟩, a4⟩ := a
    obtain ⟨b1, ⟨b2, b3⟩, b4⟩ := b
    obtain ⟨c1, ⟨c2, c3⟩, c4⟩ := c
    unfold leP at *
    dsimp only at *
    cases a4 <;> cases b4 <;> cases c4 <;> simp at * <;> omega

/-- The key of families, and whether they are empty. -/
def keyF (x : List Leaf) : (Int × Int) × Bool := (((dayF (·.1) x).1, (dayF (·.2.2.2) x).1), !decide ((dayF (·.1) x).2 = 0))

def placesF (l : List (List Leaf)) : List Pl := (List.range l.length).map fun (k : Nat) => ((k : Int), keyF (l.getD k []))

theorem places_take {l : List (List Leaf)} {k : Nat} (h : k < l.length) : placesF (l.take (k + 1)) = placesF (l.take k) ++ [((k : Int), keyF (l.getD k []))] := by
  unfold placesF
  have e1 : (l.take (k + 1)).length = k + 1 := by rw [List.length_take]; omega
  have e2 : (l.take k).length = k := by rw [List.length_take]; omega
  rw [e1, e2, List.range_succ, List.map_append, List.map_singleton]
  congr 1
  · refine List.map_congr_left fun j hj => ?_
    have hj := List.mem_range.1 hj
    rw [List.getD_eq_getElem?_getD, List.getD_eq_getElem?_getD, List.getElem?_take, List.getElem?_take, if_pos (by omega), if_pos (by omega)]
  · rw [List.getD_eq_getElem?_getD, List.getElem?_take, if_pos (by omega), ← List.getD_eq_getElem?_getD]

/-- What sorting answers. -/
def SortR (l : List (List Leaf)) (out : List Int) : Prop := ∃ ps : List Pl, ps.Perm (placesF l) ∧ ps.Pairwise leP ∧ out = ps.map (·.1)

theorem placesF_length (l : List (List Leaf)) : (placesF l).length = l.length := by simp [placesF]

/-- What was taken, and the heap that is left. -/
def Took (all taken heap : List Pl) : Prop := (taken ++ heap).Perm all ∧ taken.Pairwise leP ∧ ∀ a ∈ taken, ∀ b ∈ heap, leP a b

theorem Took.start (all heap : List Pl) (h : heap.Perm all) : Took all [] heap := ⟨h, List.Pairwise.nil, fun a ha => by cases ha⟩

theorem Took.step {all taken heap heap' : List Pl} {x : Pl} (h : Took all taken heap) (hp : heap.Perm (x :: heap')) (hx : ∀ b ∈ heap, leP x b) : Took all (taken ++ [x]) heap' := by
  obtain ⟨h1, h2, h3⟩ := h
  have hxm : x ∈ heap := hp.symm.subset (List.mem_cons_self ..)
  refine ⟨?_, ?_, ?_⟩
  · rw [List.append_assoc]
    exact (List.Perm.append_left taken hp.symm).trans h1
  · rw [List.pairwise_append]
    refine ⟨h2, List.pairwise_singleton _ _, fun a ha b hb => ?_⟩
    cases List.mem_singleton.1 hb
    exact h3 a ha x hxm
  · intro a ha b hb
    have hbm : b ∈ heap := hp.symm.subset (List.mem_cons_of_mem _ hb)
    rcases List.mem_append.1 ha with ha | ha
    · exact h3 a ha b hbm
    · cases List.mem_singleton.1 ha
      exact hx b hbm

theorem Took.done {all taken : List Pl} (h : Took all taken []) : taken.Perm all ∧ taken.Pairwise leP := ⟨by simpa using h.1, h.2.1⟩
end Go.Proofs.YtocmlcpcnjaaeaaGreatDoor.V


/- What sets of units cover: plain facts. No program in sight. -/
namespace Go.Proofs.YtocmlcpcnjaaeaaGreatDoor.V
set_option linter.unusedVariables false
set_option linter.unusedSimpArgs false

def unitsF (u : Int) (s : Runs) : Runs := clipF (makeF s) 0 (VCal.ucount u - 1)
theorem units_sane (u : Int) (s : Runs) : Sane (unitsF u s) := sane_clip (make_sane s)
theorem units_length (u : Int) (s : Runs) : (unitsF u s).length ≤ s.length := Nat.le_trans (clip_length _ _ _) (make_length s)
theorem mem_units {u : Int} {s : Runs} {n : Int} : mem (unitsF u s) n ↔ mem (makeF s) n ∧ 0 ≤ n ∧ n < VCal.ucount u := by
  unfold unitsF
  rw [mem_clip]
  constructor
  · rintro ⟨a, b, c⟩; exact ⟨a, b, by omega⟩
  · rintro ⟨a, b, c⟩; exact ⟨a, b, by omega⟩

theorem units_in {u : Int} {s : Runs} {r : Int × Int} (h : r ∈ unitsF u s) : 0 ≤ r.1 ∧ r.1 ≤ r.2 ∧ r.2 < VCal.ucount u := by
  have h1 := (Sane.bounds (units_sane u s) r h).2.1
  have a := (mem_units (u := u) (s := s) (n := r.1)).1 ⟨r, h, Int.le_refl _, h1⟩
  have b := (mem_units (u := u) (s := s) (n := r.2)).1 ⟨r, h, h1, Int.le_refl _⟩
  omega

end Go.Proofs.YtocmlcpcnjaaeaaGreatDoor.V


/- image.units, image.Cover, cover: their contracts. No condition of its own. -/
namespace Go.Proofs.YtocmlcpcnjaaeaaGreatDoor.V
open Go
set_option linter.unusedVariables false
set_option linter.unusedSimpArgs false

theorem ok_image_units {u : Int} {s : Runs} (hl : s.length < 65536) : FnE bs n_image_units ((Shape.pair (.int .i64) (.slice sRun)).compsE (u, s)) (.slice sRun) (· = unitsF u s) := by
  refine ok_of (e_image_units (u, s) _) rfl ?_
  unfold c_image_units
  have hc := VCal.ucount_pos u
  refine callP_eq ok_unit_Count ?_
  rw [w64_of (n := VCal.ucount u - 1) (by omega)]
  exact callP_eq (ok_sets_ClipA hl) rfl

/-! ### Possible -/

/-! ### Days, Sure, Certain -/

end Go.Proofs.YtocmlcpcnjaaeaaGreatDoor.V


/- lustrumlaw16: the laws of the least and greatest days, as conditions on the program's functions alone. No condition of its own. -/
namespace Go.Proofs.YtocmlcpcnjaaeaaGreatDoor.V
open Go
set_option linter.unusedVariables false
set_option linter.unusedSimpArgs false

theorem w_succ63 {a : Nat} (h : a < 9223372036854775807) : w64 ((a : Int) + 1) = ((a + 1 : Nat) : Int) := by rw [w64_of (by omega)]; omega
theorem ok_lustrumref15_Few {l : List Leaf} (hl : l.length ≤ 9223372036854775807) : FnE bs n_lustrumref15_Few ((Shape.slice sApiLeaf).compsE l) .bool (fun r => r = true → l.length ≤ 12 ∧ FewL 40 l) := by
  refine ok_of (e_lustrumref15_Few l _) rfl ?_
  unfold c_lustrumref15_Few
  refine loopP_of (fun z : Int => ∃ k : Nat, z = k ∧ k ≤ l.length ∧ ∀ (i : Nat) f, i < k → l[i]? = some f → f.2.2.1.length ≤ 40 ∧ f.2.2.2.length ≤ 40) (fun z => l.length - z.toNat) ?_ ⟨0, rfl, Nat.zero_le _, fun i f h => by omega⟩
  rintro _ A ⟨k, rfl, hk, hi⟩ back
  refine cond_dec (fun h1 => ⟨⟨by omega, h1⟩, ?_⟩) fun h1 => ?_
  · have h1 : (k : Int) < l.length := h1
    have hk' : k < l.length := by omega
    have hg := List.getElem?_eq_getElem hk'
    generalize l[k] = f at hg
    rw [toNat_ofNat, rd_of (s := sApiLeaf) hg, w_succ63 (by omega)]
    refine callP_eq (ok_lustrumref14_Few (f := f)) (cond_not (fun h => fun q => by cases q) fun h => ?_)
    have hf : f.2.2.1.length ≤ 40 ∧ f.2.2.2.length ≤ 40 := by simpa using h
    refine back _ ⟨k + 1, rfl, hk', fun i g hik hg2 => ?_⟩ (by omega)
    by_cases e : i = k
    · subst e; rw [hg] at hg2; cases hg2; exact hf
    · exact hi i g (by omega) hg2
  · intro h
    have h : (l.length : Int) ≤ 12 := of_decide_eq_true h
    refine ⟨by omega, by omega, fun f hf => ?_⟩
    obtain ⟨i, hi2⟩ := List.getElem?_of_mem hf
    have := (List.getElem?_eq_some_iff.1 hi2).1
    exact hi i f (by have h1 : ¬ (k : Int) < l.length := h1; omega) hi2

theorem FewL.mono {n m : Nat} {l : List Leaf} (h : FewL n l) (hnm : n ≤ m) : FewL m l := ⟨h.1, fun f hf => by have := h.2 f hf; omega⟩

theorem few1000 {l : List Leaf} (h : FewL 40 l) : FewL 1000 l := h.mono (by decide)

end Go.Proofs.YtocmlcpcnjaaeaaGreatDoor.V


/- lustrumlaw17: the laws of the days that are possible, and certain, as conditions on the program's functions alone. No condition of its own. -/
namespace Go.Proofs.YtocmlcpcnjaaeaaGreatDoor.V
open Go
set_option linter.unusedVariables false
set_option linter.unusedSimpArgs false

theorem any_append {l m : List Leaf} {p : Int × Int} : anyP (l ++ m) p ↔ anyP l p ∨ anyP m p := by
  unfold anyP
  constructor
  · rintro ⟨f, hf, h⟩
    rcases List.mem_append.1 hf with e | e
    · exact .inl ⟨f, e, h⟩
    · exact .inr ⟨f, e, h⟩
  · rintro (⟨f, hf, h⟩ | ⟨f, hf, h⟩)
    · exact ⟨f, List.mem_append_left _ hf, h⟩
    · exact ⟨f, List.mem_append_right _ hf, h⟩

end Go.Proofs.YtocmlcpcnjaaeaaGreatDoor.V


/- Package order: what its functions answer. No condition of its own. -/
namespace Go.Proofs.YtocmlcpcnjaaeaaGreatDoor.V
open Go
set_option linter.unusedVariables false
set_option linter.unusedSimpArgs false
set_option linter.unusedSectionVars false

theorem ok_order_queue_Len {xs : List Pl} : FnE bs n_order_queue_Len ((Shape.slice sOrderPlace).compsE xs) (.int .i64) (· = (xs.length : Int)) := ok_of (e_order_queue_Len xs _) rfl rfl

theorem ok_cmp_Or {x y : Int} : FnE bs n_cmp_Or ((Shape.slice (.int .i64)).compsE [x, y]) (.int .i64) (· = if x = 0 then y else x) := by
  refine ok_of (e_cmp_Or [x, y] _) rfl ?_
  unfold c_cmp_Or
  refine loopP_of (fun z : Int => ∃ k : Nat, z = k ∧ k ≤ 2 ∧ (1 ≤ k → x = 0) ∧ (2 ≤ k → y = 0)) (fun z => 2 - z.toNat) ?_ ⟨0, rfl, by decide, fun h => by omega, fun h => by omega⟩
  rintro _ A ⟨k, rfl, hk, h1, h2⟩ back
  refine cond_dec (fun q => ?_) fun q => ?_
  · have q : (k : Int) < 2 := q
    refine ⟨⟨by omega, q⟩, ?_⟩
    rw [w_succ (by omega), Int.toNat_natCast]
    match k, h1, h2, q, back with
    | 0, h1, h2, q, back =>
      refine cond_bool (fun e => ?_) fun e => ?_
      · have e : ¬ x = 0 := by simpa [rd] using e
        show x = _
        rw [if_neg e]
      · have e : x = 0 := by simpa [rd] using e
        exact back _ ⟨1, rfl, by decide, fun _ => e, fun h => by omega⟩ (by decide)
    | 1, h1, h2, q, back =>
      have hx := h1 (by decide)
      refine cond_bool (fun e => ?_) fun e => ?_
      · show y = _
        rw [if_pos hx]
      · have e : y = 0 := by simpa [rd] using e
        exact back _ ⟨2, rfl, by decide, fun _ => hx, fun _ => e⟩ (by decide)
    | k + 2, _, _, q, _ => omega
  · have q : ¬ (k : Int) < 2 := q
    show (0 : Int) = _
    rw [if_pos (h1 (by omega)), h2 (by omega)]

/-- How keys compare. -/
def cmpK (a b : Int × Int) : Int := if cmpS a.1 b.1 = 0 then cmpS a.2 b.2 else cmpS a.1 b.1

theorem ok_order_Compare {a b : Int × Int} : FnE bs n_order_Compare ((Shape.pair sRun sRun).compsE (a, b)) (.int .i64) (· = cmpK a b) := by
  refine ok_of (e_order_Compare (a, b) _) rfl ?_
  unfold c_order_Compare
  exact callP_eq ok_cmp_Compare (callP_eq ok_cmp_Compare (callP_eq ok_cmp_Or rfl))

def dP : Pl := (0, (0, 0), false)

theorem cmpS3 (a b : Int) : (cmpS a b = -1 ∧ a < b) ∨ (cmpS a b = 0 ∧ a = b) ∨ (cmpS a b = 1 ∧ b < a) := by
  unfold cmpS
  split
  · exact .inl ⟨rfl, by assumption⟩
  · split
    · exact .inr (.inr ⟨rfl, by assumption⟩)
    · exact .inr (.inl ⟨rfl, by omega⟩)

/-- Is one taken ahead of another one? -/
theorem less_of {a b : Pl} : (if a.2.2 = b.2.2 then (if cmpK a.2.1 b.2.1 = 0 then decide (a.1 < b.1) else decide (cmpK a.2.1 b.2.1 < 0)) else b.2.2) = decide (¬ leP b a) := by
  obtain ⟨a1, ⟨a2, a3⟩, a4⟩ := a
  obtain ⟨b1, ⟨b2, b3⟩, b4⟩ := b
  unfold leP cmpK
  dsimp only
  cases a4 <;> cases b4
  · rw [if_pos rfl]
    rcases cmpS3 a2 b2 with ⟨e1, h1⟩ | ⟨e1, h1⟩ | ⟨e1, h1⟩ <;> rcases cmpS3 a3 b3 with ⟨e2, h2⟩ | ⟨e2, h2⟩ | ⟨e2, h2⟩ <;> rw [e1, e2] <;> apply Bool.eq_iff_iff.2 <;> simp <;> omega
  · simp
  · simp
  · rw [if_pos rfl]
    rcases cmpS3 a2 b2 with ⟨e1, h1⟩ | ⟨e1, h1⟩ | ⟨e1, h1⟩ <;> rcases cmpS3 a3 b3 with ⟨e2, h2⟩ | ⟨e2, h2⟩ | ⟨e2, h2⟩ <;> rw [e1, e2] <;> apply Bool.eq_iff_iff.2 <;> simp <;> omega

theorem ok_order_queue_Less {xs : List Pl} {i k : Nat} (hi : i < xs.length) (hk : k < xs.length) : FnE bs n_order_queue_Less ((Shape.pair (.slice sOrderPlace) (.pair (.int .i64) (.int .i64))).compsE (xs, (i : Int), (k : Int))) .bool (· = decide (¬ leP (HP.el dP xs k) (HP.el dP xs i))) := by
  refine ok_of (e_order_queue_Less (xs, (i : Int), (k : Int)) _) rfl ?_
  unfold c_order_queue_Less
  refine ⟨show (0 : Int) ≤ (i : Int) ∧ (i : Int) < (xs.length : Int) by omega, show (0 : Int) ≤ (k : Int) ∧ (k : Int) < (xs.length : Int) by omega, ?_⟩
  simp only [and_self]
  rw [Int.toNat_natCast, Int.toNat_natCast]
  have e1 : rd sOrderPlace xs i = HP.el dP xs i := rfl
  have e2 : rd sOrderPlace xs k = HP.el dP xs k := rfl
  rw [e1, e2]
  generalize HP.el dP xs i = a
  generalize HP.el dP xs k = b
  rw [← less_of]
  refine cond_bool (fun h => ?_) fun h => ?_
  · have h : ¬ a.2.2 = b.2.2 := by simpa using h
    rw [if_neg h]
  · have h : a.2.2 = b.2.2 := by simpa using h
    rw [if_pos h]
    refine callP_eq (ok_order_Compare (a := a.2.1) (b := b.2.1)) (cond_bool (fun h2 => ?_) fun h2 => ?_)
    · have h2 : ¬ cmpK a.2.1 b.2.1 = 0 := by simpa using h2
      rw [if_neg h2]
    · have h2 : cmpK a.2.1 b.2.1 = 0 := by simpa using h2
      rw [if_pos h2]

theorem ok_order_Of {l : List Leaf} (hl : FewL 1000 l) : FnE bs n_order_Of ((Shape.slice sApiLeaf).compsE l) (.tup (.pair sRun (.int .i64))) (· = (((dayF (·.1) l).1, (dayF (·.2.2.2) l).1), (dayF (·.1) l).2)) := by
  refine ok_of (e_order_Of l _) rfl ?_
  unfold c_order_Of
  exact callP_eq (ok_env_Earliest hl) (callP_eq (ok_env_Latest hl) rfl)

theorem half_eq (j : Nat) (hj : j < 4611686018427387904) : w64 (Int.tdiv (w64 ((j : Int) - 1)) 2) = (((j - 1) / 2 : Nat) : Int) := by
  cases j with
  | zero => rfl
  | succ j =>
    rw [w64_of (n := ((j + 1 : Nat) : Int) - 1) (by omega), tdiv_of (by omega), w64_of (by omega)]
    omega

set_option maxRecDepth 100000 in
theorem ok_order_Sort {l : List (List Leaf)} (hl : ∀ x ∈ l, FewL 1000 x) (hn : l.length ≤ 1000000) : FnE bs n_order_Sort ((Shape.slice (.slice sApiLeaf)).compsE l) (.slice (.int .i64)) (SortR l) := by
  have H1 : HanOK g_order_Sort__heap_Push__heap_up := HanOK.ofLists [] [("Less", .call 108 110 286), ("Swap", .val 108 110 289 g_order_Sort__heap_Push__heap_up__mSwap)] rfl rfl trivial ⟨rfl, HanOK.none rfl rfl, trivial⟩
  have H2 : HanOK g_order_Sort__heap_Push := HanOK.ofLists [(143, .inl g_order_Sort__heap_Push__heap_up)] [("Push", .ptr 108 288 g_order_Sort__heap_Push__mPush), ("Len", .call 108 110 91)] rfl rfl ⟨rfl, H1, trivial⟩ ⟨rfl, HanOK.none rfl rfl, trivial⟩
  have H3 : HanOK g_order_Sort__heap_Pop__heap_down := HanOK.ofLists [] [("Less", .call 108 110 286), ("Swap", .val 108 110 289 g_order_Sort__heap_Pop__heap_down__mSwap)] rfl rfl trivial ⟨rfl, HanOK.none rfl rfl, trivial⟩
  have H4 : HanOK g_order_Sort__heap_Pop := HanOK.ofLists [(144, .inl g_order_Sort__heap_Pop__heap_down)] [("Len", .call 108 110 91), ("Swap", .val 108 110 289 g_order_Sort__heap_Pop__mSwap), ("Pop", .ptr 108 287 g_order_Sort__heap_Pop__mPop)] rfl rfl ⟨rfl, H3, trivial⟩ ⟨rfl, HanOK.none rfl rfl, rfl, HanOK.none rfl rfl, trivial⟩
  refine ok_han (e_order_Sort l _) rfl (HanOK.ofList [(90, .inl g_order_Sort__heap_Push), (92, .inl g_order_Sort__heap_Pop)] rfl rfl ⟨rfl, H2, rfl, H4, trivial⟩) ?_
  unfold c_order_Sort
  refine loopP_of (fun z : Int × List Pl × Unit => ∃ k : Nat, z.1 = k ∧ k ≤ l.length ∧ z.2.1.Perm (placesF (l.take k)) ∧ HP.Heap dP leP z.2.1 z.2.1.length) (fun z => l.length - z.1.toNat) ?_ ⟨0, rfl, Nat.zero_le _, List.Perm.refl _, HP.Heap.nil dP⟩
  rintro ⟨_, xs, _⟩ A ⟨k, e1, hk, hp, hh⟩ back
  dsimp only at e1 hp hh ⊢
  subst e1
  have hxl : xs.length = k := by rw [hp.length_eq, placesF_length, List.length_take]; omega
  refine cond_dec (fun h1 => ⟨⟨by omega, h1⟩, ?_⟩) fun h1 => ?_
  · have h1 : (k : Int) < l.length := h1
    have hk' : k < l.length := by omega
    have hg := List.getElem?_eq_getElem hk'
    have hx := hl l[k] (List.getElem_mem hk')
    have hgd : l.getD k [] = l[k] := by rw [List.getD_eq_getElem?_getD, hg]; rfl
    have hpt := places_take hk'
    rw [hgd] at hpt
    generalize l[k] = x at hg hx hpt
    rw [Int.toNat_natCast, rd_of (s := .slice sApiLeaf) hg, w_succ (by omega)]
    refine callP_eq (ok_order_Of hx) ?_
    refine ⟨by simp only [List.length_cons, List.length_nil]; omega, callP_eq ok_order_queue_Len ?_⟩
    have hkey : (((k : Int), ((dayF (·.1) x).1, (dayF (·.2.2.2) x).1), !decide ((dayF (·.1) x).2 = 0)) : Pl) = ((k : Int), keyF x) := rfl
    dsimp only
    rw [hkey, w64_of (by rw [List.length_append]; simp only [List.length_cons, List.length_nil]; omega)]
    generalize hpp : ((k : Int), keyF x) = p at hpt
    refine loopP_of (fun z : Int × List Pl => ∃ j : Nat, z.1 = j ∧ j < k + 1 ∧ z.2.length = k + 1 ∧ z.2.Perm (xs ++ [p]) ∧ HP.Up dP leP z.2 (k + 1) j) (fun z => z.1.toNat) ?_
      ⟨k, by rw [List.length_append]; simp only [List.length_cons, List.length_nil]; omega, by omega, by rw [List.length_append]; simp only [List.length_cons, List.length_nil]; omega, List.Perm.refl _, by have := HP.Up.start dP (x := p) hh; rw [hxl] at this; exact this⟩
    rintro ⟨_, ys⟩ A2 ⟨j, e1, hj, hyl, hyp, hu⟩ back2
    dsimp only at e1 hyl hyp hu ⊢
    subst e1
    rw [half_eq j (by omega)]
    have hjp : (j - 1) / 2 < k + 1 := by omega
    have fin : HP.Heap dP leP ys (k + 1) → A (((k + 1 : Nat) : Int), ys, ()) := fun q => back (((k + 1 : Nat) : Int), ys, ()) ⟨k + 1, rfl, hk', by dsimp only; rw [hpt]; exact hyp.trans (List.Perm.append_right [p] hp), by dsimp only; rw [hyl]; exact q⟩ (by dsimp only; omega)
    refine ⟨by decide, cond_dec (fun q => ?_) fun q => ?_⟩
    · have q : (((j - 1) / 2 : Nat) : Int) = (j : Int) := q
      exact fin (hu.done dP (.inl (by omega)))
    · have q : ¬ (((j - 1) / 2 : Nat) : Int) = (j : Int) := q
      have hj0 : 0 < j := by omega
      refine callP_eq (ok_order_queue_Less (xs := ys) (i := j) (k := (j - 1) / 2) (by omega) (by omega)) (cond_not (fun q2 => ?_) fun q2 => ?_)
      · have q2 := of_decide_eq_false q2
        exact fin (hu.done dP (.inr (Classical.not_not.1 q2)))
      · have q2 : ¬ leP (HP.el dP ys ((j - 1) / 2)) (HP.el dP ys j) := of_decide_eq_true q2
        have le : leP (HP.el dP ys j) (HP.el dP ys ((j - 1) / 2)) := (ordP.tot _ _).resolve_right q2
        refine ⟨⟨by omega, by omega⟩, ⟨by omega, by omega⟩, ⟨by omega, by omega⟩, ⟨by omega, by rw [List.length_set]; omega⟩, ?_⟩
        rw [Int.toNat_natCast, Int.toNat_natCast]
        refine back2 ((((j - 1) / 2 : Nat) : Int), HP.sw dP ys ((j - 1) / 2) j) ⟨(j - 1) / 2, rfl, hjp, by rw [HP.sw_length]; exact hyl, (HP.sw_perm dP (by omega) (by omega)).trans hyp, hu.step dP ordP (by omega) hj hj0 le⟩ (by dsimp only; omega)
  · have hkl : k = l.length := by have h1 : ¬ (k : Int) < l.length := h1; omega
    subst hkl
    rw [List.take_length] at hp
    refine loopP_of (fun z : Unit × List Pl × Unit × List Int => ∃ taken : List Pl, z.2.2.2 = taken.map (·.1) ∧ Took (placesF l) taken z.2.1 ∧ HP.Heap dP leP z.2.1 z.2.1.length) (fun z => z.2.1.length) ?_ ⟨[], rfl, Took.start _ _ hp, hh⟩
    clear hp hh hxl xs back
    rintro ⟨_, xs, _, out⟩ A3 ⟨taken, e1, ht, hh⟩ back
    dsimp only at e1 ht hh ⊢
    subst e1
    have hlen : taken.length + xs.length = l.length := by
      have := ht.1.length_eq
      rw [List.length_append, placesF_length] at this
      exact this
    refine callP_eq ok_order_queue_Len (cond_dec (fun q => ?_) fun q => ?_)
    · have q : (0 : Int) < (xs.length : Int) := q
      obtain ⟨n, hnx⟩ : ∃ n, xs.length = n + 1 := ⟨xs.length - 1, by omega⟩
      refine callP_eq ok_order_queue_Len ?_
      have hw : w64 ((xs.length : Int) - 1) = (n : Int) := by rw [w64_of (by omega)]; omega
      rw [hw, Int.toNat_natCast]
      refine ⟨⟨by omega, by omega⟩, ⟨by decide, q⟩, ⟨by decide, q⟩, ⟨by omega, by rw [List.length_set]; omega⟩, ?_⟩
      have hx0 := HP.el_sw dP (xs := xs) (i := 0) (j := n) (k := n) (by omega) (by omega)
      rw [if_pos rfl] at hx0
      rw [hnx] at hh
      refine loopP_of (fun z : Int × List Pl => ∃ i : Nat, z.1 = i ∧ i ≤ n ∧ z.2.length = n + 1 ∧ z.2.Perm xs ∧ HP.el dP z.2 n = HP.el dP xs 0 ∧ HP.Down dP leP z.2 n i) (fun z => n + 1 - z.1.toNat) ?_
        ⟨0, rfl, Nat.zero_le _, by show (HP.sw dP xs 0 n).length = n + 1; rw [HP.sw_length]; exact hnx, HP.sw_perm dP (by omega) (by omega), hx0, HP.Down.start dP (by omega) hh⟩
      rintro ⟨_, ys⟩ A4 ⟨i, e1, hi, hyl, hyp, hyn, hd⟩ back4
      dsimp only at e1 hyl hyp hyn hd ⊢
      subst e1
      have hw2 : w64 ((ys.length : Int) - 1) = (n : Int) := by rw [w64_of (by omega)]; omega
      rw [hw2, w_mul2 (by omega), w_succ (a := 2 * i) (by omega), w_succ (a := 2 * i + 1) (by omega)]
      simp only [Int.toNat_natCast]
      have fin : HP.Heap dP leP ys n → chk ((0 : Int) ≤ (n : Int) ∧ (n : Int) < (ys.length : Int)) (chk ((0 : Int) ≤ (n : Int) ∧ (n : Int) ≤ (ys.length : Int)) (chk (((taken.map (·.1)).length + [(rd sOrderPlace ys n).1].length) * 8 ≤ 140737488355328) (A3 ((), List.take n ys, (), taken.map (·.1) ++ [(rd sOrderPlace ys n).1])))) := fun hq => by
        refine ⟨⟨by omega, by omega⟩, ⟨by omega, by omega⟩, by rw [List.length_map]; simp only [List.length_cons, List.length_nil]; omega, ?_⟩
        refine back ((), List.take n ys, (), taken.map (·.1) ++ [(rd sOrderPlace ys n).1]) ⟨taken ++ [HP.el dP ys n], by rw [List.map_append]; rfl, ?_, ?_⟩ (by dsimp only; rw [List.length_take]; omega)
        · refine ht.step (hyp.symm.trans (HP.take_perm dP hyl)) fun b hb => ?_
          rw [hyn]
          obtain ⟨c, hc, he⟩ := List.getElem_of_mem hb
          have := HP.Heap.top dP ordP hh c (by omega)
          have e : HP.el dP xs c = b := by rw [← he]; have := HP.el_get dP hc; rw [List.getElem?_eq_getElem hc] at this; exact (Option.some.inj this).symm
          rw [e] at this
          exact this
        · dsimp only
          rw [List.length_take, show min n ys.length = n by omega]
          exact HP.Heap.take dP (by omega) hq
      have stp : ∀ j : Nat, j < n → (j - 1) / 2 = i → 0 < j → ¬ leP (HP.el dP ys i) (HP.el dP ys j) → (∀ c, 0 < c → c < n → (c - 1) / 2 = i → leP (HP.el dP ys j) (HP.el dP ys c)) →
          chk ((0 : Int) ≤ (j : Int) ∧ (j : Int) < (ys.length : Int)) (chk ((0 : Int) ≤ (i : Int) ∧ (i : Int) < (ys.length : Int)) (chk ((0 : Int) ≤ (i : Int) ∧ (i : Int) < (ys.length : Int)) (chk ((0 : Int) ≤ (j : Int) ∧ (j : Int) < ((List.set ys i (rd sOrderPlace ys j)).length : Int)) (A4 ((j : Int), HP.sw dP ys i j))))) := fun j hj hpar hj0 hlt hks => by
        have le : leP (HP.el dP ys j) (HP.el dP ys i) := (ordP.tot _ _).resolve_right hlt
        refine ⟨⟨by omega, by omega⟩, ⟨by omega, by omega⟩, ⟨by omega, by omega⟩, ⟨by omega, by rw [List.length_set]; omega⟩, ?_⟩
        refine back4 ((j : Int), HP.sw dP ys i j) ⟨j, rfl, by omega, by rw [HP.sw_length]; exact hyl, (HP.sw_perm dP (by omega) (by omega)).trans hyp, ?_, hd.step dP ordP (by omega) hj hj0 hpar le hks⟩ (by dsimp only; omega)
        dsimp only
        rw [HP.el_sw dP (by omega) (by omega), if_neg (by omega), if_neg (by omega)]
        exact hyn
      have child : ∀ c, 0 < c → (c - 1) / 2 = i → c = 2 * i + 1 ∨ c = 2 * i + 2 := fun c h0 h => by omega
      refine cond_dec (fun q1 => ?_) fun q1 => cond_dec (fun q2 => ?_) fun q2 => cond_dec (fun q3 => ?_) fun q3 => ?_
      · have q1 : (n : Int) ≤ ((2 * i + 1 : Nat) : Int) := q1
        exact fin (hd.done dP fun c c0 c1 c2 => by have := child c c0 c2; omega)
      · have q2 : ((2 * i + 1 : Nat) : Int) < 0 := q2
        omega
      · have q1 : ¬ (n : Int) ≤ ((2 * i + 1 : Nat) : Int) := q1
        have q3 : ((2 * i + 1 + 1 : Nat) : Int) < (n : Int) := q3
        refine callP_eq (ok_order_queue_Less (xs := ys) (i := 2 * i + 1 + 1) (k := 2 * i + 1) (by omega) (by omega)) (cond_bool (fun h2 => ?_) fun h2 => ?_)
        · have h2 : ¬ leP (HP.el dP ys (2 * i + 1)) (HP.el dP ys (2 * i + 1 + 1)) := of_decide_eq_true h2
          have h2' : leP (HP.el dP ys (2 * i + 1 + 1)) (HP.el dP ys (2 * i + 1)) := (ordP.tot _ _).resolve_right h2
          have hks : ∀ c, 0 < c → c < n → (c - 1) / 2 = i → leP (HP.el dP ys (2 * i + 1 + 1)) (HP.el dP ys c) := fun c c0 c1 c2 => by
            rcases child c c0 c2 with e | e <;> rw [e]
            · exact h2'
            · rcases ordP.tot (HP.el dP ys (2 * i + 1 + 1)) (HP.el dP ys (2 * i + 2)) with q | q <;> exact q
          refine callP_eq (ok_order_queue_Less (xs := ys) (i := 2 * i + 1 + 1) (k := i) (by omega) (by omega)) (cond_not (fun h3 => ?_) fun h3 => ?_)
          · have h3 := Classical.not_not.1 (of_decide_eq_false h3)
            exact fin (hd.done dP fun c c0 c1 c2 => ordP.trans _ _ _ h3 (hks c c0 c1 c2))
          · exact stp (2 * i + 1 + 1) (by omega) (by omega) (by omega) (of_decide_eq_true h3) hks
        · have h2 : leP (HP.el dP ys (2 * i + 1)) (HP.el dP ys (2 * i + 1 + 1)) := Classical.not_not.1 (of_decide_eq_false h2)
          have hks : ∀ c, 0 < c → c < n → (c - 1) / 2 = i → leP (HP.el dP ys (2 * i + 1)) (HP.el dP ys c) := fun c c0 c1 c2 => by
            rcases child c c0 c2 with e | e <;> rw [e]
            · rcases ordP.tot (HP.el dP ys (2 * i + 1)) (HP.el dP ys (2 * i + 1)) with q | q <;> exact q
            · exact h2
          refine callP_eq (ok_order_queue_Less (xs := ys) (i := 2 * i + 1) (k := i) (by omega) (by omega)) (cond_not (fun h3 => ?_) fun h3 => ?_)
          · have h3 := Classical.not_not.1 (of_decide_eq_false h3)
            exact fin (hd.done dP fun c c0 c1 c2 => ordP.trans _ _ _ h3 (hks c c0 c1 c2))
          · exact stp (2 * i + 1) (by omega) (by omega) (by omega) (of_decide_eq_true h3) hks
      · have q1 : ¬ (n : Int) ≤ ((2 * i + 1 : Nat) : Int) := q1
        have q3 : ¬ ((2 * i + 1 + 1 : Nat) : Int) < (n : Int) := q3
        have hks : ∀ c, 0 < c → c < n → (c - 1) / 2 = i → leP (HP.el dP ys (2 * i + 1)) (HP.el dP ys c) := fun c c0 c1 c2 => by
          rcases child c c0 c2 with e | e
          · rw [e]
            rcases ordP.tot (HP.el dP ys (2 * i + 1)) (HP.el dP ys (2 * i + 1)) with q | q <;> exact q
          · omega
        refine callP_eq (ok_order_queue_Less (xs := ys) (i := 2 * i + 1) (k := i) (by omega) (by omega)) (cond_not (fun h3 => ?_) fun h3 => ?_)
        · have h3 := Classical.not_not.1 (of_decide_eq_false h3)
          exact fin (hd.done dP fun c c0 c1 c2 => ordP.trans _ _ _ h3 (hks c c0 c1 c2))
        · exact stp (2 * i + 1) (by omega) (by omega) (by omega) (of_decide_eq_true h3) hks
    · have q : ¬ (0 : Int) < (xs.length : Int) := q
      have hx : xs = [] := List.length_eq_zero_iff.1 (by omega)
      subst hx
      have := ht.done
      exact ⟨taken, this.1, this.2, rfl⟩
end Go.Proofs.YtocmlcpcnjaaeaaGreatDoor.V


/- Layer 21: what comes ahead; the example; laws OrderIs, OrderRelates. No condition of its own. -/
namespace Go.Proofs.YtocmlcpcnjaaeaaGreatDoor.V
open Go
set_option linter.unusedVariables false
set_option linter.unusedSimpArgs false
set_option linter.unusedSectionVars false

open Classical in
/-- A day of families, as a function value. -/
noncomputable def gDay (s : Q4 → Int) : List Leaf → Option (Int × Int) := fun l => if FewL 1000 l then some (dayF s l) else none

theorem gDay_spec {f : FuncId} {s : Q4 → Int} (h : ∀ {l : List Leaf}, FewL 1000 l → FnE bs f ((Shape.slice sApiLeaf).compsE l) (.tup (.pair (.int .i64) (.int .i64))) (· = dayF s l)) : CloSpec bs f [] [] (.slice sApiLeaf) (.tup (.pair (.int .i64) (.int .i64))) (gDay s) := by
  refine ⟨(h (l := []) ⟨by decide, fun f hf => by cases hf⟩).1, fun l r hr => ?_⟩
  rw [List.nil_append, List.append_nil]
  unfold gDay at hr
  split at hr
  · rename_i hv
    cases hr
    exact h hv
  · cases hr

/-- Does a day of some families come ahead of one of others? -/
def certF (s1 s2 : Q4 → Int) (l m : List Leaf) : Bool × Int := match allF l, allF m with
  | some p, some q => (decide (s1 p < s2 q), 0)
  | _, _ => (false, 9)

theorem ok_order_ahead {l m : List Leaf} {s1 s2 : Q4 → Int} (hl : FewL 1000 l) (hm : FewL 1000 m) : FnE bs n_order_ahead ((Shape.pair (.slice sApiLeaf) (.pair (.slice sApiLeaf) (.pair (.func (.slice sApiLeaf) (.tup (.pair (.int .i64) (.int .i64)))) (.func (.slice sApiLeaf) (.tup (.pair (.int .i64) (.int .i64))))))).compsE (l, m, gDay s1, gDay s2)) (.tup (.pair .bool (.int .i64))) (· = certF s1 s2 l m) := by
  refine ok_of (e_order_ahead (l, m, gDay s1, gDay s2) _) rfl ?_
  unfold c_order_ahead certF
  refine gcall_eq (r := dayF s1 l) (by unfold gDay; exact if_pos hl) ?_
  have h1 : dayF s1 l = match allF l with | none => (0, 9) | some q => (s1 q, 0) := rfl
  have h2 : dayF s2 m = match allF m with | none => (0, 9) | some q => (s2 q, 0) := rfl
  cases e1 : allF l with
  | none =>
    rw [e1] at h1
    rw [h1]
    exact cond_yes rfl rfl
  | some p =>
    rw [e1] at h1
    rw [h1]
    refine cond_no rfl (gcall_eq (r := dayF s2 m) (by unfold gDay; exact if_pos hm) ?_)
    cases e2 : allF m with
    | none =>
      rw [e2] at h2
      rw [h2]
      exact cond_no rfl rfl
    | some q =>
      rw [e2] at h2
      rw [h2]
      exact cond_yes rfl rfl

theorem ok_order_Certainly {l m : List Leaf} (hl : FewL 1000 l) (hm : FewL 1000 m) : FnE bs n_order_Certainly ((Shape.pair (.slice sApiLeaf) (.slice sApiLeaf)).compsE (l, m)) (.tup (.pair .bool (.int .i64))) (· = certF (·.2.2.2) (·.1) l m) := by
  refine ok_of (e_order_Certainly (l, m) _) rfl ?_
  unfold c_order_Certainly
  exact ⟨gDay (·.2.2.2), gDay_spec ok_env_Latest, gDay (·.1), gDay_spec ok_env_Earliest, callP_eq (ok_order_ahead hl hm) rfl⟩

theorem ok_order_Possibly {l m : List Leaf} (hl : FewL 1000 l) (hm : FewL 1000 m) : FnE bs n_order_Possibly ((Shape.pair (.slice sApiLeaf) (.slice sApiLeaf)).compsE (l, m)) (.tup (.pair .bool (.int .i64))) (· = certF (·.2.2.1) (·.2.1) l m) := by
  refine ok_of (e_order_Possibly (l, m) _) rfl ?_
  unfold c_order_Possibly
  exact ⟨gDay (·.2.2.1), gDay_spec ok_env_FirstEnd, gDay (·.2.1), gDay_spec ok_env_LastStart, callP_eq (ok_order_ahead hl hm) rfl⟩

theorem leP_anti {a b : Pl} (h : leP a b) (k : leP b a) : a = b := by
  obtain ⟨a1, ⟨a2, a3⟩, a4⟩ := a
  obtain ⟨b1, ⟨b2, b3⟩, b4⟩ := b
  unfold leP at h k
  dsimp only at h k
  cases a4 <;> cases b4 <;> simp at h k ⊢ <;> omega

/-- Things in order stand in one order alone. -/
theorem sort_unique : ∀ {a b : List Pl}, a.Perm b → a.Pairwise leP → b.Pairwise leP → a = b
  | [], b, h, _, _ => (h.nil_eq)
  | x :: t, [], h, _, _ => by have := h.length_eq; simp at this
  | x :: t, y :: u, h, ha, hb => by
    have ha' := List.pairwise_cons.1 ha
    have hb' := List.pairwise_cons.1 hb
    have hxy : x = y := by
      have h1 : x ∈ y :: u := h.subset (List.mem_cons_self ..)
      have h2 : y ∈ x :: t := h.symm.subset (List.mem_cons_self ..)
      rcases List.mem_cons.1 h1 with e | h1
      · exact e
      · rcases List.mem_cons.1 h2 with e | h2
        · exact e.symm
        · exact leP_anti (ha'.1 y h2) (hb'.1 x h1)
    subst hxy
    rw [sort_unique (List.Perm.cons_inv h) ha'.2 hb'.2]

def exO : List (List Leaf) := [[(false, 3, [(5, 5)], [])], [], [(false, 3, [(4, 4)], [])]]
def yrs (lo hi : Int) : List Leaf := [(false, 3, [(lo, hi)], [])]
theorem yrs_few {lo hi : Int} : FewL 1000 (yrs lo hi) := ⟨by simp [yrs], fun f hf => by cases List.mem_singleton.1 hf; simp⟩

theorem ex_places : placesF exO = [HP.el dP (placesF exO) 0, HP.el dP (placesF exO) 1, HP.el dP (placesF exO) 2] := by decide +kernel
theorem ex_sorted : [HP.el dP (placesF exO) 2, HP.el dP (placesF exO) 0, HP.el dP (placesF exO) 1].Pairwise leP := by decide +kernel
theorem ex_at : [HP.el dP (placesF exO) 2, HP.el dP (placesF exO) 0, HP.el dP (placesF exO) 1].map (·.1) = [2, 0, 1] := by decide +kernel
theorem ex_sort {out : List Int} (h : SortR exO out) : out = [2, 0, 1] := by
  obtain ⟨ps, h1, h2, rfl⟩ := h
  have hp : [HP.el dP (placesF exO) 2, HP.el dP (placesF exO) 0, HP.el dP (placesF exO) 1].Perm (placesF exO) := by
    conv => rhs; rw [ex_places]
    exact List.perm_append_comm (l₁ := [HP.el dP (placesF exO) 2]) (l₂ := [HP.el dP (placesF exO) 0, HP.el dP (placesF exO) 1])
  rw [sort_unique (h1.trans hp.symm) h2 ex_sorted]
  exact ex_at

theorem ex_c1 : certF (·.2.2.2) (·.1) (yrs 1984 1984) (yrs 1985 1985) = (true, 0) := by decide +kernel
theorem ex_c2 : certF (·.2.2.1) (·.2.1) (yrs 1980 1989) (yrs 1984 1984) = (true, 0) := by decide +kernel
theorem ex_c3 : certF (·.2.2.2) (·.1) (yrs 1980 1989) (yrs 1984 1984) = (false, 0) := by decide +kernel
theorem ex_k : (((dayF (·.1) (yrs 1 1)).1, (dayF (·.2.2.2) (yrs 1 1)).1), (dayF (·.1) (yrs 1 1)).2) = ((366, 730), 0) := by decide +kernel

theorem ok_lustrumlaw21_years {lo hi : Int} : FnE bs n_lustrumlaw21_years ((Shape.pair (.int .i64) (.int .i64)).compsE (lo, hi)) (.slice sApiLeaf) (· = yrs lo hi) := ok_of (e_lustrumlaw21_years (lo, hi) _) rfl rfl

theorem ok_lustrumlaw21_awake : FnE bs n_lustrumlaw21_awake ((Shape.unit).compsE ()) .bool (· = true) := by
  refine ok_of (e_lustrumlaw21_awake _) rfl ?_
  unfold c_lustrumlaw21_awake
  refine callP_eq ok_lustrumlaw21_years (callP_eq ok_lustrumlaw21_years (callP_eq (ok_order_Certainly yrs_few yrs_few) ?_))
  rw [ex_c1]
  refine callP_eq ok_lustrumlaw21_years (callP_eq ok_lustrumlaw21_years (callP_eq (ok_order_Possibly yrs_few yrs_few) ?_))
  rw [ex_c2]
  refine callP_eq ok_lustrumlaw21_years (callP_eq ok_lustrumlaw21_years (callP_eq (ok_order_Certainly yrs_few yrs_few) ?_))
  rw [ex_c3]
  refine callP_eq ok_lustrumlaw21_years (callP_eq (ok_order_Of yrs_few) ?_)
  rw [ex_k]
  refine callP_eq ok_lustrumlaw21_years (callP_eq ok_lustrumlaw21_years (callP_of (ok_order_Sort (l := exO) (fun x hx => ?_) (by decide)) fun out hout => ?_))
  · have hx : x ∈ [yrs 5 5, [], yrs 4 4] := hx
    simp only [List.mem_cons, List.not_mem_nil, or_false] at hx
    rcases hx with rfl | rfl | rfl
    · exact yrs_few
    · exact ⟨by decide, fun f hf => by cases hf⟩
    · exact yrs_few
  · have := ex_sort hout
    subst this
    refine cond_yes rfl (cond_yes rfl (cond_yes rfl (cond_yes rfl (cond_yes rfl (cond_yes rfl (cond_yes rfl (cond_yes rfl (cond_yes rfl (cond_yes rfl ⟨by decide, cond_yes rfl ⟨by decide, cond_yes rfl ⟨by decide, cond_yes rfl (callP_eq ok_order_Compare ?_)⟩⟩⟩)))))))))
    decide

theorem all_bounds {l : List Leaf} {q : Q4} (h : allF l = some q) : Bounds q (anyP l) := by
  rcases all_spec l with ⟨e, _⟩ | ⟨q', e, hb⟩
  · rw [h] at e; cases e
  · rw [h] at e; cases e; exact hb

theorem cert_iff {l m : List Leaf} {p q : Q4} (hl : allF l = some p) (hm : allF m = some q) : p.2.2.2 < q.1 ↔ ∀ a b, anyP l a → anyP m b → a.2 < b.1 := by
  obtain ⟨h1, _, _, _, a, ha, ea⟩ := all_bounds hl
  obtain ⟨k1, ⟨b, hb, eb⟩, _⟩ := all_bounds hm
  constructor
  · intro h x y hx hy
    have := h1 x hx
    have := k1 y hy
    omega
  · intro h
    have := h a b ha hb
    omega

theorem poss_iff {l m : List Leaf} {p q : Q4} (hl : allF l = some p) (hm : allF m = some q) : p.2.2.1 < q.2.1 ↔ ∃ a b, anyP l a ∧ anyP m b ∧ a.2 < b.1 := by
  obtain ⟨h1, _, _, ⟨a, ha, ea⟩, _⟩ := all_bounds hl
  obtain ⟨k1, _, ⟨b, hb, eb⟩, _⟩ := all_bounds hm
  constructor
  · intro h
    exact ⟨a, b, ha, hb, by omega⟩
  · rintro ⟨x, y, hx, hy, h⟩
    have := h1 x hx
    have := k1 y hy
    omega

theorem ok_ref21_Certainly {l m : List Leaf} (hl : FewL 1000 l) (hm : FewL 1000 m) : FnE bs n_lustrumref21_Certainly ((Shape.pair (.slice sApiLeaf) (.slice sApiLeaf)).compsE (l, m)) (.tup (.pair .bool (.int .i64))) (· = certF (·.2.2.2) (·.1) l m) := by
  refine ok_of (e_lustrumref21_Certainly (l, m) _) rfl ?_
  unfold c_lustrumref21_Certainly certF
  refine callP_eq (ok_ref16_Latest hl) (callP_eq (ok_ref16_Earliest hm) ?_)
  unfold dayF
  cases allF l with
  | none => exact cond_yes rfl rfl
  | some p =>
    refine cond_no rfl ?_
    cases allF m with
    | none => exact cond_yes rfl rfl
    | some q => exact cond_no rfl rfl

theorem ok_ref21_Possibly {l m : List Leaf} (hl : FewL 1000 l) (hm : FewL 1000 m) : FnE bs n_lustrumref21_Possibly ((Shape.pair (.slice sApiLeaf) (.slice sApiLeaf)).compsE (l, m)) (.tup (.pair .bool (.int .i64))) (· = certF (·.2.2.1) (·.2.1) l m) := by
  refine ok_of (e_lustrumref21_Possibly (l, m) _) rfl ?_
  unfold c_lustrumref21_Possibly certF
  refine callP_eq (ok_ref16_FirstEnd hl) (callP_eq (ok_ref16_LastStart hm) ?_)
  unfold dayF
  cases allF l with
  | none => exact cond_yes rfl rfl
  | some p =>
    refine cond_no rfl ?_
    cases allF m with
    | none => exact cond_yes rfl rfl
    | some q => exact cond_no rfl rfl

theorem ok_ref21_Of {l : List Leaf} (hl : FewL 1000 l) : FnE bs n_lustrumref21_Of ((Shape.slice sApiLeaf).compsE l) (.tup (.pair sRun (.int .i64))) (· = (((dayF (·.1) l).1, (dayF (·.2.2.2) l).1), (dayF (·.1) l).2)) := by
  refine ok_of (e_lustrumref21_Of l _) rfl ?_
  unfold c_lustrumref21_Of
  refine callP_eq (ok_ref16_Earliest hl) (callP_eq (ok_ref16_Latest hl) ?_)
  unfold dayF
  cases allF l with
  | none => exact cond_yes rfl rfl
  | some p => exact cond_no rfl rfl

theorem ok_ref21_Compare {a b : Int × Int} : FnE bs n_lustrumref21_Compare ((Shape.pair sRun sRun).compsE (a, b)) (.int .i64) (· = cmpK a b) := by
  refine ok_of (e_lustrumref21_Compare (a, b) _) rfl ?_
  unfold c_lustrumref21_Compare cmpK
  obtain ⟨a1, a2⟩ := a
  obtain ⟨b1, b2⟩ := b
  dsimp only
  rcases cmpS3 a1 b1 with ⟨e1, h1⟩ | ⟨e1, h1⟩ | ⟨e1, h1⟩ <;> rw [e1]
  · exact cond_yes (decide_eq_true h1) rfl
  · refine cond_no (decide_eq_false (by omega)) (cond_yes (decide_eq_true h1) ?_)
    rcases cmpS3 a2 b2 with ⟨e2, h2⟩ | ⟨e2, h2⟩ | ⟨e2, h2⟩ <;> rw [e2]
    · exact cond_yes (decide_eq_true h2) rfl
    · exact cond_no (decide_eq_false (by omega)) (cond_yes (by simp [h1, h2]) rfl)
    · exact cond_no (decide_eq_false (by omega)) (cond_no (by simp; omega) rfl)
  · refine cond_no (decide_eq_false (by omega)) (cond_no (decide_eq_false (by omega)) (cond_no ?_ rfl))
    simp; omega

theorem ok_OrderIs (a : List Leaf × List Leaf × (Int × Int) × (Int × Int)) (hl : a.1.length ≤ 9223372036854775807) (hm : a.2.1.length ≤ 9223372036854775807) : FnE bs n_lustrumlaw21_OrderIs ((Shape.pair (.slice sApiLeaf) (.pair (.slice sApiLeaf) (.pair sRun sRun))).compsE a) .bool (· = true) := by
  obtain ⟨l, m, p, q⟩ := a
  refine ok_of (e_lustrumlaw21_OrderIs (l, m, p, q) _) rfl ?_
  unfold c_lustrumlaw21_OrderIs
  refine callP_eq ok_lustrumlaw21_awake (callP_of (ok_lustrumref15_Few hl) fun x hx => cond_not (fun h => rfl) fun h => callP_of (ok_lustrumref15_Few hm) fun y hy => cond_not (fun h => rfl) fun h2 => ?_)
  have fl : FewL 1000 l := few1000 (hx h).2
  have fm : FewL 1000 m := few1000 (hy h2).2
  refine callP_eq (ok_order_Certainly fl fm) (callP_eq (ok_ref21_Certainly fl fm) (callP_eq (ok_order_Possibly fl fm) (callP_eq (ok_ref21_Possibly fl fm) (callP_eq (ok_order_Of fl) (callP_eq (ok_ref21_Of fl) ?_)))))
  refine cond_yes rfl (cond_yes (decide_eq_true rfl) (cond_yes (decide_eq_true rfl) (cond_yes (decide_eq_true rfl) (cond_yes (decide_eq_true rfl) (cond_yes (decide_eq_true rfl) (cond_yes (decide_eq_true rfl) (cond_yes (decide_eq_true rfl) ?_)))))))
  exact callP_eq ok_order_Compare (callP_eq ok_ref21_Compare (decide_eq_true rfl))
end Go.Proofs.YtocmlcpcnjaaeaaGreatDoor.V


/- Relations of families: plain facts on views. No program in sight. -/
namespace Go.Proofs.YtocmlcpcnjaaeaaGreatDoor.V
set_option linter.unusedVariables false
set_option linter.unusedSimpArgs false
set_option linter.unusedSectionVars false

abbrev Pr := Int × Int

/-- The first seven relations of two pairs. -/
def rel7 : Nat → Pr → Pr → Prop
  | 0, p, q => p.2 + 1 < q.1
  | 1, p, q => p.2 + 1 = q.1
  | 2, p, q => p.1 < q.1 ∧ q.1 ≤ p.2 ∧ p.2 < q.2
  | 3, p, q => p.1 = q.1 ∧ p.2 < q.2
  | 4, p, q => q.1 < p.1 ∧ p.2 < q.2
  | 5, p, q => q.1 < p.1 ∧ p.2 = q.2
  | 6, p, q => p.1 = q.1 ∧ p.2 = q.2
  | _, _, _ => False

/-- The thirteen. -/
def relK (k : Nat) (p q : Pr) : Prop := if k ≤ 6 then rel7 k p q else k ≤ 12 ∧ rel7 (12 - k) q p

/-- Days on which pairs start, and end; or days that are a pair each. -/
abbrev View := Bool × Runs × Runs
def PV (x : View) (p : Pr) : Prop := if x.1 = true then p.1 = p.2 ∧ mem x.2.1 p.1 else p.1 ≤ p.2 ∧ mem x.2.1 p.1 ∧ mem x.2.2 p.2

structure VOK (x : View) : Prop where
  wa : Within x.2.1 3652424
  wb : Within x.2.2 3652424
  na : x.2.1 ≠ []
  nb : x.2.2 ≠ []
  one : x.1 = true → x.2.2 = x.2.1
  lo : loF x.2.1 ≤ loF x.2.2
  hi : hiF x.2.1 ≤ hiF x.2.2
  la : x.2.1.length ≤ 1000
  lb : x.2.2.length ≤ 1000

theorem VOK.pv {x : View} (h : VOK x) {p : Pr} (k : PV x p) : p.1 ≤ p.2 ∧ mem x.2.1 p.1 ∧ mem x.2.2 p.2 := by
  unfold PV at k
  split at k
  · rename_i e
    rw [h.one e]
    exact ⟨by omega, k.2, k.1 ▸ k.2⟩
  · exact k

theorem VOK.bd {x : View} (h : VOK x) {p : Pr} (k : PV x p) : p.1 ≤ p.2 ∧ loF x.2.1 ≤ p.1 ∧ p.1 ≤ hiF x.2.1 ∧ loF x.2.2 ≤ p.2 ∧ p.2 ≤ hiF x.2.2 := by
  have h1 := h.pv k
  have h2 := mem_between h.wa.1 h1.2.1
  have h3 := mem_between h.wb.1 h1.2.2
  exact ⟨h1.1, h2.1, h2.2, h3.1, h3.2⟩

theorem PV.single {x : View} (e : x.1 = true) {p : Pr} : PV x p ↔ p.1 = p.2 ∧ mem x.2.1 p.1 := by unfold PV; rw [if_pos e]
theorem PV.span {x : View} (e : x.1 = false) {p : Pr} : PV x p ↔ p.1 ≤ p.2 ∧ mem x.2.1 p.1 ∧ mem x.2.2 p.2 := by unfold PV; rw [if_neg (by simp [e])]

/-- Each start starts a pair, each end ends one. -/
theorem VOK.start {x : View} (h : VOK x) {s : Int} (k : mem x.2.1 s) : PV x (s, if x.1 = true then s else hiF x.2.2) := by
  cases e : x.1
  · have := mem_between h.wa.1 k
    have := h.hi
    exact (PV.span e).2 ⟨by simp; omega, k, by simpa using mem_hi h.wb.1 h.nb⟩
  · exact (PV.single e).2 ⟨by simp, k⟩

theorem VOK.fin {x : View} (h : VOK x) {t : Int} (k : mem x.2.2 t) : PV x (if x.1 = true then t else loF x.2.1, t) := by
  cases e : x.1
  · have := mem_between h.wb.1 k
    have := h.lo
    exact (PV.span e).2 ⟨by simp; omega, by simpa using mem_lo h.wa.1 h.na, k⟩
  · rw [h.one e] at k
    exact (PV.single e).2 ⟨by simp, by simpa using k⟩

/-- The least end of a pair that starts on a day or later; the greatest start. -/
def FirstR (x : View) (s : Int) (r : Int × Bool) : Prop := r.2 = true ∧ PV x (s, r.1) ∧ ∀ p, PV x p → s ≤ p.1 → r.1 ≤ p.2
def LastR (x : View) (t : Int) (r : Int × Bool) : Prop := r.2 = true ∧ PV x (r.1, t) ∧ ∀ p, PV x p → p.2 ≤ t → p.1 ≤ r.1

theorem first_single {x : View} {s : Int} (e : x.1 = true) (k : mem x.2.1 s) : FirstR x s (s, true) :=
  ⟨rfl, (PV.single e).2 ⟨rfl, k⟩, fun p hp h => by have := ((PV.single e).1 hp).1; dsimp only; omega⟩

theorem first_next {x : View} {s : Int} {r : Int × Bool} (h : VOK x) (e : x.1 = false) (k : mem x.2.1 s) (hr : NextR x.2.2 s r) : FirstR x s r := by
  rcases hr with ⟨_, h1⟩ | ⟨h1, h2, h3, h4⟩
  · have := h1 _ (mem_hi h.wb.1 h.nb)
    have := mem_between h.wa.1 k
    have := h.hi
    omega
  · exact ⟨h1, (PV.span e).2 ⟨h3, k, h2⟩, fun p hp q => h4 _ (h.pv hp).2.2 (by have := (h.pv hp).1; omega)⟩

theorem last_single {x : View} {t : Int} (h : VOK x) (e : x.1 = true) (k : mem x.2.2 t) : LastR x t (t, true) :=
  ⟨rfl, (PV.single e).2 ⟨rfl, by rw [← h.one e]; exact k⟩, fun p hp h => by have := ((PV.single e).1 hp).1; dsimp only; omega⟩

theorem last_prev {x : View} {t : Int} {r : Int × Bool} (h : VOK x) (e : x.1 = false) (k : mem x.2.2 t) (hr : PrevR x.2.1 t r) : LastR x t r := by
  rcases hr with ⟨_, h1⟩ | ⟨h1, h2, h3, h4⟩
  · have := h1 _ (mem_lo h.wa.1 h.na)
    have := mem_between h.wb.1 k
    have := h.lo
    omega
  · exact ⟨h1, (PV.span e).2 ⟨h3, h2, k⟩, fun p hp q => h4 _ (h.pv hp).2.1 (by have := (h.pv hp).1; omega)⟩

/-- Some pairs of two views stand in one of the first seven relations. -/
def Rel (k : Nat) (x y : View) : Prop := ∃ p q, PV x p ∧ PV y q ∧ rel7 k p q

section
variable {x y : View} (hx : VOK x) (hy : VOK y)
include hx hy

theorem before_iff : loF x.2.2 + 1 < hiF y.2.1 ↔ Rel 0 x y := by
  constructor
  · intro h
    exact ⟨_, _, hx.fin (mem_lo hx.wb.1 hx.nb), hy.start (mem_hi hy.wa.1 hy.na), h⟩
  · rintro ⟨p, q, hp, hq, h⟩
    have h : p.2 + 1 < q.1 := h
    have := hx.bd hp
    have := hy.bd hq
    omega

theorem meets_iff : (∃ n, mem x.2.2 n ∧ mem y.2.1 (n + 1)) ↔ Rel 1 x y := by
  constructor
  · rintro ⟨n, h1, h2⟩
    exact ⟨_, _, hx.fin h1, hy.start h2, rfl⟩
  · rintro ⟨p, q, hp, hq, h⟩
    have h : p.2 + 1 = q.1 := h
    exact ⟨p.2, (hx.pv hp).2.2, h ▸ (hy.pv hq).2.1⟩

theorem overlaps_no (h : x.1 = true ∨ y.1 = true) : ¬ Rel 2 x y := by
  rintro ⟨p, q, hp, hq, h1, h2, h3⟩
  rcases h with e | e
  · have := ((PV.single e).1 hp).1; omega
  · have := ((PV.single e).1 hq).1; omega

theorem overlaps_iff {r w : Int × Bool} (ex : x.1 = false) (ey : y.1 = false) (hr : NextR y.2.1 (loF x.2.1 + 1) r) (hw : PrevR x.2.2 (hiF y.2.2 - 1) w) :
    (r.2 = true ∧ w.2 = true ∧ r.1 ≤ w.1) ↔ Rel 2 x y := by
  constructor
  · rintro ⟨h1, h2, h3⟩
    rcases hr with ⟨e, _⟩ | ⟨_, a1, a2, _⟩
    · rw [e] at h1; cases h1
    · rcases hw with ⟨e, _⟩ | ⟨_, b1, b2, _⟩
      · rw [e] at h2; cases h2
      · refine ⟨(loF x.2.1, w.1), (r.1, hiF y.2.2), (PV.span ex).2 ⟨by dsimp only; omega, mem_lo hx.wa.1 hx.na, b1⟩, (PV.span ey).2 ⟨by dsimp only; omega, a1, mem_hi hy.wb.1 hy.nb⟩, ?_⟩
        exact ⟨by dsimp only; omega, by dsimp only; omega, by dsimp only; omega⟩
  · rintro ⟨p, q, hp, hq, h1, h2, h3⟩
    have hp' := hx.pv hp
    have hq' := hy.pv hq
    have := hx.bd hp
    have := hy.bd hq
    rcases hr with ⟨e, a1⟩ | ⟨a0, a1, a2, a3⟩
    · have := a1 _ hq'.2.1; omega
    · rcases hw with ⟨e, b1⟩ | ⟨b0, b1, b2, b3⟩
      · have := b1 _ hp'.2.2; omega
      · refine ⟨a0, b0, ?_⟩
        have := a3 _ hq'.2.1 (by omega)
        have := b3 _ hp'.2.2 (by omega)
        omega

theorem starts_no {c : Runs} (hc : ∀ n, mem c n ↔ mem x.2.1 n ∧ mem y.2.1 n) (h : c = [] ∨ y.1 = true) : ¬ Rel 3 x y := by
  rintro ⟨p, q, hp, hq, h1, h2⟩
  rcases h with e | e
  · subst e
    exact mem_nil ((hc p.1).2 ⟨(hx.pv hp).2.1, h1 ▸ (hy.pv hq).2.1⟩)
  · have := ((PV.single e).1 hq).1
    have := (hx.pv hp).1
    omega

theorem starts_iff {c : Runs} {r : Int × Bool} (ey : y.1 = false) (sc : Sane c) (nc : c ≠ []) (hc : ∀ n, mem c n ↔ mem x.2.1 n ∧ mem y.2.1 n) (hr : FirstR x (loF c) r) : r.1 < hiF y.2.2 ↔ Rel 3 x y := by
  have hm := (hc _).1 (mem_lo sc nc)
  constructor
  · intro h
    have := (hx.pv hr.2.1).1
    exact ⟨_, (loF c, hiF y.2.2), hr.2.1, (PV.span ey).2 ⟨by dsimp only at *; omega, hm.2, mem_hi hy.wb.1 hy.nb⟩, rfl, h⟩
  · rintro ⟨p, q, hp, hq, h1, h2⟩
    have := (mem_between sc ((hc p.1).2 ⟨(hx.pv hp).2.1, h1 ▸ (hy.pv hq).2.1⟩)).1
    have := hr.2.2 p hp this
    have := hy.bd hq
    omega

theorem during_no {w : Int × Bool} (hw : NextR x.2.1 (loF y.2.1 + 1) w) (h : w.2 = false ∨ y.1 = true) : ¬ Rel 4 x y := by
  rintro ⟨p, q, hp, hq, h1, h2⟩
  rcases h with e | e
  · rcases hw with ⟨_, a⟩ | ⟨a, _⟩
    · have := a _ (hx.pv hp).2.1
      have := hy.bd hq
      omega
    · rw [a] at e; cases e
  · have := ((PV.single e).1 hq).1
    have := (hx.pv hp).1
    omega

theorem during_iff {w r : Int × Bool} (ey : y.1 = false) (hw : NextR x.2.1 (loF y.2.1 + 1) w) (h : w.2 = true) (hr : FirstR x w.1 r) : r.1 < hiF y.2.2 ↔ Rel 4 x y := by
  rcases hw with ⟨e, _⟩ | ⟨_, a1, a2, a3⟩
  · rw [e] at h; cases h
  · constructor
    · intro k
      have := (hx.pv hr.2.1).1
      exact ⟨_, (loF y.2.1, hiF y.2.2), hr.2.1, (PV.span ey).2 ⟨by dsimp only at *; omega, mem_lo hy.wa.1 hy.na, mem_hi hy.wb.1 hy.nb⟩, by dsimp only; omega, k⟩
    · rintro ⟨p, q, hp, hq, h1, h2⟩
      have := hy.bd hq
      have := a3 _ (hx.pv hp).2.1 (by omega)
      have := hr.2.2 p hp this
      omega

theorem finishes_no {c : Runs} (hc : ∀ n, mem c n ↔ mem x.2.2 n ∧ mem y.2.2 n) (h : c = [] ∨ y.1 = true) : ¬ Rel 5 x y := by
  rintro ⟨p, q, hp, hq, h1, h2⟩
  rcases h with e | e
  · subst e
    exact mem_nil ((hc p.2).2 ⟨(hx.pv hp).2.2, h2 ▸ (hy.pv hq).2.2⟩)
  · have := ((PV.single e).1 hq).1
    have := (hx.pv hp).1
    omega

theorem finishes_iff {c : Runs} {r : Int × Bool} (ey : y.1 = false) (sc : Sane c) (nc : c ≠ []) (hc : ∀ n, mem c n ↔ mem x.2.2 n ∧ mem y.2.2 n) (hr : LastR x (hiF c) r) : r.1 > loF y.2.1 ↔ Rel 5 x y := by
  have hm := (hc _).1 (mem_hi sc nc)
  constructor
  · intro h
    have := (hx.pv hr.2.1).1
    exact ⟨_, (loF y.2.1, hiF c), hr.2.1, (PV.span ey).2 ⟨by dsimp only at *; omega, mem_lo hy.wa.1 hy.na, hm.2⟩, h, rfl⟩
  · rintro ⟨p, q, hp, hq, h1, h2⟩
    have := (mem_between sc ((hc p.2).2 ⟨(hx.pv hp).2.2, h2 ▸ (hy.pv hq).2.2⟩)).2
    have := hr.2.2 p hp this
    have := hy.bd hq
    omega

theorem equals_one {s t : Runs} (h : x.1 = true ∨ y.1 = true) (hs : ∀ n, mem s n ↔ mem x.2.1 n ∧ mem y.2.1 n) (ht : ∀ n, mem t n ↔ mem x.2.2 n ∧ mem y.2.2 n) : (∃ n, mem s n ∧ mem t n) ↔ Rel 6 x y := by
  constructor
  · rintro ⟨n, h1, h2⟩
    have h1 := (hs n).1 h1
    have h2 := (ht n).1 h2
    refine ⟨(n, n), (n, n), ?_, ?_, rfl, rfl⟩
    · cases e : x.1
      · exact (PV.span e).2 ⟨Int.le_refl _, h1.1, h2.1⟩
      · exact (PV.single e).2 ⟨rfl, h1.1⟩
    · cases e : y.1
      · exact (PV.span e).2 ⟨Int.le_refl _, h1.2, h2.2⟩
      · exact (PV.single e).2 ⟨rfl, h1.2⟩
  · rintro ⟨p, q, hp, hq, h1, h2⟩
    have e : p.1 = p.2 := by
      rcases h with e | e
      · exact ((PV.single e).1 hp).1
      · have := ((PV.single e).1 hq).1; omega
    refine ⟨p.1, (hs _).2 ⟨(hx.pv hp).2.1, h1 ▸ (hy.pv hq).2.1⟩, ?_⟩
    rw [e]
    exact (ht _).2 ⟨(hx.pv hp).2.2, h2 ▸ (hy.pv hq).2.2⟩

theorem equals_no {s t : Runs} (hs : ∀ n, mem s n ↔ mem x.2.1 n ∧ mem y.2.1 n) (ht : ∀ n, mem t n ↔ mem x.2.2 n ∧ mem y.2.2 n) (h : s = [] ∨ t = []) : ¬ Rel 6 x y := by
  rintro ⟨p, q, hp, hq, h1, h2⟩
  rcases h with e | e
  · subst e
    exact mem_nil ((hs _).2 ⟨(hx.pv hp).2.1, h1 ▸ (hy.pv hq).2.1⟩)
  · subst e
    exact mem_nil ((ht _).2 ⟨(hx.pv hp).2.2, h2 ▸ (hy.pv hq).2.2⟩)

theorem equals_iff {s t : Runs} (ex : x.1 = false) (ey : y.1 = false) (ss : Sane s) (st : Sane t) (ns : s ≠ []) (nt : t ≠ []) (hs : ∀ n, mem s n ↔ mem x.2.1 n ∧ mem y.2.1 n) (ht : ∀ n, mem t n ↔ mem x.2.2 n ∧ mem y.2.2 n) : loF s ≤ hiF t ↔ Rel 6 x y := by
  have h1 := (hs _).1 (mem_lo ss ns)
  have h2 := (ht _).1 (mem_hi st nt)
  constructor
  · intro h
    exact ⟨(loF s, hiF t), (loF s, hiF t), (PV.span ex).2 ⟨h, h1.1, h2.1⟩, (PV.span ey).2 ⟨h, h1.2, h2.2⟩, rfl, rfl⟩
  · rintro ⟨p, q, hp, hq, e1, e2⟩
    have := (mem_between ss ((hs _).2 ⟨(hx.pv hp).2.1, e1 ▸ (hy.pv hq).2.1⟩)).1
    have := (mem_between st ((ht _).2 ⟨(hx.pv hp).2.2, e2 ▸ (hy.pv hq).2.2⟩)).2
    have := (hx.pv hp).1
    omega
end

/-- A number whose bits are those for which something holds. -/
def IsMask (n : Int) (P : Nat → Prop) : Prop := ∃ m : Nat, n = (m : Int) ∧ ∀ k, m.testBit k = true ↔ (k ≤ 12 ∧ P k)

theorem IsMask.lt {m : Nat} {P : Nat → Prop} (h : ∀ k, m.testBit k = true ↔ (k ≤ 12 ∧ P k)) : m < 8192 := by
  refine Nat.lt_pow_two_of_testBit (n := 13) m fun i hi => ?_
  cases e : m.testBit i
  · rfl
  · have := ((h i).1 e).1; omega

theorem IsMask.ext {a b : Int} {P Q : Nat → Prop} (ha : IsMask a P) (hb : IsMask b Q) (h : ∀ k, k ≤ 12 → (P k ↔ Q k)) : a = b := by
  obtain ⟨m, rfl, hm⟩ := ha
  obtain ⟨n, rfl, hn⟩ := hb
  have : m = n := Nat.eq_of_testBit_eq fun k => by
    rw [Bool.eq_iff_iff, hm k, hn k]
    exact ⟨fun ⟨h1, h2⟩ => ⟨h1, (h k h1).1 h2⟩, fun ⟨h1, h2⟩ => ⟨h1, (h k h1).2 h2⟩⟩
  rw [this]

theorem IsMask.iff {a : Int} {P Q : Nat → Prop} (ha : IsMask a P) (h : ∀ k, k ≤ 12 → (P k ↔ Q k)) : IsMask a Q := by
  obtain ⟨m, e, hm⟩ := ha
  exact ⟨m, e, fun k => by rw [hm k]; exact ⟨fun ⟨h1, h2⟩ => ⟨h1, (h k h1).1 h2⟩, fun ⟨h1, h2⟩ => ⟨h1, (h k h1).2 h2⟩⟩⟩

theorem IsMask.bd {a : Int} {P : Nat → Prop} (ha : IsMask a P) : 0 ≤ a ∧ a ≤ 8191 := by
  obtain ⟨m, rfl, hm⟩ := ha
  have := IsMask.lt hm
  omega

theorem IsMask.zero : IsMask 0 fun _ => False := ⟨0, rfl, fun k => by simp⟩

theorem IsMask.eq0 {a : Int} {P : Nat → Prop} (ha : IsMask a P) : a = 0 ↔ ∀ k, k ≤ 12 → ¬ P k := by
  constructor
  · rintro rfl k hk hp
    obtain ⟨m, e, hm⟩ := ha
    have : m = 0 := by omega
    subst this
    have := (hm k).2 ⟨hk, hp⟩
    simp at this
  · intro h
    exact ha.ext IsMask.zero fun k hk => ⟨fun q => h k hk q, False.elim⟩

theorem ofInt_nat (m : Nat) : BitVec.ofInt 64 (m : Int) = BitVec.ofNat 64 m := by
  apply BitVec.eq_of_toInt_eq
  simp

theorem IsMask.or {a b : Int} {P Q : Nat → Prop} (ha : IsMask a P) (hb : IsMask b Q) : IsMask (w64 ((BitVec.ofInt 64 a ||| BitVec.ofInt 64 b).toNat : Int)) fun k => P k ∨ Q k := by
  obtain ⟨m, rfl, hm⟩ := ha
  obtain ⟨n, rfl, hn⟩ := hb
  have h1 := IsMask.lt hm
  have h2 := IsMask.lt hn
  have h3 : m ||| n < 2 ^ 13 := Nat.or_lt_two_pow h1 h2
  refine ⟨m ||| n, ?_, fun k => ?_⟩
  · rw [ofInt_nat, ofInt_nat, BitVec.toNat_or, BitVec.toNat_ofNat, BitVec.toNat_ofNat, Nat.mod_eq_of_lt (by omega), Nat.mod_eq_of_lt (by omega), w64_of (by omega)]
  · rw [Nat.testBit_or, Bool.or_eq_true, hm k, hn k]
    constructor
    · rintro (⟨h, k⟩ | ⟨h, k⟩)
      · exact ⟨h, .inl k⟩
      · exact ⟨h, .inr k⟩
    · rintro ⟨h, k | k⟩
      · exact .inl ⟨h, k⟩
      · exact .inr ⟨h, k⟩

theorem IsMask.one {k : Nat} (hk : k ≤ 12) : IsMask (w64 (1 * 2 ^ k)) fun j => j = k := by
  have h : (2 : Nat) ^ k ≤ 2 ^ 12 := Nat.pow_le_pow_right (by decide) hk
  refine ⟨2 ^ k, ?_, fun j => ?_⟩
  · have e : (1 : Int) * 2 ^ k = ((2 ^ k : Nat) : Int) := by simp
    have key : ∀ z : Nat, z ≤ 4096 → w64 (z : Int) = (z : Int) := fun z hz => w64_of (by omega)
    rw [e]
    exact key _ h
  · rw [Nat.testBit_two_pow, decide_eq_true_iff]
    constructor
    · rintro rfl; exact ⟨hk, rfl⟩
    · rintro ⟨_, rfl⟩; rfl

theorem IsMask.bit {a : Int} {P : Nat → Prop} (ha : IsMask a P) {k : Nat} (hk : k ≤ 12) : w64 ((BitVec.ofInt 64 (Int.fdiv a (2 ^ k)) &&& BitVec.ofInt 64 1).toNat : Int) = 1 ↔ P k := by
  obtain ⟨m, rfl, hm⟩ := ha
  have h1 := IsMask.lt hm
  have e : Int.fdiv (m : Int) (2 ^ k) = ((m / 2 ^ k : Nat) : Int) := by
    rw [Int.fdiv_eq_ediv_of_nonneg _ (Int.le_of_lt (Int.pow_pos (by decide)))]
    simp
  have hle : m / 2 ^ k ≤ m := Nat.div_le_self _ _
  have e2 : (BitVec.ofNat 64 (m / 2 ^ k) &&& BitVec.ofInt 64 1).toNat = m / 2 ^ k % 2 := by
    rw [show (BitVec.ofInt 64 1) = BitVec.ofNat 64 1 from rfl, BitVec.toNat_and, BitVec.toNat_ofNat, BitVec.toNat_ofNat, Nat.mod_eq_of_lt (by omega)]
    exact Nat.and_one_is_mod _
  rw [e, ofInt_nat, e2, w64_of (by omega)]
  have h3 := hm k
  rw [Nat.testBit_eq_decide_div_mod_eq, decide_eq_true_iff] at h3
  constructor
  · intro q
    exact (h3.1 (by omega)).2
  · intro q
    have := h3.2 ⟨hk, q⟩
    omega

theorem relK_flip {k : Nat} (hk : k ≤ 12) {p q : Pr} : relK (12 - k) p q ↔ relK k q p := by
  unfold relK
  by_cases h6 : k ≤ 6
  · rw [if_pos h6]
    by_cases h : k = 6
    · subst h
      rw [if_pos (by omega)]
      exact ⟨fun ⟨a, b⟩ => ⟨a.symm, b.symm⟩, fun ⟨a, b⟩ => ⟨a.symm, b.symm⟩⟩
    · rw [if_neg (by omega), show 12 - (12 - k) = k by omega]
      exact ⟨fun q => q.2, fun q => ⟨by omega, q⟩⟩
  · rw [if_neg h6, if_pos (by omega)]
    exact ⟨fun q => ⟨hk, q⟩, fun q => q.2⟩

theorem le12 {k : Nat} (h : k ≤ 12) : k = 0 ∨ k = 1 ∨ k = 2 ∨ k = 3 ∨ k = 4 ∨ k = 5 ∨ k = 6 ∨ k = 7 ∨ k = 8 ∨ k = 9 ∨ k = 10 ∨ k = 11 ∨ k = 12 := by omega

theorem relK_le {k : Nat} {p q : Pr} (h : relK k p q) : k ≤ 12 := by
  unfold relK at h
  split at h
  · omega
  · exact h.1

/-- Two pairs stand in one relation, and in no other. -/
theorem relK_one {j k : Nat} {p q : Pr} (hp : p.1 ≤ p.2) (hq : q.1 ≤ q.2) (hj : relK j p q) (hk : relK k p q) : j = k := by
  rcases le12 (relK_le hj) with rfl | rfl | rfl | rfl | rfl | rfl | rfl | rfl | rfl | rfl | rfl | rfl | rfl <;>
  rcases le12 (relK_le hk) with rfl | rfl | rfl | rfl | rfl | rfl | rfl | rfl | rfl | rfl | rfl | rfl | rfl <;>
  first | rfl | (exfalso; simp [relK, rel7] at hj hk; omega)

/-- Some relation holds of any two pairs. -/
theorem relK_some {p q : Pr} (hp : p.1 ≤ p.2) (hq : q.1 ≤ q.2) : ∃ k, relK k p q := by
  rcases Int.lt_trichotomy p.1 q.1 with h1 | h1 | h1 <;> rcases Int.lt_trichotomy p.2 q.2 with h2 | h2 | h2
  · by_cases h : p.2 + 1 < q.1
    · exact ⟨0, h⟩
    · by_cases h' : p.2 + 1 = q.1
      · exact ⟨1, h'⟩
      · exact ⟨2, h1, by omega, h2⟩
  · exact ⟨7, by decide, h1, h2.symm⟩
  · exact ⟨8, by decide, h1, h2⟩
  · exact ⟨3, h1, h2⟩
  · exact ⟨6, h1, h2⟩
  · exact ⟨9, by decide, h1.symm, h2⟩
  · exact ⟨4, h1, h2⟩
  · exact ⟨5, h1, h2⟩
  · by_cases h : q.2 + 1 < p.1
    · exact ⟨12, by decide, h⟩
    · by_cases h' : q.2 + 1 = p.1
      · exact ⟨11, by decide, h'⟩
      · exact ⟨10, by decide, h1, by omega, h2⟩
end Go.Proofs.YtocmlcpcnjaaeaaGreatDoor.V


/- The first and the last days of units, and units within days: plain facts. No program in sight. -/
namespace Go.Proofs.YtocmlcpcnjaaeaaGreatDoor.V
set_option linter.unusedVariables false
set_option linter.unusedSimpArgs false

theorem upTo_length (lo hi : Int) : (upTo lo hi).length = (hi + 1 - lo).toNat := by unfold upTo; simp

def singles (l : List Int) : Runs := l.map fun n => (n, n)

theorem day_unit {i : Int} (h : 0 ≤ i ∧ i < VCal.ucount 0) : VCal.ufirst 0 i = i ∧ VCal.ulast 0 i = i := by
  have hf : ∀ k, VCal.ufirst 0 k = k := fun k => by unfold VCal.ufirst; rw [if_pos rfl]
  refine ⟨hf i, ?_⟩
  unfold VCal.ulast
  rw [VCal.ucount_0] at *
  split
  · omega
  · rw [hf]; omega

/-- The first or last days of units: told as a set, if they are not too many. -/
def marksF (g : Int → Int → Int) (u : Int) (s : Runs) : Runs × Bool :=
  if u = 0 then (if 400 < (unitsF u s).length then ([], false) else (unitsF u s, true))
  else if 400 < (nums (unitsF u s)).length then ([], false)
  else (makeF (singles ((nums (unitsF u s)).map (g u))), true)

/-- Days of units, one of each: within the unit. -/
structure DayIn (g : Int → Int → Int) : Prop where
  is : ∀ {u i : Int}, 0 ≤ i → i < VCal.ucount u → VCal.ufirst u i ≤ g u i ∧ g u i ≤ VCal.ulast u i
  apart : ∀ {u i j : Int}, u ≠ 0 → 0 ≤ i → i < j → j < VCal.ucount u → g u i + 2 ≤ g u j

theorem nums_units {u : Int} {s : Runs} {i : Int} (h : i ∈ nums (unitsF u s)) : 0 ≤ i ∧ i < VCal.ucount u := (mem_units.1 (mem_nums.1 h)).2

/-! ### Units within days -/

/-- A place from which on something holds. -/
def FromR (cnt : Int) (P : Int → Prop) (r : Int) : Prop := 0 ≤ r ∧ r ≤ cnt ∧ (∀ i, 0 ≤ i → i < r → ¬ P i) ∧ ∀ i, r ≤ i → i < cnt → P i

theorem FromR.iff {cnt r i : Int} {P : Int → Prop} (h : FromR cnt P r) (h0 : 0 ≤ i) (h1 : i < cnt) : r ≤ i ↔ P i := by
  constructor
  · exact fun q => h.2.2.2 i q h1
  · intro q
    rcases Int.lt_or_le i r with e | e
    · exact absurd q (h.2.2.1 i h0 e)
    · exact e

theorem FromR.eq {cnt r r' : Int} {P : Int → Prop} (h : FromR cnt P r) (k : FromR cnt P r') : r = r' := by
  obtain ⟨h0, h1, h2, h3⟩ := h
  obtain ⟨k0, k1, k2, k3⟩ := k
  rcases Int.lt_or_le r r' with e | e
  · exact absurd (h3 r (Int.le_refl _) (by omega)) (k2 r h0 e)
  · rcases Int.lt_or_le r' r with e2 | e2
    · exact absurd (k3 r' (Int.le_refl _) (by omega)) (h2 r' k0 e2)
    · omega

end Go.Proofs.YtocmlcpcnjaaeaaGreatDoor.V


/- image.each's closure: what it hands on. No condition of its own. -/
namespace Go.Proofs.YtocmlcpcnjaaeaaGreatDoor.V
open Go Go.RowKit Go.Shelf
attribute [local go_sem] Oper.semAt_some
set_option linter.unusedVariables false
set_option linter.unusedSimpArgs false

/-- What is handed on, one by one. -/
def handL (P : Program) (m : Mem) (xs : List Int) : List (Handed P m (.int .i64) xs) := xs.attach.map fun x => ⟨(x.1, .int .i64 x.1), by show Value.int .i64 x.1 = Value.int .i64 x.1; rfl, x.2⟩

theorem hand_map (P : Program) (m : Mem) (xs : List Int) : (handL P m xs).map (·.1.1) = xs := by
  unfold handL
  rw [List.map_map]
  exact List.attach_map_subtype_val xs

theorem hand_length (P : Program) (m : Mem) (xs : List Int) : (handL P m xs).length = xs.length := by unfold handL; simp

theorem hand_get (P : Program) (m : Mem) (xs : List Int) {j : Nat} {x : Int} (h : xs[j]? = some x) : ∃ e : Handed P m (.int .i64) xs, (handL P m xs)[j]? = some e ∧ e.1.2 = .int .i64 x := by
  unfold handL
  have hl := (List.getElem?_eq_some_iff.1 h)
  refine ⟨⟨(x, .int .i64 x), (by show Value.int .i64 x = Value.int .i64 x; rfl), List.mem_of_getElem? h⟩, ?_, rfl⟩
  rw [List.getElem?_map]
  obtain ⟨h1, h2⟩ := hl
  rw [List.getElem?_eq_getElem (by simpa using h1)]
  simp [h2]

theorem drop_cons' {α : Type} {s : List α} {k : Nat} {r : α} (h : s[k]? = some r) : s.drop k = r :: s.drop (k + 1) := by
  obtain ⟨h1, h2⟩ := List.getElem?_eq_some_iff.1 h
  rw [List.drop_eq_getElem_cons h1, h2]

theorem it_wrap {k a : Nat} (h : k + 1 ≤ a) (hl : a ≤ 1000000000) : wrap64 ((k : Int) + 1) = ((k + 1 : Nat) : Int) := by unfold wrap64; omega
theorem it_measure {k a : Nat} (h : k + 1 ≤ a) (hl : a ≤ 1000000000) : a - (intOf (.int .i64 (wrap64 ((k : Int) + 1)))).toNat < a - (intOf (.int .i64 (k : Int))).toNat := by
  rw [it_wrap h hl]
  simp only [intOf, Int.toNat_natCast]
  omega

set_option maxRecDepth 100000 in
set_option maxHeartbeats 2000000 in
theorem iter_each {z : List (Int × Int)} (hz : ∀ r ∈ z, -1152921504606846976 ≤ r.1 ∧ r.2 ≤ 1152921504606846976) (hl : z.length ≤ 1000000000) (T : TypeId → Bool) (hT : T 75 = false) : IterE bs 220 [.ip [.p (.slice sRun) z] 0] (.int .i64) T (nums z) := by
  refine ⟨⟨_, _, Tryz.func220, rfl, by decide⟩, ?_⟩
  intro m w us ht hh hu l J Jx W hW hJ hJx hY h0
  obtain ⟨u, us', e1, ⟨b, o, cs, e2, e3, e4⟩, e5⟩ := RepL_cons.1 hu
  rw [RepL_nil.1 e5] at e1
  subst e1 e2
  obtain ⟨sv, cs', e6, ⟨base, cap, e7, ecap, e8⟩, e9⟩ := RepL_cons.1 e3
  rw [RepL_nil.1 e9] at e6
  subst e6 e7
  have hs : m b o = some (.slice base z.length cap) := e4 0 _ rfl
  have hHW : Holds W m := fun bb oo v hv => by
    have h1 := hh bb oo v hv
    obtain ⟨ob, h2, _⟩ := cell_obj h1
    exact (World.cell?_of_block (a := ⟨bb, oo, none⟩) (hW.block bb (Array.getElem?_eq_some_iff.1 h2).1)).trans h1
  have c1 : W.cell? ⟨b, o, none⟩ = some (.slice base z.length cap) := hHW _ _ _ hs
  show CallsIn Fence.wide 3 Tryz.prog 220 #[.func (.yield l) #[] #[], .pointer (some ⟨b, o, none⟩)] W _
  refine callsIn_of_wp Tryz.func220 rfl trivial ?_ rfl
  simp only [Tryz.ntmps220, List.size_toArray, List.length_cons, List.length_nil, Nat.reduceAdd, Nat.reduceSub, Array.replicate_succ, Array.replicate_zero, List.push_toArray, List.append_toArray, List.nil_append, List.cons_append]
  have hz0 : J ((handL bs.P m (nums z)).take (nums (z.take 0)).length) W := h0
  clear e4 e9 e5 hu e3 h0
  gi_wp2
  gi_loopw [8] (fun i wr => ∃ k : Nat, k ≤ z.length ∧ i = .int .i64 k ∧ J ((handL bs.P m (nums z)).take (nums (z.take k)).length) wr ∧ Holds wr m ∧ W.heap.size ≤ wr.heap.size)
    (fun i _ => z.length - (intOf i).toNat)
  case atStart => exact ⟨0, Nat.zero_le _, rfl, hz0, hHW, Nat.le_refl _⟩
  case round =>
    rename World => wo
    obtain ⟨k, hk, rfl, hJs, hH, hsz⟩ := hrel
    by_cases hlt : k < z.length
    · have hg := List.getElem?_eq_getElem hlt
      generalize z[k] = r at hg
      have hr := hz r (List.mem_of_getElem? hg)
      rcases e8 with e | ⟨b2, o2, e, e8⟩
      · rw [e] at hlt; cases hlt
      · subst e
        obtain ⟨us, q1, q2⟩ := e8 k r hg
        obtain ⟨_, _, rfl, ⟨_, rfl, q3⟩, ⟨_, rfl, q4⟩⟩ := q1
        have q3 : _ = Value.int .i64 r.1 := q3
        have q4 : _ = Value.int .i64 r.2 := q4
        subst q3 q4
        have c2 : wo.cell? ⟨b2, o2 + k * 2, none⟩ = some (.int .i64 r.1) := hH _ _ _ (q2 0 _ rfl)
        have c3 : wo.cell? ⟨b2, o2 + k * 2 + 1, none⟩ = some (.int .i64 r.2) := hH _ _ _ (q2 1 _ rfl)
        gi_wp2
        have hparts : z = z.take k ++ r :: z.drop (k + 1) := by rw [← drop_cons' hg, List.take_append_drop]
        have hnum : nums z = nums (z.take k) ++ (upTo r.1 r.2 ++ nums (z.drop (k + 1))) := by
          conv => lhs; rw [hparts]
          unfold nums
          rw [List.flatMap_append, List.flatMap_cons]
        have hnxt : (nums (z.take (k + 1))).length = (nums (z.take k)).length + (r.2 + 1 - r.1).toNat := by
          unfold nums
          rw [List.take_add_one, hg, List.flatMap_append, List.length_append]
          simp [upTo]
        obtain ⟨q0, hq0⟩ : ∃ q0, (nums (z.take k)).length = q0 := ⟨_, rfl⟩
        have hnth : ∀ i : Nat, (i : Int) ≤ r.2 - r.1 → (nums z)[q0 + i]? = some (r.1 + i) := fun i hi => by
          rw [hnum, ← hq0, List.getElem?_append_right (by omega), Nat.add_sub_cancel_left, List.getElem?_append_left (by simp [upTo]; omega)]
          unfold upTo
          rw [List.getElem?_map, List.getElem?_range (by omega)]
          rfl
        rw [hq0] at hJs hnxt
        have hB0 : w.heap.size ≤ wo.heap.size := Nat.le_trans hW.size hsz
        have hJ1 := hJ _ _ _ none hJs (World.grownBy_alloc wo (.cells #[.int .i64 r.1, .int .i64 r.2] 75) none) (fun _ e => by cases e)
        have hH1 : Holds (wo.alloc (.cells #[.int .i64 r.1, .int .i64 r.2] 75)) m := fun bb oo v hv => by
          have h1 := hH bb oo v hv
          obtain ⟨ob, h2, _⟩ := cell_obj h1
          exact (World.cell?_of_block (a := ⟨bb, oo, none⟩) (Below.heap_alloc wo _ bb (Array.getElem?_eq_some_iff.1 h2).1)).trans h1
        have hB1 := World.alloc_heap_new wo (.cells #[.int .i64 r.1, .int .i64 r.2] 75)
        clear hJs hH c2 c3 q2 e8 c1 hparts hnum
        gi_loopw [5] (fun v w2 => ∃ n : Int, v = .int .i64 n ∧ r.1 ≤ n ∧ (n = r.1 ∨ n ≤ r.2 + 1) ∧ J ((handL bs.P m (nums z)).take (q0 + (n - r.1).toNat)) w2 ∧ Holds w2 m ∧ wo.heap.size < w2.heap.size ∧ w2.heap[wo.heap.size]? = some (.cells #[.int .i64 r.1, .int .i64 r.2] 75 (0, 0)))
          (fun v _ => (r.2 + 1 - intOf v).toNat)
        case atStart =>
          refine ⟨r.1, rfl, Int.le_refl _, .inl rfl, ?_, hH1, by simp, hB1⟩
          rw [Int.sub_self]
          exact hJ1
        case round =>
          rename World => w2
          obtain ⟨n, rfl, n1, n2, hJ2, hH2, hs2, hb2⟩ := hrel
          have c4 : w2.cell? ⟨wo.heap.size, 1, none⟩ = some (.int .i64 r.2) := by unfold World.cell?; rw [hb2]; rfl
          by_cases hn : n ≤ r.2
          · obtain ⟨e, he1, he2⟩ := hand_get bs.P m (nums z) (hnth (n - r.1).toNat (by omega))
            rw [show r.1 + ((n - r.1).toNat : Int) = n by omega] at he2
            have hl2 : q0 + (n - r.1).toNat < (handL bs.P m (nums z)).length := (List.getElem?_eq_some_iff.1 he1).1
            obtain ⟨fn, tmps, assign, body, hy, hR⟩ := hY _ e w2 hJ2 (by rw [List.length_take]; rw [hand_length] at hl2 ⊢; omega)
            rw [he2] at hy
            have hy : (Instr.yield l #[.int .i64 n]).run Tryz.prog w2 = .ok (.round l fn tmps assign body) w2 := hy
            have hR : RoundIn Fence.wide 2 Tryz.prog l fn tmps assign body w2 _ := hR
            have hw1 : wrap64 (n + 1) = n + 1 := by unfold wrap64; omega
            have htk : (handL bs.P m (nums z)).take (q0 + (n + 1 - r.1).toNat) = (handL bs.P m (nums z)).take (q0 + (n - r.1).toNat) ++ [e] := by
              rw [show q0 + (n + 1 - r.1).toNat = q0 + (n - r.1).toNat + 1 by omega, List.take_add_one, he1]
              rfl
            gi_wp2
            refine hR.mono ?_
            rintro e4 W3 (⟨rfl, hJ3, hk3⟩ | ⟨rfl, hJx3⟩)
            · have hb3 := hk3.2.2 _ _ _ _ hB0 hT hb2
              have hs3 := Nat.lt_of_lt_of_le hs2 hk3.2.1
              have hH3 := hk3.1 hH2
              rw [← htk] at hJ3
              clear htk hy hk3 hR he1 he2
              gi_wp2
              go_roundw
              case rel => exact ⟨n + 1, rfl, by omega, .inr (by omega), hJ3, hH3, hs3, hb3⟩
              case measure => simp [intOf]; omega
            · clear htk hy hR he1 he2
              gi_wp2
              refine bodyPost_ret (results_none rfl _ _ _) rfl ?_
              exact ⟨⟨_, rfl⟩, .inr ⟨_, trivial, hJx3⟩⟩
          · have hq1 : q0 + (n - r.1).toNat = q0 + (r.2 + 1 - r.1).toNat := by omega
            rw [hq1, ← hnxt] at hJ2
            have hs4 : W.heap.size ≤ w2.heap.size := Nat.le_trans hsz (Nat.le_of_lt hs2)
            have hk1 : k + 1 ≤ z.length := hlt
            have hw2 := it_wrap hk1 hl
            have hme := it_measure hk1 hl
            clear hq1 hnxt hz hr hnth n1 n2 hJ1 hH1 hB1 hB0 hz0 hHW hl hs2 hsz hlt
            gi_wp2
            go_roundw
            case rel => exact ⟨k + 1, hk1, congrArg _ hw2, hJ2, hH2, hs4⟩
            case measure => exact hme
    · obtain rfl : k = z.length := by omega
      gi_wp2
      go_end0
      exact ⟨⟨_, rfl⟩, .inl ⟨_, (by
        rw [List.take_length]
        rw [List.take_of_length_le (by rw [hand_length]; exact Nat.le_refl _)]
        exact hand_map _ _ _), hJs⟩⟩
end Go.Proofs.YtocmlcpcnjaaeaaGreatDoor.V


/- image.marks: its condition, tied to the function's own code by the kernel. No condition of its own. -/
namespace Go.Proofs.YtocmlcpcnjaaeaaGreatDoor.V
open Go
set_option linter.unusedVariables false
abbrev n_image_marks : Nat := 135
noncomputable def g_image_each_in : Cfg := { toBase := bs, lv := fun _ => ([], [], []), rows := [] }
noncomputable def g_image_marks : Cfg := { toBase := bs, lv := fun | 2009 => ([9], [2, 3], [4]) | _ => ([], [], []), rows := [9], rs := .int .i64, han := hanL bs [(190, .inl g_image_each_in)] }
def c_image_marks (a : Int × List (Int × Int) × (Int × Int → Option (Int × Bool))) (R : List (Int × Int) × Bool → Prop) : Prop :=
  callP bs 188 (.pair (.int .i64) (.slice sRun)) (.slice sRun) (a.1, a.2.1) (fun r1 => cond (decide (a.1 = (0 : Int)))
    (callP bs 137 (.slice sRun) .bool r1 (fun r2 => R (r1, !r2)))
    (callP bs 189 (.slice sRun) (.int .i64) r1 (fun r3 => cond (decide ((400 : Int) < r3)) (R ([], false))
      (itP bs 220 [.ip [.p (.slice sRun) r1] 0] (.int .i64) (fun t => (Nat.beq 3 t || (false || false))) (fun xs => rangeP (S := List Int × Unit) (fun x y back => gcall a.2.2 (a.1, x) (fun r4 => chk ((y.1.length + [r4.1].length) * 8 ≤ 140737488355328) (back (y.1 ++ [r4.1], ()))))
        (fun y => callP bs 191 (.slice (.int .i64)) (.slice sRun) y.1 (fun r5 => R (r5, true))) xs ([], ()))))))
theorem e_image_marks (a : Int × List (Int × Int) × (Int × Int → Option (Int × Bool))) (R : List (Int × Int) × Bool → Prop) : g_image_marks.fnRK 135 (Shape.compsE (.pair (.int .i64) (.pair (.slice sRun) (.func (.pair (.int .i64) (.int .i64)) (.tup (.pair (.int .i64) .bool))))) a) (.tup (.pair (.slice sRun) .bool)) R = c_image_marks a R := by kernel_rfl
end Go.Proofs.YtocmlcpcnjaaeaaGreatDoor.V


/- image: marks, Starts, Ends, search, Inside, Touch: their contracts. No condition of its own. -/
namespace Go.Proofs.YtocmlcpcnjaaeaaGreatDoor.V
open Go
set_option linter.unusedVariables false
set_option linter.unusedSimpArgs false

theorem ok_rf {B : Base} {g : Cfg} {f : FuncId} {args : List EV} {out : Shape} {R : out.Val → Prop} {C : Prop} (e : g.fnRK f args out R = C) (hb : g.toBase = B) (H : HanOK g) (h : C) : FnE B f args out R := by rw [← hb]; exact fnR_sound H (e.mpr h)

theorem nums_count : ∀ {s : Runs} {a : Int}, SaneFrom a s → ((nums s).length : Int) = countF s
  | [], _, _ => rfl
  | r :: s, a, h => by
    have h1 := nums_count h.2.2.2
    have h2 := h.1
    unfold nums at *
    rw [List.flatMap_cons, List.length_append, upTo_length]
    unfold countF
    omega

theorem ok_image_marks {u : Int} {s : Runs} {g : Int → Int → Int} {f : Int × Int → Int × Bool} (hl : s.length < 65536) (hf : ∀ i, 0 ≤ i → i < VCal.ucount u → (f (u, i)).1 = g u i) :
    FnE bs n_image_marks ((Shape.pair (.int .i64) (.pair (.slice sRun) (.func (.pair (.int .i64) (.int .i64)) (.tup (.pair (.int .i64) .bool))))).compsE (u, s, fun x => some (f x))) (.tup (.pair (.slice sRun) .bool)) (fun r => r.2 = (marksF g u s).2 ∧ (r.2 = true → r.1 = (marksF g u s).1)) := by
  refine ok_rf (e_image_marks (u, s, fun x => some (f x)) _) rfl (HanOK.ofList [(190, .inl g_image_each_in)] rfl rfl ⟨rfl, HanOK.none rfl rfl, trivial⟩) ?_
  unfold c_image_marks
  refine callP_eq (ok_image_units hl) ?_
  have hs := units_sane u s
  have hlen := units_length u s
  have hc := VCal.ucount_pos u
  have hus := make_self hs
  refine cond_dec (fun e => ?_) fun e => ?_
  · have e : u = 0 := e
    refine callP_eq (ok_sets_WideA (s := unitsF u s) (by omega)) ?_
    rw [hus]
    unfold marksF
    rw [if_pos e]
    by_cases hw : 400 < (unitsF u s).length
    · rw [if_pos hw, decide_eq_true hw]
      exact ⟨rfl, fun h => by cases h⟩
    · rw [if_neg hw, decide_eq_false hw]
      exact ⟨rfl, fun _ => rfl⟩
  · have e : ¬ u = 0 := e
    refine callP_eq (ok_runs_CountA (s := unitsF u s) (by omega)) ?_
    rw [hus, ← nums_count hs]
    unfold marksF
    rw [if_neg e]
    refine cond_dec (fun hw => ?_) fun hw => ?_
    · have hw : (400 : Int) < ((nums (unitsF u s)).length : Int) := hw
      rw [if_pos (by omega)]
      exact ⟨rfl, fun h => by cases h⟩
    · have hw : ¬ (400 : Int) < ((nums (unitsF u s)).length : Int) := hw
      rw [if_neg (by omega)]
      refine ⟨nums (unitsF u s), iter_each (z := unitsF u s) (fun r hr => by have := units_in hr; omega) (by omega) _ rfl, ?_⟩
      refine ⟨fun pre y => y.1 = pre.map (g u), rfl, fun pre x y hx hpl hy => ?_, fun y hy => ?_⟩
      · refine gcall_eq rfl ⟨?_, ?_⟩
        · have : y.1.length = pre.length := by rw [hy, List.length_map]
          show (y.1.length + 1) * 8 ≤ _
          omega
        · show y.1 ++ [(f (u, x)).1] = (pre ++ [x]).map (g u)
          have b := nums_units hx
          rw [hy, List.map_append, hf x b.1 b.2]
          rfl
      · have hyl : y.1.length ≤ 400 := by rw [hy, List.length_map]; omega
        refine callP_eq (ok_runs_Of (l := y.1) (by omega)) ⟨rfl, fun _ => ?_⟩
        show makeF (y.1.map fun n => (n, n)) = _
        rw [hy]
        rfl

theorem ok_image_Starts {u : Int} {s : Runs} (hl : s.length < 65536) : FnE bs n_image_Starts ((Shape.pair (.int .i64) (.slice sRun)).compsE (u, s)) (.tup (.pair (.slice sRun) .bool)) (· = marksF VCal.ufirst u s) := by
  refine ok_of (e_image_Starts (u, s) _) rfl ?_
  unfold c_image_Starts
  refine ⟨_, cl_First, callP_of (ok_image_marks (g := VCal.ufirst) hl fun i h0 h1 => by show (firstS u i).1 = _; unfold firstS; rw [if_pos ⟨h0, h1⟩]) fun r hr => ?_⟩
  obtain ⟨h1, h2⟩ := hr
  refine cond_not (fun h => ?_) fun h => ?_
  · rw [h] at h1
    generalize hm : marksF VCal.ufirst u s = q at h1
    obtain ⟨l, b⟩ := q
    have h1 : false = b := h1
    subst h1
    have : l = [] := by
      unfold marksF at hm
      split at hm <;> split at hm <;> first | (cases hm; rfl) | cases hm
    rw [this]
  · rw [h2 h]
    rw [h] at h1
    exact Prod.ext rfl h1

theorem ok_image_Ends {u : Int} {s : Runs} (hl : s.length < 65536) : FnE bs n_image_Ends ((Shape.pair (.int .i64) (.slice sRun)).compsE (u, s)) (.tup (.pair (.slice sRun) .bool)) (· = marksF VCal.ulast u s) := by
  refine ok_of (e_image_Ends (u, s) _) rfl ?_
  unfold c_image_Ends
  refine ⟨_, cl_Last, callP_of (ok_image_marks (g := VCal.ulast) hl fun i h0 h1 => by show (lastS u i).1 = _; unfold lastS; rw [if_pos ⟨h0, h1⟩]) fun r hr => ?_⟩
  obtain ⟨h1, h2⟩ := hr
  refine cond_not (fun h => ?_) fun h => ?_
  · rw [h] at h1
    generalize hm : marksF VCal.ulast u s = q at h1
    obtain ⟨l, b⟩ := q
    have h1 : false = b := h1
    subst h1
    have : l = [] := by
      unfold marksF at hm
      split at hm <;> split at hm <;> first | (cases hm; rfl) | cases hm
    rw [this]
  · rw [h2 h]
    rw [h] at h1
    exact Prod.ext rfl h1

/-! ### Units within days -/

end Go.Proofs.YtocmlcpcnjaaeaaGreatDoor.V


/- slices.Grow, slices.Concat, sets.Union: their contracts. No condition of its own. -/
namespace Go.Proofs.YtocmlcpcnjaaeaaGreatDoor.V
open Go Go.RowKit Go.Shelf Go.Proofs
set_option linter.unusedVariables false
set_option linter.unusedSimpArgs false

end Go.Proofs.YtocmlcpcnjaaeaaGreatDoor.V


/- lustrumlaw14.LeafMore as a condition on the program's functions. No condition of its own. -/
namespace Go.Proofs.YtocmlcpcnjaaeaaGreatDoor.V
open Go
set_option linter.unusedVariables false
set_option linter.unusedSimpArgs false

end Go.Proofs.YtocmlcpcnjaaeaaGreatDoor.V


/- lustrumlaw07: the laws of units' days, as conditions on the program's functions alone. No condition of its own. -/
namespace Go.Proofs.YtocmlcpcnjaaeaaGreatDoor.V
open Go
set_option linter.unusedVariables false
set_option linter.unusedSimpArgs false

end Go.Proofs.YtocmlcpcnjaaeaaGreatDoor.V


/- lustrumlaw07.ImageEnds as a condition on the program's functions. No condition of its own. -/
namespace Go.Proofs.YtocmlcpcnjaaeaaGreatDoor.V
open Go
set_option linter.unusedVariables false
set_option linter.unusedSimpArgs false

end Go.Proofs.YtocmlcpcnjaaeaaGreatDoor.V

