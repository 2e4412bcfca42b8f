/- Sets as runs: what the program's functions answer of lists that are sets. No condition of its own. -/
import Derived.Test.YtjeoelajkncpcaaDoorC2
import Derived.Test.YtjeoelajkncpcaaDoorS1
namespace Go.Proofs.YtjeoelajkncpcaaDoor.V
open Go
set_option linter.unusedVariables false

theorem rd_of {s : Shape} {xs : List s.Val} {k : Nat} {r : s.Val} (h : xs[k]? = some r) : rd s xs k = r := by
  unfold rd
  rw [List.getD_eq_getElem?_getD, h]
  rfl

theorem drop_cons {α : Type} {s : List α} {k : Nat} {r : α} (h : s[k]? = some r) : s.drop k = r :: s.drop (k + 1) := by
  obtain ⟨hk, e⟩ := List.getElem?_eq_some_iff.1 h
  rw [List.drop_eq_getElem_cons hk, e]

theorem be {a b : Bool} (h : a = b) : @Eq Shape.bool.Val a b := h

theorem toNat_ofNat (k : Nat) : ((k : Int)).toNat = k := Int.toNat_natCast k

theorem ok_runs_Sane {s : Runs} (hl : s.length ≤ 1000000000) : FnE bs n_runs_Sane ((Shape.slice sRun).compsE s) .bool (· = decide (Sane s)) := by
  refine ok_of (e_runs_Sane s _) rfl ?_
  unfold c_runs_Sane
  refine loopP_of (fun z : Int × Int => ∃ k : Nat, z.2 = k ∧ k ≤ s.length ∧ (Sane s ↔ SaneFrom z.1 (s.drop k)) ∧ -1099511627778 ≤ z.1 ∧ z.1 ≤ Lim) (fun z => s.length - z.2.toNat) ?_ ⟨0, rfl, Nat.zero_le _, by simp [Sane], by decide, by decide⟩
  intro z A ⟨k, hk, hks, hiff, hlo, hhi⟩ back
  obtain ⟨last, i⟩ := z
  dsimp only [Shape.Val] at *
  subst hk
  unfold Lim at hhi
  refine cond_dec (fun h => ⟨⟨by omega, h⟩, ?_⟩) fun h => ?_
  · have hk : k < s.length := by omega
    have hg := List.getElem?_eq_getElem hk
    generalize s[k] = r at hg
    rw [toNat_ofNat, rd_of (s := sRun) hg, w64_of (n := last + 2) (by omega), w64_of (n := (k : Int) + 1) (by omega)]
    rw [drop_cons hg] at hiff
    simp only [SaneFrom, Lim] at hiff
    refine cond_dec (fun h1 => ?_) fun h1 => cond_dec (fun h2 => ?_) fun h2 => cond_dec (fun h3 => ?_) fun h3 => ?_
    · exact be (decide_eq_false fun q => by have := hiff.1 q; omega).symm
    · exact be (decide_eq_false fun q => by have := hiff.1 q; omega).symm
    · exact be (decide_eq_false fun q => by have := hiff.1 q; omega).symm
    · refine back (r.2, (k : Int) + 1) ⟨k + 1, by simp, hk, ?_, ?_, ?_⟩ ?_
      · rw [hiff]
        exact ⟨fun q => q.2.2.2, fun q => ⟨by omega, by omega, by omega, q⟩⟩
      · dsimp only; omega
      · dsimp only; unfold Lim; omega
      · dsimp only; omega
  · rw [List.drop_eq_nil_of_le (by omega)] at hiff
    exact be (decide_eq_true (hiff.2 trivial)).symm

theorem ok_runs_known {s : Runs} (hl : s.length ≤ 1000000000) (h : Sane s) : FnE bs n_runs_known ((Shape.slice sRun).compsE s) (.slice sRun) (· = s) := by
  refine ok_of (e_runs_known s _) rfl ?_
  unfold c_runs_known
  exact callP_eq (ok_runs_Sane hl) (cond_yes (decide_eq_true h) rfl)

theorem ok_sets_known {s : Runs} (hl : s.length ≤ 1000000000) (h : Sane s) : FnE bs n_sets_known ((Shape.slice sRun).compsE s) (.slice sRun) (· = s) := by
  refine ok_of (e_sets_known s _) rfl ?_
  unfold c_sets_known
  exact callP_eq (ok_runs_Sane hl) (cond_yes (decide_eq_true h) rfl)

/-! ### A number's place -/

def cmpS (a b : Int) : Int := if a < b then -1 else if b < a then 1 else 0

theorem cmpS_lt {a b : Int} : cmpS a b < 0 ↔ a < b := by
  unfold cmpS
  split
  · rename_i h; exact ⟨fun _ => h, fun _ => by decide⟩
  · rename_i h
    split
    · exact ⟨fun q => absurd q (by decide), fun q => absurd q h⟩
    · exact ⟨fun q => absurd q (by decide), fun q => absurd q h⟩

theorem ok_cmp_isNaN {a : Int} : FnE bs n_cmp_isNaN ((Shape.int .i64).compsE a) .bool (· = false) := ok_of (e_cmp_isNaN a _) rfl (be (by simp))

theorem ok_cmp_Compare {a b : Int} : FnE bs n_cmp_Compare ((Shape.pair (.int .i64) (.int .i64)).compsE (a, b)) (.int .i64) (· = cmpS a b) := by
  refine ok_of (e_cmp_Compare (a, b) _) rfl ?_
  unfold c_cmp_Compare cmpS
  refine callP_eq ok_cmp_isNaN (callP_eq ok_cmp_isNaN (cond_dec (fun h => ?_) fun h => cond_dec (fun h2 => ?_) fun h2 => ?_)) <;> dsimp only [Shape.Val] at *
  · rw [if_pos h]
  · rw [if_neg h, if_pos h2]
  · rw [if_neg h, if_neg h2]

theorem ok_runs_at_1 {r : Int × Int} {n : Int} : FnE bs n_runs_at_1 ((Shape.pair sRun (.int .i64)).compsE (r, n)) (.int .i64) (· = cmpS r.2 n) := by
  refine ok_of (e_runs_at_1 (r, n) _) rfl ?_
  unfold c_runs_at_1
  exact callP_eq ok_cmp_Compare rfl

theorem mid_eq {i j : Int} (h : 0 ≤ i ∧ 0 ≤ j ∧ i ≤ 1000000000000 ∧ j ≤ 1000000000000) : w64 (Int.fdiv (IntKind.wrap .u64 (w64 (i + j))) (2 ^ (1 : Int).toNat)) = (i + j) / 2 := by
  rw [w64_of (n := i + j) (by omega)]
  have e : IntKind.wrap .u64 (i + j) = i + j := by simp [IntKind.wrap, IntKind.bits, IntKind.signed]; omega
  rw [e, show (2 : Int) ^ (1 : Int).toNat = 2 from rfl, Int.fdiv_eq_ediv_of_nonneg _ (by omega)]
  exact w64_of (by omega)

/-- The place of the first run that ends at a number, or behind it. -/
def AtR (s : Runs) (n : Int) (k : Int) : Prop := 0 ≤ k ∧ k ≤ s.length ∧ ∀ (i : Nat) r, s[i]? = some r → ((i : Int) < k → r.2 < n) ∧ (k ≤ i → n ≤ r.2)

theorem sorted_hi {s : Runs} (h : Sane s) {i j : Nat} {r q : Int × Int} (hi : s[i]? = some r) (hj : s[j]? = some q) (hl : i ≤ j) : r.2 ≤ q.2 := by
  rcases Nat.lt_or_eq_of_le hl with e | e
  · have := SaneFrom.get h i j r q hi hj e
    have := (SaneFrom.lt h q (List.mem_of_getElem? hj)).2.1
    omega
  · subst e; rw [hi] at hj; cases hj; exact Int.le_refl _

theorem ok_slices_BinarySearchFunc {s : Runs} {n : Int} (hl : s.length ≤ 1000000000) (h : Sane s) : FnE bs n_slices_BinarySearchFunc ((Shape.pair (.slice sRun) (.pair (.int .i64) (.func (.pair sRun (.int .i64)) (.int .i64)))).compsE (s, n, fun x => some (cmpS x.1.2 x.2))) (.tup (.pair (.int .i64) .bool)) (fun r => AtR s n r.1) := by
  refine ok_of (e_slices_BinarySearchFunc (s, n, fun x => some (cmpS x.1.2 x.2)) _) rfl ?_
  unfold c_slices_BinarySearchFunc
  refine loopP_of (fun z : Int × Int => 0 ≤ z.1 ∧ z.1 ≤ z.2 ∧ z.2 ≤ s.length ∧ ∀ (i : Nat) r, s[i]? = some r → ((i : Int) < z.1 → r.2 < n) ∧ (z.2 ≤ i → n ≤ r.2)) (fun z => (z.2 - z.1).toNat) ?_ ⟨Int.le_refl _, by dsimp only; omega, by dsimp only; omega, fun i r hi => ⟨fun q => by dsimp only at q; omega, fun q => by have := (List.getElem?_eq_some_iff.1 hi).1; dsimp only at q; omega⟩⟩
  intro z A ⟨h0, h1, h2, h3⟩ back
  obtain ⟨i, j⟩ := z
  dsimp only [Shape.Val] at *
  refine cond_dec (fun hij => ⟨by decide, ?_⟩) fun hij => ?_
  · rw [mid_eq (by omega)]
    have hm : ((i + j) / 2).toNat < s.length := by omega
    have hg := List.getElem?_eq_getElem hm
    generalize s[((i + j) / 2).toNat] = r at hg
    refine ⟨⟨by omega, by omega⟩, gcall_eq rfl ?_⟩
    rw [rd_of (s := sRun) hg]
    dsimp only
    refine cond_dec (fun hc => ?_) fun hc => ?_
    · have hc : r.2 < n := cmpS_lt.1 hc
      rw [w64_of (n := (i + j) / 2 + 1) (by omega)]
      refine back ((i + j) / 2 + 1, j) ⟨by dsimp only; omega, by dsimp only; omega, by dsimp only; omega, fun t q ht => ⟨fun hlt => ?_, (h3 t q ht).2⟩⟩ (by dsimp only; omega)
      dsimp only at hlt
      have := sorted_hi h ht hg (by omega)
      omega
    · have hc : ¬ r.2 < n := fun q => hc (cmpS_lt.2 q)
      refine back (i, (i + j) / 2) ⟨by dsimp only; omega, by dsimp only; omega, by dsimp only; omega, fun t q ht => ⟨(h3 t q ht).1, fun hge => ?_⟩⟩ (by dsimp only; omega)
      dsimp only at hge
      have := sorted_hi h hg ht (by omega)
      omega
  · have hij : j = i := by omega
    subst hij
    have fin : AtR s n j := ⟨h0, h2, h3⟩
    exact cond_dec (fun hlt => ⟨⟨by omega, hlt⟩, gcall_eq rfl fin⟩) fun _ => fin

theorem ok_runs_at {s : Runs} {n : Int} (hl : s.length ≤ 1000000000) (h : Sane s) : FnE bs n_runs_at ((Shape.pair (.slice sRun) (.int .i64)).compsE (s, n)) (.int .i64) (AtR s n) := by
  refine ok_of (e_runs_at (s, n) _) rfl ?_
  unfold c_runs_at
  refine ⟨fun x => some (cmpS x.1.2 x.2), ⟨(ok_runs_at_1 (r := (0, 0)) (n := 0)).1, fun x r hx => by cases hx; exact ok_runs_at_1⟩, ?_⟩
  exact callP_of (ok_slices_BinarySearchFunc hl h) fun r hr => hr

/-- The least number from one on. -/
def NextR (s : Runs) (n : Int) (r : Int × Bool) : Prop := (r = (0, false) ∧ ∀ m, mem s m → m < n) ∨ (r.2 = true ∧ mem s r.1 ∧ n ≤ r.1 ∧ ∀ m, mem s m → n ≤ m → r.1 ≤ m)

theorem ok_runs_Next {s : Runs} {n : Int} (hl : s.length ≤ 1000000000) (h : Sane s) : FnE bs n_runs_Next ((Shape.pair (.slice sRun) (.int .i64)).compsE (s, n)) (.tup (.pair (.int .i64) .bool)) (NextR s n) := by
  refine ok_of (e_runs_Next (s, n) _) rfl ?_
  unfold c_runs_Next
  refine callP_eq (ok_runs_known hl h) (callP_of (ok_runs_at hl h) fun k hk => ?_)
  obtain ⟨k0, k1, k2⟩ := hk
  dsimp only [Shape.Val] at *
  refine cond_dec (fun e => ?_) fun e => ⟨⟨k0, ?_⟩, ?_⟩
  · refine .inl ⟨rfl, fun m ⟨q, hq, hm⟩ => ?_⟩
    obtain ⟨i, hi⟩ := List.getElem?_of_mem hq
    have := (List.getElem?_eq_some_iff.1 hi).1
    have := (k2 i q hi).1 (by omega)
    omega
  · omega
  · have hk : (k : Int).toNat < s.length := by omega
    have hg := List.getElem?_eq_getElem hk
    generalize s[(k : Int).toNat] = r at hg
    have hr := (k2 _ r hg).2 (by omega)
    have hb := (Sane.bounds h r (List.mem_of_getElem? hg))
    rw [rd_of (s := sRun) hg]
    have hmax : maxI n r.1 = max n r.1 := by unfold maxI; split <;> omega
    refine .inr ⟨rfl, ⟨r, List.mem_of_getElem? hg, ?_⟩, ?_, fun m ⟨q, hq, hm⟩ hnm => ?_⟩ <;> dsimp only <;> rw [hmax]
    · omega
    · omega
    · obtain ⟨i, hi⟩ := List.getElem?_of_mem hq
      have hik : ¬ (i : Int) < k := fun hl => by have := (k2 i q hi).1 hl; omega
      rcases Nat.lt_or_eq_of_le (show (k : Int).toNat ≤ i by omega) with e | e
      · have := SaneFrom.get h _ _ _ _ hg hi e
        omega
      · subst e; rw [hg] at hi; cases hi; omega

theorem ok_runs_Has {s : Runs} {n : Int} (hl : s.length ≤ 1000000000) (h : Sane s) : FnE bs n_runs_Has ((Shape.pair (.slice sRun) (.int .i64)).compsE (s, n)) .bool (· = decide (mem s n)) := by
  refine ok_of (e_runs_Has (s, n) _) rfl ?_
  unfold c_runs_Has
  refine callP_of (ok_runs_Next hl h) fun r hr => ?_
  rcases hr with ⟨rfl, hr⟩ | ⟨h1, h2, h3, h4⟩
  · exact be (decide_eq_false fun hm => by have := hr n hm; omega).symm
  · refine cond_yes h1 (be ?_)
    rw [decide_eq_decide]
    exact ⟨fun e => by rw [← show r.1 = n from e]; exact h2, fun hm => by have := h4 n hm (Int.le_refl _); exact ie (by dsimp only [Shape.Val] at *; omega)⟩
end Go.Proofs.YtjeoelajkncpcaaDoor.V
