/- Loops: the state at a round's head. No condition of its own. -/
import Derived.Test.YtjeoelajkncpcaaDoorV18
namespace Go.Proofs.YtjeoelajkncpcaaDoor.V
open Go Go.RowKit
set_option linter.unusedVariables false
set_option linter.unusedSimpArgs false

/-! ### What a round hands on -/

def WkL : List EV → List EV → Prop
  | [], [] => True
  | v :: r, u :: q => (v = .bot ∨ v = u) ∧ WkL r q
  | _, _ => False

def SWk : Slot → Slot → Prop
  | .e v, u => v = .bot ∨ u = .e v ∨ ∃ cs ds, v = .agg cs ∧ u = .e (.agg ds) ∧ WkL cs ds
  | .n (.box _ cs), u => ∃ ds, u = .n (.box .own ds) ∧ WkL cs ds
  | .n (.row _ v el s xs), u => u = .n (.row .own v el s xs)

def SWkL : List Slot → List Slot → Prop
  | [], [] => True
  | v :: r, u :: q => SWk v u ∧ SWkL r q
  | _, _ => False

theorem EV.mat_spec (v : EV) (u : EV) {K : v.sh.Val → Prop} (h : v.mat u K) : ∃ x, K x ∧ (v.mk' x = .bot ∨ v.mk' x = u) := by
  cases v with
  | p s y =>
    cases u with
    | p s' z =>
      obtain ⟨e, h⟩ := castK_spec (show castK s' s z K from h)
      subst e
      exact ⟨z, h, .inr rfl⟩
    | _ => exact False.elim h
  | box i o =>
    cases u with
    | box i' o' =>
      obtain ⟨hb, h⟩ := cond_true' (show cond (Nat.beq i i' && Nat.beq o o') (K ()) False from h)
      simp only [Bool.and_eq_true] at hb
      exact ⟨(), h, .inr (by rw [← beq_eq hb.1, ← beq_eq hb.2]; rfl)⟩
    | _ => exact False.elim h
  | row i o =>
    cases u with
    | row i' o' =>
      obtain ⟨hb, h⟩ := cond_true' (show cond (Nat.beq i i' && Nat.beq o o') (K ()) False from h)
      simp only [Bool.and_eq_true] at hb
      exact ⟨(), h, .inr (by rw [← beq_eq hb.1, ← beq_eq hb.2]; rfl)⟩
    | _ => exact False.elim h
  | _ => exact ⟨(), h, .inl rfl⟩

theorem matC_spec : ∀ (l : List EV) (q : List EV) {K : (shC l).Val → Prop}, matC l q K → ∃ x, K x ∧ WkL (mkC l x) q
  | [], [], K, h => ⟨(), h, trivial⟩
  | [v], [u], K, h => by
    obtain ⟨x, h1, h2⟩ := EV.mat_spec v u h
    exact ⟨x, h1, h2, trivial⟩
  | v :: w :: r, u :: q, K, h => by
    obtain ⟨x, h1, h2⟩ := EV.mat_spec v u (show v.mat u fun x => matC (w :: r) q fun y => K (x, y) from h)
    obtain ⟨y, h3, h4⟩ := matC_spec (w :: r) q h1
    exact ⟨(x, y), h3, h2, h4⟩
  | [], _ :: _, K, h => h.elim
  | [v], [], K, h => h.elim
  | [v], _ :: _ :: _, K, h => h.elim
  | v :: w :: r, [], K, h => h.elim

theorem Slot.mat_spec (s u : Slot) {K : s.sh.Val → Prop} (h : s.mat u K) : ∃ x, K x ∧ SWk (s.mk' x) u := by
  cases s with
  | e v =>
    cases v with
    | agg cs =>
      cases u with
      | n _ => exact False.elim h
      | e z =>
        cases z with
        | agg ds =>
          obtain ⟨x, h1, h2⟩ := matC_spec cs ds h
          exact ⟨x, h1, .inr (.inr ⟨_, ds, rfl, rfl, h2⟩)⟩
        | _ => exact False.elim h
    | p s y =>
      cases u with
      | n _ => exact False.elim h
      | e z =>
        obtain ⟨x, h1, h2⟩ := EV.mat_spec (.p s y) z h
        exact ⟨x, h1, h2.imp id fun e => .inl (congrArg Slot.e e.symm)⟩
    | box i o =>
      cases u with
      | n _ => exact False.elim h
      | e z =>
        obtain ⟨x, h1, h2⟩ := EV.mat_spec (.box i o) z h
        exact ⟨x, h1, h2.imp id fun e => .inl (congrArg Slot.e e.symm)⟩
    | row i o =>
      cases u with
      | n _ => exact False.elim h
      | e z =>
        obtain ⟨x, h1, h2⟩ := EV.mat_spec (.row i o) z h
        exact ⟨x, h1, h2.imp id fun e => .inl (congrArg Slot.e e.symm)⟩
    | _ => exact ⟨(), h, .inl rfl⟩
  | n x =>
    cases u with
    | e _ => cases x <;> exact False.elim h
    | n z =>
      cases x with
      | box o cs =>
        cases z with
        | row _ _ _ _ _ => exact False.elim h
        | box o' ds =>
          cases o' with
          | own =>
            obtain ⟨x, h1, h2⟩ := matC_spec cs ds h
            exact ⟨x, h1, ds, rfl, h2⟩
          | _ => exact False.elim h
      | row o v el s xs =>
        cases z with
        | box _ _ => exact False.elim h
        | row o' v' el' s' ys =>
          cases o' with
          | own =>
            obtain ⟨hb, h⟩ := cond_true' (show cond (Nat.beq el' el && Nat.beq v' v) (castK (.slice s') (.slice s) ys K) False from h)
            simp only [Bool.and_eq_true] at hb
            obtain ⟨e, h⟩ := castK_spec h
            cases e
            have e1 := beq_eq hb.1
            have e2 := beq_eq hb.2
            subst e1; subst e2
            exact ⟨ys, h, rfl⟩
          | _ => exact False.elim h

theorem matL_spec : ∀ (l q : List Slot) {K : (shL l).Val → Prop}, matL l q K → ∃ x, K x ∧ SWkL (mkL l x) q
  | [], [], K, h => ⟨(), h, trivial⟩
  | [v], [u], K, h => by
    obtain ⟨x, h1, h2⟩ := Slot.mat_spec v u h
    exact ⟨x, h1, h2, trivial⟩
  | v :: w :: r, u :: q, K, h => by
    obtain ⟨x, h1, h2⟩ := Slot.mat_spec v u (show v.mat u fun x => matL (w :: r) q fun y => K (x, y) from h)
    obtain ⟨y, h3, h4⟩ := matL_spec (w :: r) q h1
    exact ⟨(x, y), h3, h2, h4⟩
  | [], _ :: _, K, h => h.elim
  | [v], [], K, h => h.elim
  | [v], _ :: _ :: _, K, h => h.elim
  | v :: w :: r, [], K, h => h.elim

theorem EV.self (v : EV) : v.mk' v.lf = .bot ∨ v.mk' v.lf = v := by
  cases v <;> first | exact .inl rfl | exact .inr rfl

theorem mkC_self : ∀ l : List EV, WkL (mkC l (lfC l)) l
  | [] => trivial
  | [v] => ⟨EV.self v, trivial⟩
  | v :: w :: r => ⟨EV.self v, mkC_self (w :: r)⟩

def Slot.ownN : Slot → Prop
  | .e _ => True
  | .n x => x.md = .own

theorem Slot.self (s : Slot) (h : s.ownN) : SWk (s.mk' s.lf) s := by
  cases s with
  | e v =>
    cases v with
    | agg cs => exact .inr (.inr ⟨_, cs, rfl, rfl, mkC_self cs⟩)
    | p s x => exact .inr (.inl rfl)
    | box i o => exact .inr (.inl rfl)
    | row i o => exact .inr (.inl rfl)
    | _ => exact .inl rfl
  | n x =>
    cases x with
    | box o cs => obtain rfl : o = .own := h; exact ⟨cs, rfl, mkC_self cs⟩
    | row o v el s xs => obtain rfl : o = .own := h; exact (rfl : Slot.n _ = _)

theorem mkL_self : ∀ l : List Slot, (∀ s ∈ l, s.ownN) → SWkL (mkL l (lfL l)) l
  | [], _ => trivial
  | [v], h => ⟨Slot.self v (h v (by simp)), trivial⟩
  | v :: w :: r, h => ⟨Slot.self v (h v (by simp)), mkL_self (w :: r) fun s hs => h s (List.mem_cons_of_mem _ hs)⟩

theorem mkL_get : ∀ (l : List Slot) (x : (shL l).Val) {j : Nat} {s : Slot}, l[j]? = some s → ∃ y, (mkL l x)[j]? = some (s.mk' y)
  | [], _, _, _, h => by simp at h
  | [v], x, 0, s, h => by simp at h; subst h; exact ⟨x, rfl⟩
  | [v], x, j + 1, s, h => by simp at h
  | v :: w :: r, x, 0, s, h => by simp at h; subst h; exact ⟨x.1, rfl⟩
  | v :: w :: r, x, j + 1, s, h => by
    obtain ⟨y, hy⟩ := mkL_get (w :: r) x.2 (j := j) (by simpa using h)
    exact ⟨y, by simpa [mkL] using hy⟩

theorem SWkL_get : ∀ {l q : List Slot} {j : Nat} {s : Slot}, SWkL l q → l[j]? = some s → ∃ u, q[j]? = some u ∧ SWk s u
  | [], _, _, _, _, h => by simp at h
  | v :: r, [], _, _, k, _ => k.elim
  | v :: r, u :: q, 0, s, k, h => by simp at h; subst h; exact ⟨u, rfl, k.1⟩
  | v :: r, u :: q, j + 1, s, k, h => by simpa using SWkL_get k.2 (by simpa using h)

theorem getE_spec : ∀ {lv : List Nat} {sl : List Slot} {i : Nat} {v : EV}, getE lv sl i = some v → ∃ j : Nat, lv[j]? = some i ∧ sl[j]? = some (.e v)
  | [], _, _, _, h => by simp [getE] at h
  | t :: r, [], _, _, h => by simp [getE] at h
  | t :: r, .e z :: q, i, v, h => by
    unfold getE at h
    cases hb : Nat.beq t i with
    | true => rw [hb] at h; simp at h; subst h; exact ⟨0, by rw [beq_eq hb]; rfl, rfl⟩
    | false => rw [hb] at h; obtain ⟨j, h1, h2⟩ := getE_spec (show getE r q i = some v from h); exact ⟨j + 1, by simpa using h1, by simpa using h2⟩
  | t :: r, .n z :: q, i, v, h => by
    obtain ⟨j, h1, h2⟩ := getE_spec (show getE r q i = some v from by simpa [getE] using h)
    exact ⟨j + 1, by simpa using h1, by simpa using h2⟩

theorem getN_spec : ∀ {hv : List Nat} {sl : List Slot} {i : Nat} {y : Ent}, getN hv sl i = some y → ∃ j : Nat, hv[j]? = some i ∧ sl[j]? = some (.n y)
  | [], _, _, _, h => by simp [getN] at h
  | t :: r, [], _, _, h => by simp [getN] at h
  | t :: r, .n z :: q, i, v, h => by
    unfold getN at h
    cases hb : Nat.beq t i with
    | true => rw [hb] at h; simp at h; subst h; exact ⟨0, by rw [beq_eq hb]; rfl, rfl⟩
    | false => rw [hb] at h; obtain ⟨j, h1, h2⟩ := getN_spec (show getN r q i = some v from h); exact ⟨j + 1, by simpa using h1, by simpa using h2⟩
  | t :: r, .e z :: q, i, v, h => by
    obtain ⟨j, h1, h2⟩ := getN_spec (show getN r q i = some v from by simpa [getN] using h)
    exact ⟨j + 1, by simpa using h1, by simpa using h2⟩

theorem getN_none : ∀ {hv : List Nat} {sl : List Slot} {i : Nat}, (∀ (j t : Nat), hv[j]? = some t → ∃ y, sl[j]? = some (.n y)) → getN hv sl i = none → i ∉ hv
  | [], _, _, _, _ => by simp
  | t :: r, [], i, h, _ => by obtain ⟨y, hy⟩ := h 0 t rfl; simp at hy
  | t :: r, .e z :: q, i, h, _ => by obtain ⟨y, hy⟩ := h 0 t rfl; simp at hy
  | t :: r, .n z :: q, i, h, k => by
    unfold getN at k
    cases hb : Nat.beq t i with
    | true => rw [hb] at k; simp at k
    | false =>
      rw [hb] at k
      have := getN_none (sl := q) (hv := r) (i := i) (fun j t' hj => by simpa using h (j + 1) t' (by simpa using hj)) k
      intro hm
      rcases List.mem_cons.1 hm with e | e
      · subst e; simp [Nat.beq_refl] at hb
      · exact this e

theorem laidIn_get (hv : List Nat) (sl : List Slot) : ∀ (n : Nat) (hp : List Ent) (i : Nat), (laidIn hv sl n hp)[i]? = (hp[i]?).map fun x => match getN hv sl (n + i) with | some y => y | none => x.lock
  | _, [], i => by simp [laidIn]
  | n, x :: r, 0 => by simp [laidIn]; rfl
  | n, x :: r, i + 1 => by
    simp only [laidIn, List.getElem?_cons_succ]
    rw [laidIn_get hv sl (n + 1) r i, show n + 1 + i = n + (i + 1) by omega]

theorem laidIn_length (hv : List Nat) (sl : List Slot) : ∀ (n : Nat) (hp : List Ent), (laidIn hv sl n hp).length = hp.length
  | _, [] => rfl
  | n, x :: r => by simp [laidIn, laidIn_length hv sl (n + 1) r]

theorem unlock_get : ∀ (A B : List Ent) (i : Nat), (unlock A B)[i]? = (B[i]?).map fun y => match A[i]? with | some x => cond (x.md.isOwn && y.md.isLock) (y.setMd .own) y | none => y
  | [], B, i => by cases B <;> simp [unlock]
  | x :: r, [], i => by simp [unlock]
  | x :: r, y :: q, 0 => by simp [unlock]
  | x :: r, y :: q, i + 1 => by
    simp only [unlock, List.getElem?_cons_succ]
    exact unlock_get r q i

theorem unlock_length : ∀ (A B : List Ent), (unlock A B).length = B.length
  | [], B => by cases B <;> simp [unlock]
  | x :: r, [] => by simp [unlock]
  | x :: r, y :: q => by simp [unlock, unlock_length r q]

theorem Ent.lock_eq (x : Ent) : ∃ md, x.lock = x.setMd md ∧ md ≠ .own ∧ (md = .froz ↔ x.md = .froz) := by
  unfold Ent.lock
  cases h : x.md with
  | own => exact ⟨.lock, rfl, (by intro q; cases q), ⟨(fun q => by cases q), (fun q => by cases q)⟩⟩
  | lock => exact ⟨.lock, by rw [← h, Ent.setMd_md, h]; rfl, (by intro q; cases q), ⟨(fun q => by cases q), (fun q => by cases q)⟩⟩
  | froz => exact ⟨.froz, by rw [← h, Ent.setMd_md, h]; rfl, (by intro q; cases q), ⟨fun _ => rfl, fun _ => rfl⟩⟩

theorem Ent.lock_of (x : Ent) (h : x.md ≠ .own) : x.lock = x := by
  unfold Ent.lock
  cases hm : x.md with
  | own => exact absurd hm h
  | lock => rfl
  | froz => rfl

theorem Ent.lock_ne (x : Ent) : x.lock.md ≠ .own := by
  obtain ⟨md, h1, h2, _⟩ := x.lock_eq
  rw [h1, Ent.md_setMd]; exact h2

theorem SatEnt_setMd {P : Program} {m : Mem} {n0 : Nat} {w : World} {JJ : EV → Value → Prop} {e : Ent} {k : Cn} {md : Md} (hmd : md = .froz ↔ e.md = .froz) (h : SatEnt P m n0 w JJ e k) : SatEnt P m n0 w JJ (e.setMd md) k := by
  cases e with
  | box o cs =>
    cases k with
    | row v => exact h.elim
    | box b =>
      obtain ⟨us, T, h1, h2, h3, h4, h5⟩ := h
      exact ⟨us, T, h1, h2, h3, fun q => h4 (hmd.1 q), fun q => h5 fun e => q (hmd.2 e)⟩
  | row o v el s xs =>
    cases k with
    | box b => exact h.elim
    | row cv =>
      obtain ⟨cs, h1, h2, h3, h4⟩ := h
      exact ⟨cs, h1, h2, fun q => h3 (hmd.1 q), fun q => h4 fun e => q (hmd.2 e)⟩

section
variable {P : Program} {m : Mem}

theorem WkL_rep {JJ : EV → Value → Prop} : ∀ {l q : List EV} {us : List Value}, WkL l q → RepL P m q JJ us → RepL P m l JJ us
  | [], [], _, _, h => h
  | [], _ :: _, _, k, _ => k.elim
  | _ :: _, [], _, k, _ => k.elim
  | v :: r, u :: q, us, k, h => by
    obtain ⟨x, xs, e1, e2, e3⟩ := RepL_cons.1 h
    refine RepL_cons.2 ⟨x, xs, e1, ?_, WkL_rep k.2 e3⟩
    rcases k.1 with e | e
    · rw [e]; trivial
    · rw [e]; exact e2

mutual
theorem Rep_words {m0 : Mem} {J0 J1 J2 : EV → Value → Prop} (hJ : ∀ e u, (∃ u0, J0 e u0) → J1 e u → J2 e u) : ∀ (v : EV) {u0 u : Value}, Rep P m0 v J0 u0 → Rep P m v J1 u → Rep P m v J2 u
  | .bot, _, _, _, _ => trivial
  | .p _ _, _, _, _, k => k
  | .raw _, _, _, _, k => k
  | .nil _, _, _, _, k => k
  | .ip _ _, _, _, _, k => k
  | .box _ _, _, _, k0, k => hJ _ _ ⟨_, k0⟩ k
  | .rp _ _ _ _, _, _, k0, k => hJ _ _ ⟨_, k0⟩ k
  | .row _ _, _, _, k0, k => hJ _ _ ⟨_, k0⟩ k
  | .agg cs, _, _, k0, k => by
    obtain ⟨us0, _, e0⟩ := k0
    obtain ⟨us, e1, e2⟩ := k
    exact ⟨us, e1, RepL_words hJ cs e0 e2⟩
  | .tup cs, _, _, k0, k => by
    obtain ⟨us0, _, e0⟩ := k0
    obtain ⟨us, e1, e2⟩ := k
    exact ⟨us, e1, RepL_words hJ cs e0 e2⟩
  | .clo _ a b, _, _, k0, k => by
    obtain ⟨_, _, _, p1, p2⟩ := k0
    obtain ⟨xs, ys, e1, e2, e3⟩ := k
    exact ⟨xs, ys, e1, RepL_words hJ a p1 e2, RepL_words hJ b p2 e3⟩
  | .ifc _ v, _, _, k0, k => by
    obtain ⟨_, _, p1⟩ := k0
    obtain ⟨x, e1, e2⟩ := k
    exact ⟨x, e1, Rep_words hJ v p1 e2⟩
theorem RepL_words {m0 : Mem} {J0 J1 J2 : EV → Value → Prop} (hJ : ∀ e u, (∃ u0, J0 e u0) → J1 e u → J2 e u) : ∀ (cs : List EV) {us0 us : List Value}, RepL P m0 cs J0 us0 → RepL P m cs J1 us → RepL P m cs J2 us
  | [], _, _, _, k => RepL_nil.2 (RepL_nil.1 k)
  | c :: r, _, _, k0, k => by
    obtain ⟨_, _, _, p1, p2⟩ := RepL_cons.1 k0
    obtain ⟨u, us', e1, e2, e3⟩ := RepL_cons.1 k
    exact RepL_cons.2 ⟨u, us', e1, Rep_words hJ c p1 e2, RepL_words hJ r p2 e3⟩
end
end
end Go.Proofs.YtjeoelajkncpcaaDoor.V
