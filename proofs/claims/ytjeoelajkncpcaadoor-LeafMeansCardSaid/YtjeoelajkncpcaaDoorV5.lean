/- The abstract heap against the model's memory; what is frozen; an abstract value read as one of a shape. No condition of its own. -/
import Derived.Test.YtjeoelajkncpcaaDoorV4
namespace Go.Proofs.YtjeoelajkncpcaaDoor.V
open Go Go.RowKit
set_option linter.unusedVariables false

/-- Where a block of the abstract heap lies: a variable's block; a row, by the slice value that owns it. -/
inductive Cn where
  | box (b : Nat)
  | row (v : Value)

def Cn.blk : Cn → Option Nat
  | .box b => some b
  | .row v => v.ownBlock

/-- What the abstract heap's words say of values. -/
def J (hp : List Ent) (bk : List Cn) : EV → Value → Prop
  | .box id off, u => ∃ md cs b, hp[id]? = some (.box md cs) ∧ bk[id]? = some (.box b) ∧ u = .pointer (some ⟨b, off, none⟩)
  | .row id ver, u => ∃ md v e s xs cv, hp[id]? = some (.row md v e s xs) ∧ bk[id]? = some (.row cv) ∧ ver ≤ v ∧ (ver = v → u = cv)
  | .rp id ver k off, u => ∃ md v e s xs cv, hp[id]? = some (.row md v e s xs) ∧ bk[id]? = some (.row cv) ∧ ver ≤ v ∧
      (ver = v → ∃ g n cap, cv = .slice (some ⟨g, 0, none⟩) n cap ∧ u = .pointer (some ⟨g, k * s.size + off, none⟩) ∧ k < xs.length)
  | _, _ => False

/-- A row's cells. -/
def RowRep (P : Program) (m : Mem) (s : Shape) : List s.Val → List Value → Prop
  | [], cs => cs = []
  | x :: xs, cs => ∃ c r, cs = c ++ r ∧ (Reps P s).C m x c ∧ RowRep P m s xs r

section
variable {P : Program}

theorem RowRep_mono {m m' : Mem} (h : m.le m') {s : Shape} : ∀ {xs : List s.Val} {cs : List Value}, RowRep P m s xs cs → RowRep P m' s xs cs
  | [], _, k => k
  | _ :: _, _, ⟨c, r, e, h1, h2⟩ => ⟨c, r, e, Reps.C_mono h h1, RowRep_mono h h2⟩

theorem RowRep_length {m : Mem} {s : Shape} : ∀ {xs : List s.Val} {cs : List Value}, RowRep P m s xs cs → cs.length = xs.length * s.size
  | [], cs, k => by rw [show cs = [] from k]; simp
  | x :: xs, _, ⟨c, r, e, h1, h2⟩ => by
    subst e
    rw [List.length_append, Reps.C_length s h1, RowRep_length h2, List.length_cons, Nat.succ_mul, Nat.add_comm]

theorem RowRep_append {m : Mem} {s : Shape} : ∀ {xs ys : List s.Val} {cs ds : List Value}, RowRep P m s xs cs → RowRep P m s ys ds → RowRep P m s (xs ++ ys) (cs ++ ds)
  | [], _, cs, _, h, k => by rw [show cs = [] from h]; exact k
  | x :: xs, ys, _, ds, ⟨c, r, e, h1, h2⟩, k => by subst e; exact ⟨c, r ++ ds, by simp, h1, RowRep_append h2 k⟩

theorem RowRep_get {m : Mem} {s : Shape} : ∀ {xs : List s.Val} {cs : List Value} {i : Nat} {x : s.Val}, RowRep P m s xs cs → xs[i]? = some x →
    ∃ c, (Reps P s).C m x c ∧ (cs.drop (i * s.size)).take s.size = c
  | [], _, _, _, _, h => by simp at h
  | x :: xs, _, 0, y, ⟨c, r, e, h1, h2⟩, h => by
    simp at h; subst h; subst e
    exact ⟨c, h1, by simp [← Reps.C_length s h1]⟩
  | x :: xs, _, i + 1, y, ⟨c, r, e, h1, h2⟩, h => by
    subst e
    simp at h
    obtain ⟨d, h3, h4⟩ := RowRep_get h2 h
    refine ⟨d, h3, ?_⟩
    rw [show (i + 1) * s.size = c.length + i * s.size by rw [Nat.succ_mul, Reps.C_length s h1]; omega, List.drop_length_add_append]
    exact h4

theorem RowRep_set {m : Mem} {s : Shape} : ∀ {xs : List s.Val} {cs : List Value} {i : Nat} {y : s.Val} {d : List Value}, RowRep P m s xs cs → i < xs.length → (Reps P s).C m y d →
    RowRep P m s (xs.set i y) (cs.take (i * s.size) ++ d ++ cs.drop (i * s.size + s.size))
  | [], _, _, _, _, _, h, _ => by simp at h
  | x :: xs, _, 0, y, d, ⟨c, r, e, h1, h2⟩, h, k => by
    subst e
    refine ⟨d, r, ?_, k, h2⟩
    simp [← Reps.C_length s h1]
  | x :: xs, _, i + 1, y, d, ⟨c, r, e, h1, h2⟩, h, k => by
    subst e
    refine ⟨c, r.take (i * s.size) ++ d ++ r.drop (i * s.size + s.size), ?_, h1, RowRep_set h2 (by simpa using h) k⟩
    have hl := Reps.C_length s h1
    rw [show (i + 1) * s.size = c.length + i * s.size by rw [Nat.succ_mul]; omega, List.take_length_add_append, Nat.add_assoc, List.drop_length_add_append]
    simp

theorem RowRep_take {m : Mem} {s : Shape} : ∀ {xs : List s.Val} {cs : List Value} (n : Nat), RowRep P m s xs cs → RowRep P m s (xs.take n) (cs.take (n * s.size))
  | _, _, 0, _ => by simp [RowRep]
  | [], cs, n + 1, h => by rw [show cs = [] from h]; simp [RowRep]
  | x :: xs, _, n + 1, ⟨c, r, e, h1, h2⟩ => by
    subst e
    refine ⟨c, r.take (n * s.size), ?_, h1, RowRep_take n h2⟩
    rw [Nat.succ_mul, show n * s.size + s.size = c.length + n * s.size by rw [Reps.C_length s h1]; omega, List.take_length_add_append]

/-- A row that lies in memory that nobody writes is a slice's value. -/
theorem slice_of_row {m : Mem} {s : Shape} {xs : List s.Val} {cs : List Value} {b o cap : Nat} (h : RowRep P m s xs cs) (hm : ∀ j u, cs[j]? = some u → m b (o + j) = some u) :
    (Reps P (.slice s)).V m xs (.slice (some ⟨b, o, none⟩) xs.length cap) := by
  refine ⟨_, cap, rfl, .inr ⟨b, o, rfl, fun i x hx => ?_⟩⟩
  obtain ⟨c, h1, h2⟩ := RowRep_get h hx
  refine ⟨c, h1, fun j u hj => ?_⟩
  rw [← h2, List.getElem?_take] at hj
  split at hj
  · rw [List.getElem?_drop] at hj
    rw [Nat.add_assoc]
    exact hm _ _ hj
  · simp at hj

theorem row_of_slice {m : Mem} {s : Shape} {b : Nat} : ∀ {xs : List s.Val} {o : Nat}, (∀ i x, xs[i]? = some x → ∃ us, (Reps P s).C m x us ∧ ∀ j u, us[j]? = some u → m b (o + i * s.size + j) = some u) →
    ∃ cs, RowRep P m s xs cs ∧ ∀ j u, cs[j]? = some u → m b (o + j) = some u
  | [], o, _ => ⟨[], rfl, fun j u h => by simp at h⟩
  | x :: xs, o, h => by
    obtain ⟨c, h1, h2⟩ := h 0 x rfl
    obtain ⟨r, h3, h4⟩ := row_of_slice (xs := xs) (o := o + s.size) (fun i y hy => by
      obtain ⟨us, k1, k2⟩ := h (i + 1) y (by simpa using hy)
      refine ⟨us, k1, fun j u hj => ?_⟩
      have := k2 j u hj
      rwa [Nat.succ_mul, show o + (i * s.size + s.size) + j = o + s.size + i * s.size + j by omega] at this)
    have hl := Reps.C_length s h1
    refine ⟨c ++ r, ⟨c, r, rfl, h1, h3⟩, fun j u hj => ?_⟩
    rw [List.getElem?_append] at hj
    split at hj
    · have := h2 j u hj
      rwa [Nat.zero_mul, Nat.add_zero] at this
    · have := h4 _ _ hj
      rwa [show o + s.size + (j - c.length) = o + j by omega] at this

/-- A block of the abstract heap, as it lies in memory. -/
def SatEnt (P : Program) (m : Mem) (n0 : Nat) (w : World) (JJ : EV → Value → Prop) : Ent → Cn → Prop
  | .box md cs, .box b => ∃ us T, w.heap[b]? = some (.cells us T (0, 0)) ∧ RepL P m cs JJ us.toList ∧ n0 ≤ b ∧
      (md = .froz → ∀ j u, us.toList[j]? = some u → m b j = some u) ∧ (md ≠ .froz → ∀ o, m b o = none)
  | .row md _ e s xs, .row cv => ∃ cs, RowRep P m s xs cs ∧ w.ownsRow n0 e s.size cv xs.length cs ∧
      (md = .froz → ∀ g, cv.ownBlock = some g → ∀ j u, cs[j]? = some u → m g j = some u) ∧ (md ≠ .froz → ∀ g, cv.ownBlock = some g → ∀ o, m g o = none)
  | _, _ => False

/-- The blocks of a set, as memory that nobody writes. -/
def FrzOK (P : Program) (m m' : Mem) (hp : List Ent) (bk : List Cn) (F : Nat → Prop) : Prop :=
  ∀ i, F i → (∃ md cs b us, hp[i]? = some (.box md cs) ∧ bk[i]? = some (.box b) ∧ RepL P m cs (J hp bk) us ∧ (∀ j u, us[j]? = some u → m' b j = some u) ∧ ∀ j ∈ EV.idsL cs, F j) ∨
    (∃ md v e s xs cv cs, hp[i]? = some (.row md v e s xs) ∧ bk[i]? = some (.row cv) ∧ RowRep P m s xs cs ∧
      ((cv = .slice none 0 0 ∧ xs = []) ∨ ∃ g cap, cv = .slice (some ⟨g, 0, none⟩) xs.length cap ∧ ∀ j u, cs[j]? = some u → m' g j = some u))

variable {m m' : Mem} {hp : List Ent} {bk : List Cn} {F : Nat → Prop}

/-- A row that is frozen, as a slice's value. -/
theorem FrzOK.row (hF : FrzOK P m m' hp bk F) (hm : m.le m') {id ver v : Nat} {md : Md} {e : TypeId} {s : Shape} {xs : List s.Val} {u : Value} (hi : F id) (he : hp[id]? = some (.row md v e s xs)) (hv : ver = v)
    (hJ : J hp bk (.row id ver) u) : (Reps P (.slice s)).V m' xs u := by
  obtain ⟨md', v', e', s', xs', cv, h1, h2, h3, h4⟩ := hJ
  rw [he] at h1
  cases h1
  rcases hF id hi with ⟨_, _, _, _, k, _⟩ | ⟨md2, v2, e2, s2, xs2, cv2, cs, k1, k2, k3, k4⟩
  · rw [he] at k; cases k
  · rw [he] at k1; cases k1
    rw [h2] at k2; cases k2
    have hu := h4 hv
    subst hu
    rcases k4 with ⟨rfl, hx⟩ | ⟨g, cap, rfl, hg⟩
    · subst hx
      exact ⟨none, 0, rfl, .inl rfl⟩
    · exact slice_of_row (RowRep_mono hm k3) (fun j u hj => by rw [Nat.zero_add]; exact hg j u hj)

mutual
theorem sub_rep {JJ : EV → Value → Prop} {rowf boxf : Nat → Nat → EV} (hm : m.le m')
    (hr : ∀ id ver u, F id → J hp bk (.row id ver) u → Rep P m' (rowf id ver) JJ u) (hb : ∀ id off u, F id → J hp bk (.box id off) u → Rep P m' (boxf id off) JJ u) :
    ∀ (v : EV) {u : Value}, Rep P m v (J hp bk) u → (∀ i ∈ v.ids, F i) → Rep P m' (v.sub rowf boxf) JJ u
  | .bot, _, _, _ => trivial
  | .p s x, _, k, _ => Reps.V_mono hm k
  | .raw _, _, k, _ => k
  | .nil s, u, k, _ => by
    show (Reps P (.slice s)).V m' [] u
    rw [show u = .slice none 0 0 from k]
    exact ⟨none, 0, rfl, .inl rfl⟩
  | .ip cs off, _, k, _ => Rep_mono hm (.ip cs off) (fun _ _ q => by cases q) (by obtain ⟨b, o, us, h⟩ := k; exact ⟨b, o, us, h⟩ : Rep P m (.ip cs off) (fun _ _ => False) _)
  | .box id off, _, k, h => hb _ _ _ (h id (by simp [EV.ids])) k
  | .rp _ _ _ _, _, _, _ => trivial
  | .row id ver, _, k, h => hr _ _ _ (h id (by simp [EV.ids])) k
  | .agg cs, _, k, h => by obtain ⟨us, e1, e2⟩ := k; exact ⟨us, e1, subL_rep hm hr hb cs e2 h⟩
  | .tup cs, _, k, h => by obtain ⟨us, e1, e2⟩ := k; exact ⟨us, e1, subL_rep hm hr hb cs e2 h⟩
  | .clo _ a b, _, k, h => by
    obtain ⟨xs, ys, e1, e2, e3⟩ := k
    exact ⟨xs, ys, e1, subL_rep hm hr hb a e2 fun i hi => h i (by simp [EV.ids, hi]), subL_rep hm hr hb b e3 fun i hi => h i (by simp [EV.ids, hi])⟩
  | .ifc _ v, _, k, h => by obtain ⟨x, e1, e2⟩ := k; exact ⟨x, e1, sub_rep hm hr hb v e2 h⟩
theorem subL_rep {JJ : EV → Value → Prop} {rowf boxf : Nat → Nat → EV} (hm : m.le m')
    (hr : ∀ id ver u, F id → J hp bk (.row id ver) u → Rep P m' (rowf id ver) JJ u) (hb : ∀ id off u, F id → J hp bk (.box id off) u → Rep P m' (boxf id off) JJ u) :
    ∀ (cs : List EV) {us : List Value}, RepL P m cs (J hp bk) us → (∀ i ∈ EV.idsL cs, F i) → RepL P m' (EV.subL rowf boxf cs) JJ us
  | [], _, k, _ => RepL_nil.2 (RepL_nil.1 k)
  | c :: r, _, k, h => by
    obtain ⟨u, us', e1, e2, e3⟩ := RepL_cons.1 k
    exact RepL_cons.2 ⟨u, us', e1, sub_rep hm hr hb c e2 fun i hi => h i (by simp [EV.idsL, hi]), subL_rep hm hr hb r e3 fun i hi => h i (by simp [EV.idsL, hi])⟩
end

theorem map_frz_rep {n : Nat} (hk : ∀ v u, Rep P m v (J hp bk) u → (∀ i ∈ v.ids, F i) → Rep P m' (frz hp n v) pureJ u) : ∀ {cs : List EV} {us : List Value}, RepL P m cs (J hp bk) us → (∀ i ∈ EV.idsL cs, F i) → RepL P m' (cs.map (frz hp n)) pureJ us
  | [], _, k, _ => RepL_nil.2 (RepL_nil.1 k)
  | c :: r, _, k, h => by
    obtain ⟨u, us', e1, e2, e3⟩ := RepL_cons.1 k
    exact RepL_cons.2 ⟨u, us', e1, hk _ _ e2 fun i hi => h i (by simp [EV.idsL, hi]), map_frz_rep hk e3 fun i hi => h i (by simp [EV.idsL, hi])⟩

/-- What is frozen represents what it did. -/
theorem frz_rep (hF : FrzOK P m m' hp bk F) (hm : m.le m') : ∀ (n : Nat) (v : EV) {u : Value}, Rep P m v (J hp bk) u → (∀ i ∈ v.ids, F i) → Rep P m' (frz hp n v) pureJ u
  | 0, v, _, k, h => sub_rep (rowf := fun _ _ => .bot) (boxf := fun _ _ => .bot) hm (fun _ _ _ _ _ => (trivial : Rep P m' .bot pureJ _)) (fun _ _ _ _ _ => (trivial : Rep P m' .bot pureJ _)) v k h
  | n + 1, v, _, k, h => by
    refine sub_rep hm ?_ ?_ v k h
    · intro id ver u hi hJ
      have hJ' := hJ
      obtain ⟨md, v', e, s, xs, cv, h1, h2, h3, h4⟩ := hJ
      simp only [h1]
      by_cases hv : ver = v'
      · subst hv
        simp only [Nat.beq_refl, cond_true]
        exact hF.row hm hi h1 rfl hJ'
      · have : Nat.beq v' ver = false := by
          cases hb : Nat.beq v' ver
          · rfl
          · exact absurd (Nat.eq_of_beq_eq_true hb).symm hv
        simp only [this, cond_false]
        trivial
    · intro id off u hi hJ
      obtain ⟨md, cs, b, h1, h2, h3⟩ := hJ
      simp only [h1]
      rcases hF id hi with ⟨md2, cs2, b2, us, k1, k2, k3, k4, k5⟩ | ⟨_, _, _, _, _, _, _, k, _⟩
      · rw [h1] at k1; cases k1
        rw [h2] at k2; cases k2
        exact ⟨b, 0, us, by rw [h3, Nat.zero_add], map_frz_rep (fun v u => frz_rep hF hm n v) k3 k5, fun j v hj => by rw [Nat.zero_add]; exact k4 j v hj⟩
      · rw [h1] at k; cases k
end
end Go.Proofs.YtjeoelajkncpcaaDoor.V
