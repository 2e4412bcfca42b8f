/- Laws of what abstract values say of values. No condition of its own. -/
import Derived.Test.YtjeoelajkncpcaaDoorV3
namespace Go.Proofs.YtjeoelajkncpcaaDoor.V
open Go Go.RowKit

theorem Mem.le_refl (m : Mem) : m.le m := fun _ _ _ h => h
theorem Mem.le_trans {a b c : Mem} (h : a.le b) (k : b.le c) : a.le c := fun x o v q => k _ _ _ (h _ _ _ q)
theorem Mem.ext_refl (n : Nat) (m : Mem) : Mem.ext n m m := ⟨Mem.le_refl m, fun _ _ _ => rfl⟩
theorem Mem.ext_trans {n : Nat} {a b c : Mem} (h : Mem.ext n a b) (k : Mem.ext n b c) : Mem.ext n a c :=
  ⟨Mem.le_trans h.1 k.1, fun b o hb => (k.2 b o hb).trans (h.2 b o hb)⟩
theorem Mem.ext_mono {n n' : Nat} {a b : Mem} (h : Mem.ext n a b) (hn : n' ≤ n) : Mem.ext n' a b := ⟨h.1, fun b o hb => h.2 b o (Nat.lt_of_lt_of_le hb hn)⟩
theorem TabOK.mono {tab : Nat → Option (List Int)} {m m' : Mem} (h : TabOK tab m) (k : m.le m') : TabOK tab m' := fun g l hg i n hn => k _ _ _ (h g l hg i n hn)

section
variable {P : Program}

theorem PostOf.mono {V V' : Mem → Value → Prop} {m : Mem} {w : World} {e : Ending} {w' : World} (h : ∀ m v, V m v → V' m v) (k : PostOf V m w e w') : PostOf V' m w e w' :=
  let ⟨v, m', a, b, c, d, q⟩ := k
  ⟨v, m', a, b, c, d, h _ _ q⟩

/-- More memory, the same values. -/
theorem Reps.mono (s : Shape) : ∀ {m m' : Mem}, m.le m' → (∀ x us, (Reps P s).C m x us → (Reps P s).C m' x us) ∧ (∀ x us, (Reps P s).A m x us → (Reps P s).A m' x us) ∧
    (∀ x u, (Reps P s).V m x u → (Reps P s).V m' x u) ∧ (∀ t x u, (Reps P s).I m t x u → (Reps P s).I m' t x u) := by
  have scalar : ∀ {s : Shape} {q : Mem → s.Val → Value → Prop} {m m' : Mem}, (∀ x u, q m x u → q m' x u) →
      (∀ x us, (RepT.scalar q).C m x us → (RepT.scalar q).C m' x us) ∧ (∀ x us, (RepT.scalar q).A m x us → (RepT.scalar q).A m' x us) ∧
      (∀ x u, (RepT.scalar q).V m x u → (RepT.scalar q).V m' x u) ∧ (∀ t x u, (RepT.scalar q).I m t x u → (RepT.scalar q).I m' t x u) := by
    intro s q m m' h
    exact ⟨fun x us ⟨u, a, b⟩ => ⟨u, a, h _ _ b⟩, fun x us ⟨u, a, b⟩ => ⟨u, a, h _ _ b⟩, fun x u k => h _ _ k, fun _ _ _ k => k⟩
  induction s with
  | bool => intro m m' _; exact scalar fun _ _ k => k
  | int k => intro m m' _; exact scalar fun _ _ k => k
  | slice s ih =>
    intro m m' h
    refine scalar fun x u ⟨base, cap, hu, hx⟩ => ⟨base, cap, hu, ?_⟩
    rcases hx with hx | ⟨b, o, hb, hx⟩
    · exact .inl hx
    · refine .inr ⟨b, o, hb, fun i y hy => ?_⟩
      obtain ⟨us, h1, h2⟩ := hx i y hy
      exact ⟨us, (ih h).1 _ _ h1, fun j u hj => h _ _ _ (h2 j u hj)⟩
  | st f ih => intro m m' h; exact ⟨(ih h).1, fun x us ⟨cs, a, b⟩ => ⟨cs, a, (ih h).1 _ _ b⟩, fun x us ⟨cs, a, b⟩ => ⟨cs, a, (ih h).1 _ _ b⟩, fun _ _ _ k => k⟩
  | unit => intro m m' h; exact ⟨fun _ _ k => k, fun _ _ k => k, fun _ _ k => k, fun _ _ _ k => k⟩
  | pair a b iha ihb =>
    intro m m' h
    exact ⟨fun x us ⟨c, d, e, f, g⟩ => ⟨c, d, e, (iha h).1 _ _ f, (ihb h).1 _ _ g⟩, fun x us ⟨u, r, e, f, g⟩ => ⟨u, r, e, (iha h).2.2.1 _ _ f, (ihb h).2.1 _ _ g⟩, fun _ _ k => k, fun _ _ _ k => k⟩
  | tup f ih => intro m m' h; exact ⟨fun _ _ k => k, fun _ _ k => k, fun x u ⟨us, a, b⟩ => ⟨us, a, (ih h).2.1 _ _ b⟩, fun _ _ _ k => k⟩
  | func i o _ _ =>
    intro m m' h
    refine scalar fun g u hu => ?_
    rcases hu with hu | ⟨f, a, b, e1, e2, e3⟩
    · exact .inl hu
    · exact .inr ⟨f, a, b, e1, e2, fun m2 w x us r hm => e3 m2 w x us r (Mem.le_trans h hm)⟩
  | iface a ih =>
    intro m m' h
    refine scalar fun x u hu => ?_
    cases x with
    | none => exact hu
    | some y => obtain ⟨t, v, e1, e2⟩ := hu; exact ⟨t, v, e1, (ih h).2.2.2 _ _ _ e2⟩
  | one t s ih => intro m m' h; exact ⟨fun _ _ k => k, fun _ _ k => k, fun _ _ k => k, fun t x v ⟨e1, e2⟩ => ⟨e1, (ih h).2.2.1 _ _ e2⟩⟩
  | alt t s r ihs ihr =>
    intro m m' h
    refine ⟨fun _ _ k => k, fun _ _ k => k, fun _ _ k => k, fun t x v hx => ?_⟩
    cases x with
    | inl y => exact ⟨hx.1, (ihs h).2.2.1 _ _ hx.2⟩
    | inr y => exact (ihr h).2.2.2 _ _ _ hx

theorem Reps.C_mono {s : Shape} {m m' : Mem} (h : m.le m') {x : s.Val} {us : List Value} (k : (Reps P s).C m x us) : (Reps P s).C m' x us := (Reps.mono s h).1 _ _ k
theorem Reps.A_mono {s : Shape} {m m' : Mem} (h : m.le m') {x : s.Val} {us : List Value} (k : (Reps P s).A m x us) : (Reps P s).A m' x us := (Reps.mono s h).2.1 _ _ k
theorem Reps.V_mono {s : Shape} {m m' : Mem} (h : m.le m') {x : s.Val} {u : Value} (k : (Reps P s).V m x u) : (Reps P s).V m' x u := (Reps.mono s h).2.2.1 _ _ k

/-- How many cells. -/
theorem Reps.C_length (s : Shape) : ∀ {m : Mem} {x : s.Val} {us : List Value}, (Reps P s).C m x us → us.length = s.size := by
  induction s with
  | bool => rintro m x us ⟨u, rfl, _⟩; rfl
  | int k => rintro m x us ⟨u, rfl, _⟩; rfl
  | slice s _ => rintro m x us ⟨u, rfl, _⟩; rfl
  | st f ih => intro m x us h; exact ih h
  | unit => intro m x us h; rw [show us = [] from h]; rfl
  | pair a b iha ihb => rintro m x us ⟨c, d, rfl, h1, h2⟩; rw [List.length_append, iha h1, ihb h2]; rfl
  | tup f _ => intro m x us h; exact h.elim
  | func i o _ _ => rintro m x us ⟨u, rfl, _⟩; rfl
  | iface a _ => rintro m x us ⟨u, rfl, _⟩; rfl
  | one t s _ => intro m x us h; exact h.elim
  | alt t s r _ _ => intro m x us h; exact h.elim

/-! ### Lists of values -/

theorem RepL_cons {m : Mem} {c : EV} {r : List EV} {J : EV → Value → Prop} {us : List Value} : RepL P m (c :: r) J us ↔ ∃ u us', us = u :: us' ∧ Rep P m c J u ∧ RepL P m r J us' := by
  simp only [RepL]

theorem RepL_nil {m : Mem} {J : EV → Value → Prop} {us : List Value} : RepL P m [] J us ↔ us = [] := by simp only [RepL]

theorem RepL_length {m : Mem} {J : EV → Value → Prop} : ∀ {cs : List EV} {us : List Value}, RepL P m cs J us → us.length = cs.length
  | [], us, h => by rw [RepL_nil.1 h]; rfl
  | c :: r, us, h => by obtain ⟨u, us', rfl, _, h'⟩ := RepL_cons.1 h; simp [RepL_length h']

theorem RepL_append {m : Mem} {J : EV → Value → Prop} : ∀ {cs ds : List EV} {us vs : List Value}, RepL P m cs J us → RepL P m ds J vs → RepL P m (cs ++ ds) J (us ++ vs)
  | [], ds, us, vs, h, k => by rw [RepL_nil.1 h]; exact k
  | c :: r, ds, us, vs, h, k => by
    obtain ⟨u, us', rfl, h1, h2⟩ := RepL_cons.1 h
    exact RepL_cons.2 ⟨u, us' ++ vs, rfl, h1, RepL_append h2 k⟩

theorem RepL_get {m : Mem} {J : EV → Value → Prop} : ∀ {cs : List EV} {us : List Value} {i : Nat} {c : EV}, RepL P m cs J us → cs[i]? = some c → ∃ u, us[i]? = some u ∧ Rep P m c J u
  | [], _, _, _, _, h => by simp at h
  | c :: r, us, 0, d, h, k => by
    obtain ⟨u, us', rfl, h1, _⟩ := RepL_cons.1 h
    simp at k; subst k
    exact ⟨u, rfl, h1⟩
  | c :: r, us, i + 1, d, h, k => by
    obtain ⟨u, us', rfl, _, h2⟩ := RepL_cons.1 h
    simp at k
    obtain ⟨v, hv, hr⟩ := RepL_get h2 k
    exact ⟨v, by simpa using hv, hr⟩

theorem RepL_take {m : Mem} {J : EV → Value → Prop} : ∀ {cs : List EV} {us : List Value} (n : Nat), RepL P m cs J us → RepL P m (cs.take n) J (us.take n)
  | _, _, 0, _ => by simp [RepL_nil]
  | [], us, n + 1, h => by rw [RepL_nil.1 h]; simp [RepL_nil]
  | c :: r, us, n + 1, h => by
    obtain ⟨u, us', rfl, h1, h2⟩ := RepL_cons.1 h
    exact RepL_cons.2 ⟨u, us'.take n, rfl, h1, RepL_take n h2⟩

theorem RepL_drop {m : Mem} {J : EV → Value → Prop} : ∀ {cs : List EV} {us : List Value} (n : Nat), RepL P m cs J us → RepL P m (cs.drop n) J (us.drop n)
  | _, _, 0, h => h
  | [], us, n + 1, h => by rw [RepL_nil.1 h]; simp [RepL_nil]
  | c :: r, us, n + 1, h => by
    obtain ⟨u, us', rfl, h1, h2⟩ := RepL_cons.1 h
    exact RepL_drop n h2

theorem RepL_split {m : Mem} {J : EV → Value → Prop} : ∀ {cs ds : List EV} {us : List Value}, RepL P m (cs ++ ds) J us → ∃ a b, us = a ++ b ∧ RepL P m cs J a ∧ RepL P m ds J b
  | [], ds, us, h => ⟨[], us, rfl, RepL_nil.2 rfl, h⟩
  | c :: r, ds, us, h => by
    obtain ⟨u, us', rfl, h1, h2⟩ := RepL_cons.1 h
    obtain ⟨a, b, rfl, h3, h4⟩ := RepL_split h2
    exact ⟨u :: a, b, rfl, RepL_cons.2 ⟨u, a, rfl, h1, h3⟩, h4⟩

/- More memory, more known of the heap's words: the same values. -/
mutual
theorem Rep_mono {m m' : Mem} (h : m.le m') : ∀ (v : EV) {J J' : EV → Value → Prop} {u : Value}, (∀ e u, J e u → J' e u) → Rep P m v J u → Rep P m' v J' u
  | .bot, _, _, _, _, _ => trivial
  | .p s x, _, _, _, _, k => Reps.V_mono h k
  | .raw _, _, _, _, _, k => k
  | .nil _, _, _, _, _, k => k
  | .ip cs off, _, _, _, _, k => by
    obtain ⟨b, o, us, e1, e2, e3⟩ := k
    exact ⟨b, o, us, e1, RepL_mono h cs (fun _ _ q => q) e2, fun j v hj => h _ _ _ (e3 j v hj)⟩
  | .box _ _, _, _, _, hJ, k => hJ _ _ k
  | .rp _ _ _ _, _, _, _, hJ, k => hJ _ _ k
  | .row _ _, _, _, _, hJ, k => hJ _ _ k
  | .agg cs, _, _, _, hJ, k => by obtain ⟨us, e1, e2⟩ := k; exact ⟨us, e1, RepL_mono h cs hJ e2⟩
  | .tup cs, _, _, _, hJ, k => by obtain ⟨us, e1, e2⟩ := k; exact ⟨us, e1, RepL_mono h cs hJ e2⟩
  | .clo _ a b, _, _, _, hJ, k => by obtain ⟨xs, ys, e1, e2, e3⟩ := k; exact ⟨xs, ys, e1, RepL_mono h a hJ e2, RepL_mono h b hJ e3⟩
  | .ifc _ v, _, _, _, hJ, k => by obtain ⟨x, e1, e2⟩ := k; exact ⟨x, e1, Rep_mono h v hJ e2⟩
theorem RepL_mono {m m' : Mem} (h : m.le m') : ∀ (cs : List EV) {J J' : EV → Value → Prop} {us : List Value}, (∀ e u, J e u → J' e u) → RepL P m cs J us → RepL P m' cs J' us
  | [], _, _, _, _, k => RepL_nil.2 (RepL_nil.1 k)
  | c :: r, _, _, _, hJ, k => by
    obtain ⟨u, us', e1, e2, e3⟩ := RepL_cons.1 k
    exact RepL_cons.2 ⟨u, us', e1, Rep_mono h c hJ e2, RepL_mono h r hJ e3⟩
end

/-- A shape's cells represent what its values' own words say. -/
theorem RepL_cells (s : Shape) : ∀ {m : Mem} {x : s.Val} {us : List Value} (J : EV → Value → Prop), (Reps P s).C m x us → RepL P m (s.cellsE x) J us := by
  induction s with
  | bool => rintro m x us J ⟨u, rfl, h⟩; exact RepL_cons.2 ⟨u, [], rfl, h, RepL_nil.2 rfl⟩
  | int k => rintro m x us J ⟨u, rfl, h⟩; exact RepL_cons.2 ⟨u, [], rfl, h, RepL_nil.2 rfl⟩
  | slice s _ => rintro m x us J ⟨u, rfl, h⟩; exact RepL_cons.2 ⟨u, [], rfl, h, RepL_nil.2 rfl⟩
  | st f ih => intro m x us J h; exact ih J h
  | unit => intro m x us J h; exact RepL_nil.2 h
  | pair a b iha ihb => rintro m x us J ⟨c, d, rfl, h1, h2⟩; exact RepL_append (iha J h1) (ihb J h2)
  | tup f _ => intro m x us J h; exact h.elim
  | func i o _ _ => rintro m x us J ⟨u, rfl, h⟩; exact RepL_cons.2 ⟨u, [], rfl, h, RepL_nil.2 rfl⟩
  | iface a _ => rintro m x us J ⟨u, rfl, h⟩; exact RepL_cons.2 ⟨u, [], rfl, h, RepL_nil.2 rfl⟩
  | one t s _ => intro m x us J h; exact h.elim
  | alt t s r _ _ => intro m x us J h; exact h.elim

theorem Rep_enc0 (s : Shape) {m : Mem} {x : s.Val} {u : Value} (J : EV → Value → Prop) (h : (Reps P s).V m x u) : Rep P m (s.enc0 x) J u := by
  cases s <;> first
    | exact h
    | (obtain ⟨cs, h1, h2⟩ := h; exact ⟨cs, h1, RepL_cells _ J h2⟩)

theorem RepL_comps (s : Shape) : ∀ {m : Mem} {x : s.Val} {us : List Value} (J : EV → Value → Prop), (Reps P s).A m x us → RepL P m (s.compsE x) J us := by
  induction s with
  | bool => rintro m x us J ⟨u, rfl, h⟩; exact RepL_cons.2 ⟨u, [], rfl, h, RepL_nil.2 rfl⟩
  | int k => rintro m x us J ⟨u, rfl, h⟩; exact RepL_cons.2 ⟨u, [], rfl, h, RepL_nil.2 rfl⟩
  | slice s _ => rintro m x us J ⟨u, rfl, h⟩; exact RepL_cons.2 ⟨u, [], rfl, h, RepL_nil.2 rfl⟩
  | st f ih => rintro m x us J ⟨cs, rfl, h⟩; exact RepL_cons.2 ⟨_, [], rfl, ⟨cs, rfl, RepL_cells f J h⟩, RepL_nil.2 rfl⟩
  | unit => intro m x us J h; exact RepL_nil.2 h
  | pair a b iha ihb => rintro m x us J ⟨u, r, rfl, h1, h2⟩; exact RepL_cons.2 ⟨u, r, rfl, Rep_enc0 a J h1, ihb J h2⟩
  | tup f _ => intro m x us J h; exact h.elim
  | func i o _ _ => rintro m x us J ⟨u, rfl, h⟩; exact RepL_cons.2 ⟨u, [], rfl, h, RepL_nil.2 rfl⟩
  | iface a _ => rintro m x us J ⟨u, rfl, h⟩; exact RepL_cons.2 ⟨u, [], rfl, h, RepL_nil.2 rfl⟩
  | one t s _ => intro m x us J h; exact h.elim
  | alt t s r _ _ => intro m x us J h; exact h.elim

theorem Rep_enc (s : Shape) {m : Mem} {x : s.Val} {u : Value} (J : EV → Value → Prop) (h : (Reps P s).V m x u) : Rep P m (s.enc x) J u := by
  cases s <;> first
    | exact h
    | (obtain ⟨cs, h1, h2⟩ := h; exact ⟨cs, h1, RepL_cells _ J h2⟩)
    | (obtain ⟨us, h1, h2⟩ := h; exact ⟨us, h1, RepL_comps _ J h2⟩)
end
end Go.Proofs.YtjeoelajkncpcaaDoor.V
