/- Memory made and written: what the condition says of it. No condition of its own. -/
import Derived.Test.YtjeoelajkncpcaaDoorV12
import Derived.Laws.CopyRow
namespace Go.Proofs.YtjeoelajkncpcaaDoor.V
open Go Go.RowKit
set_option linter.unusedVariables false
set_option linter.unusedSimpArgs false

section
variable {c : Cfg} {m0 : Mem} {w0 : World} {fx : Fx} {m : Mem} {bk : List Cn} {st : St} {a : Act} {w : World}

/-- Behind an operation: a value, a heap, of which K is so. -/
def Res (c : Cfg) (m0 : Mem) (w0 : World) (fx : Fx) (st : St) (a : Act) (K : EV → List Ent → Prop) (u : Value) (w' : World) : Prop :=
  ∃ e hp m bk, K e hp ∧ Sat c m0 w0 fx m bk { st with hp := hp } a w' ∧ Rep c.P m e (J hp bk) u

/-- What was there is as it was. -/
def Kept (w w' : World) : Prop := w.heap.size ≤ w'.heap.size ∧ ∀ b, b < w.heap.size → w'.heap[b]? = w.heap[b]?

theorem Kept.refl (w : World) : Kept w w := ⟨Nat.le_refl _, fun _ _ => rfl⟩
theorem Kept.trans {w w' w'' : World} (h : Kept w w') (k : Kept w' w'') : Kept w w'' := ⟨Nat.le_trans h.1 k.1, fun b hb => (k.2 b (by have := h.1; omega)).trans (h.2 b hb)⟩
theorem Kept.of_below {w w' : World} (h : Below w.heap.size w w') : Kept w w' := ⟨h.size, fun b hb => h.block b hb⟩
theorem Kept.of_alloc (w : World) (x : Obj) : Kept w (w.alloc x) := ⟨((Below.refl 0 w).alloc (Nat.zero_le _) x).size, fun b hb => heap_alloc_old w _ b hb⟩

def ResK (c : Cfg) (m0 : Mem) (w0 : World) (fx : Fx) (st : St) (a : Act) (w : World) (K : EV → List Ent → Prop) (u : Value) (w' : World) : Prop := Res c m0 w0 fx st a K u w' ∧ Kept w w'

theorem zeroC_length (s : Shape) : s.zeroC.length = s.size := by
  induction s <;> simp_all [Shape.zeroC, Shape.size]

/-- A shape's value is its cells. -/
theorem V_cells {P : Program} (s : Shape) (hs : s.size ≠ 0) {m : Mem} {x : s.Val} {u : Value} (h : (Reps P s).V m x u) : (Reps P s).C m x u.cells.toList := by
  cases s with
  | bool => rw [show u = .bool x from h]; exact ⟨_, rfl, rfl⟩
  | int k => rw [show u = .int k x from h]; exact ⟨_, rfl, rfl⟩
  | slice s => have h' := h; obtain ⟨b, q, e, _⟩ := h'; subst e; exact ⟨_, rfl, h⟩
  | st f => obtain ⟨cs, e, h⟩ := h; subst e; exact h
  | unit => exact h.elim
  | pair p q => exact h.elim
  | tup f => exact absurd rfl hs
  | func i o => have h' := h; rcases h' with ⟨e, _⟩ | ⟨f, p, q, e, _⟩ <;> subst e <;> exact ⟨_, rfl, h⟩
  | iface al =>
    cases x with
    | none => rw [show u = .nilIface from h]; exact ⟨_, rfl, rfl⟩
    | some y => have h' := h; obtain ⟨t, q, e, _⟩ := h'; subst e; exact ⟨_, rfl, h⟩
  | one t s => exact h.elim
  | alt t s r => exact h.elim

/-- Cells of a shape's values are one cell each. -/
theorem C_one {P : Program} (s : Shape) : ∀ {m : Mem} {x : s.Val} {us : List Value}, (Reps P s).C m x us → ∀ u ∈ us, u.oneCell' = true := by
  induction s with
  | bool => rintro m x us ⟨u, rfl, h⟩ v hv; simp at hv; subst hv; rw [show v = .bool x from h]; rfl
  | int k => rintro m x us ⟨u, rfl, h⟩ v hv; simp at hv; subst hv; rw [show v = .int k x from h]; rfl
  | slice s _ => rintro m x us ⟨u, rfl, b, q, e, _⟩ v hv; simp at hv; subst hv; rw [e]; rfl
  | st f ih => intro m x us h; exact ih h
  | unit => intro m x us h v hv; rw [show us = [] from h] at hv; cases hv
  | pair p q ihp ihq =>
    rintro m x us ⟨c, d, rfl, h1, h2⟩ v hv
    rcases List.mem_append.1 hv with h | h
    · exact ihp h1 v h
    · exact ihq h2 v h
  | tup f _ => intro m x us h; exact h.elim
  | func i o _ _ => rintro m x us ⟨u, rfl, h⟩ v hv; simp at hv; subst hv; rcases h with ⟨e, _⟩ | ⟨f, p, q, e, _⟩ <;> rw [e] <;> rfl
  | iface al _ =>
    rintro m x us ⟨u, rfl, h⟩ v hv
    simp at hv; subst hv
    cases x with
    | none => rw [show v = .nilIface from h]; rfl
    | some y => obtain ⟨t, q, e, _⟩ := h; rw [e]; rfl
  | one t s _ => intro m x us h; exact h.elim
  | alt t s r _ _ => intro m x us h; exact h.elim

theorem RowRep_one {P : Program} {m : Mem} {s : Shape} : ∀ {xs : List s.Val} {cs : List Value}, RowRep P m s xs cs → ∀ u ∈ cs, u.oneCell' = true
  | [], cs, h, u, hu => by rw [show cs = [] from h] at hu; cases hu
  | x :: xs, _, ⟨c, r, e, h1, h2⟩, u, hu => by
    subst e
    rcases List.mem_append.1 hu with h | h
    · exact C_one s h1 u h
    · exact RowRep_one h2 u h

/-- A slice's cells, as they lie in memory now. -/
theorem slK_cells (S : Sat c m0 w0 fx m bk st a w) {v : EV} {u : Value} {K : (s : Shape) → List s.Val → Prop} (h : Rep c.P m v (J st.hp bk) u) (k : slK st v K) :
    ∃ s xs base cap cs, K s xs ∧ u = .slice base xs.length cap ∧ RowRep c.P m s xs cs ∧ (xs = [] ∨ ∃ ad, base = some ad ∧ ∀ j v, cs[j]? = some v → w.cell? (ad.add j) = some v) := by
  unfold slK at k
  split at k
  · rename_i s xs
    obtain ⟨base, cap, hu, hx⟩ := h
    rcases hx with hx | ⟨b, o, hb, hx⟩
    · subst hx; exact ⟨s, [], base, cap, [], k, hu, rfl, .inl rfl⟩
    · obtain ⟨cs, r1, r2⟩ := row_of_slice hx
      exact ⟨s, xs, base, cap, cs, k, hu, r1, .inr ⟨_, hb, fun j v hj => by rw [add_none]; exact S.hold _ _ _ (r2 j v hj)⟩⟩
  · rename_i s
    exact ⟨s, [], none, 0, [], k, h, rfl, .inl rfl⟩
  · rename_i id ver
    split at k
    · rename_i md v e s xs he
      obtain ⟨hb, k2⟩ := cond_true' k
      obtain ⟨_, cs, h1, ho⟩ := S.rowVal he (beq_eq hb) h
      rcases ho.2 with ⟨q1, q2⟩ | ⟨g, cap, cur, e1, e2, e3, e4, e5, e6, e7⟩
      · have hx := List.eq_nil_of_length_eq_zero q2
        subst hx
        exact ⟨s, [], none, 0, cs, k2, q1, h1, .inl rfl⟩
      · refine ⟨s, xs, _, cap, cs, k2, e1, h1, .inr ⟨_, rfl, fun j v hj => ?_⟩⟩
        rw [add_none, Nat.zero_add, cell_get e3]
        rw [← e7, List.getElem?_take] at hj
        split at hj
        · exact hj
        · cases hj
    · exact k.elim
  · exact k.elim

theorem Below.of_same {n : Nat} {w0 w w' : World} (h : Below n w0 w) (ho : w'.os = w.os) (ht : w'.tape = w.tape) (hp : w'.output = w.output) (hs : w.heap.size ≤ w'.heap.size) (hb : ∀ k, k < n → w'.heap[k]? = w.heap[k]?) : Below n w0 w' :=
  h.trans ⟨ho, ht, hp, hs, hb⟩

/-- A new variable. -/
theorem new_box (S : Sat c m0 w0 fx m bk st a w) (T : TypeId) (us : Array Value) (cs : List EV) (h : RepL c.P m cs (J st.hp bk) us.toList) {K : EV → List Ent → Prop} (k : K (.box st.hp.length 0) (st.hp ++ [.box .own cs])) :
    ResK c m0 w0 fx st a w K (.pointer (some ⟨w.heap.size, 0, none⟩)) (w.alloc (.cells us T)) := by
  refine ⟨?_, Kept.of_alloc _ _⟩
  have hsz := S.n0le
  have hJ : ∀ e u, J st.hp bk e u → J (st.hp ++ [Ent.box .own cs]) (bk ++ [Cn.box w.heap.size]) e u := fun e u h => J_append _ _ _ _ _ _ S.len h
  refine ⟨_, _, m, bk ++ [.box w.heap.size], k, S.push (S.below.alloc (by omega) _) (fun b hb => heap_alloc_old w _ b hb) (fun b hb => by cases hb; exact Nat.le_refl _) ?_, ?_⟩
  · refine ⟨us, T, heap_alloc_new w _, RepL_mono (Mem.le_refl m) cs hJ h, hsz, (fun q => by cases q), fun _ o => ?_⟩
    cases hq : m w.heap.size o with
    | none => rfl
    | some v => exact absurd (S.mem_lt hq) (by omega)
  · exact ⟨.own, cs, w.heap.size, by rw [List.getElem?_concat_length], by rw [← S.len, List.getElem?_concat_length], rfl⟩

/-- A new row, empty. -/
theorem new_row (S : Sat c m0 w0 fx m bk st a w) (e : TypeId) (s : Shape) {w' : World} {cv : Value} {xs : List s.Val} {cs : List Value} (hb : Below fx.n0 w0 w') (hsame : ∀ b, b < w.heap.size → w'.heap[b]? = w.heap[b]?) (hr : RowRep c.P m s xs cs) (ho : w'.ownsRow fx.n0 e s.size cv xs.length cs)
    (hnew : ∀ b, cv.ownBlock = some b → w.heap.size ≤ b) {K : EV → List Ent → Prop} (k : K (.row st.hp.length 0) (st.hp ++ [.row .own 0 e s xs])) (hsz : w.heap.size ≤ w'.heap.size) : ResK c m0 w0 fx st a w K cv w' := by
  refine ⟨?_, hsz, hsame⟩
  refine ⟨_, _, m, bk ++ [.row cv], k, S.push (k := .row cv) hb hsame hnew ?_, ?_⟩
  · refine ⟨cs, hr, ho, (fun q => by cases q), fun _ g hg o => ?_⟩
    cases hq : m g o with
    | none => rfl
    | some v => exact absurd (S.mem_lt hq) (by have := hnew g hg; omega)
  · exact ⟨.own, 0, e, s, xs, cv, by rw [List.getElem?_concat_length], by rw [← S.len, List.getElem?_concat_length], Nat.le_refl _, fun _ => rfl⟩

theorem J_set_box {hp : List Ent} {bk : List Cn} {id b : Nat} {md md' : Md} {cs cs' : List EV} (h0 : hp[id]? = some (.box md cs)) (hk : bk[id]? = some (.box b)) (e : EV) (u : Value) (h : J hp bk e u) : J (hp.set id (.box md' cs')) (bk.set id (.box b)) e u := by
  have hid := (List.getElem?_eq_some_iff.1 h0).1
  have hid' := (List.getElem?_eq_some_iff.1 hk).1
  cases e <;> try exact h
  case box i off =>
    obtain ⟨q, ds, b', h1, h2, h3⟩ := h
    by_cases hi : i = id
    · subst hi
      rw [h0] at h1; cases h1
      rw [hk] at h2; cases h2
      exact ⟨md', cs', b, List.getElem?_set_self hid, List.getElem?_set_self hid', h3⟩
    · exact ⟨q, ds, b', by rw [getElem?_set_ne' hi]; exact h1, by rw [getElem?_set_ne' hi]; exact h2, h3⟩
  case rp i ver kk off =>
    obtain ⟨q, v, el, s, xs, cv, h1, h2, h3⟩ := h
    have hi : i ≠ id := fun e' => by subst e'; rw [h0] at h1; cases h1
    exact ⟨q, v, el, s, xs, cv, by rw [getElem?_set_ne' hi]; exact h1, by rw [getElem?_set_ne' hi]; exact h2, h3⟩
  case row i ver =>
    obtain ⟨q, v, el, s, xs, cv, h1, h2, h3⟩ := h
    have hi : i ≠ id := fun e' => by subst e'; rw [h0] at h1; cases h1
    exact ⟨q, v, el, s, xs, cv, by rw [getElem?_set_ne' hi]; exact h1, by rw [getElem?_set_ne' hi]; exact h2, h3⟩

/-- A row is written in place: as long as it was, at the same version. -/
theorem J_set_row {hp : List Ent} {bk : List Cn} {id : Nat} {md md' : Md} {v : Nat} {el : TypeId} {s : Shape} {xs ys : List s.Val} {cv : Value} (h0 : hp[id]? = some (.row md v el s xs)) (hk : bk[id]? = some (.row cv)) (hl : ys.length = xs.length) (e : EV) (u : Value) (h : J hp bk e u) :
    J (hp.set id (.row md' v el s ys)) (bk.set id (.row cv)) e u := by
  have hid := (List.getElem?_eq_some_iff.1 h0).1
  have hid' := (List.getElem?_eq_some_iff.1 hk).1
  cases e <;> try exact h
  case box i off =>
    obtain ⟨q, ds, b', h1, h2, h3⟩ := h
    have hi : i ≠ id := fun e' => by subst e'; rw [h0] at h1; cases h1
    exact ⟨q, ds, b', by rw [getElem?_set_ne' hi]; exact h1, by rw [getElem?_set_ne' hi]; exact h2, h3⟩
  case rp i ver kk off =>
    obtain ⟨q, v', el', s', xs', cv', h1, h2, h3, h4⟩ := h
    by_cases hi : i = id
    · subst hi
      rw [h0] at h1; cases h1
      rw [hk] at h2; cases h2
      exact ⟨md', v, el, s, ys, cv, List.getElem?_set_self hid, List.getElem?_set_self hid', h3, fun q => by rw [hl]; exact h4 q⟩
    · exact ⟨q, v', el', s', xs', cv', by rw [getElem?_set_ne' hi]; exact h1, by rw [getElem?_set_ne' hi]; exact h2, h3, h4⟩
  case row i ver =>
    obtain ⟨q, v', el', s', xs', cv', h1, h2, h3, h4⟩ := h
    by_cases hi : i = id
    · subst hi
      rw [h0] at h1; cases h1
      rw [hk] at h2; cases h2
      exact ⟨md', v, el, s, ys, cv, List.getElem?_set_self hid, List.getElem?_set_self hid', h3, h4⟩
    · exact ⟨q, v', el', s', xs', cv', by rw [getElem?_set_ne' hi]; exact h1, by rw [getElem?_set_ne' hi]; exact h2, h3, h4⟩

/-- A row's next version: all that is known of the elder ones is forgotten. -/
theorem J_next_row {hp : List Ent} {bk : List Cn} {id : Nat} {md md' : Md} {v : Nat} {el el' : TypeId} {s s' : Shape} {xs : List s.Val} {ys : List s'.Val} {cv cv' : Value} (h0 : hp[id]? = some (.row md v el s xs)) (hk : bk[id]? = some (.row cv)) (e : EV) (u : Value) (h : J hp bk e u) :
    J (hp.set id (.row md' (v + 1) el' s' ys)) (bk.set id (.row cv')) e u := by
  have hid := (List.getElem?_eq_some_iff.1 h0).1
  have hid' := (List.getElem?_eq_some_iff.1 hk).1
  cases e <;> try exact h
  case box i off =>
    obtain ⟨q, ds, b', h1, h2, h3⟩ := h
    have hi : i ≠ id := fun e' => by subst e'; rw [h0] at h1; cases h1
    exact ⟨q, ds, b', by rw [getElem?_set_ne' hi]; exact h1, by rw [getElem?_set_ne' hi]; exact h2, h3⟩
  case rp i ver kk off =>
    obtain ⟨q, v', el1, s1, xs', cv1, h1, h2, h3, h4⟩ := h
    by_cases hi : i = id
    · subst hi
      rw [h0] at h1; cases h1
      exact ⟨md', v + 1, el', s', ys, cv', List.getElem?_set_self hid, List.getElem?_set_self hid', by omega, fun q => by omega⟩
    · exact ⟨q, v', el1, s1, xs', cv1, by rw [getElem?_set_ne' hi]; exact h1, by rw [getElem?_set_ne' hi]; exact h2, h3, h4⟩
  case row i ver =>
    obtain ⟨q, v', el1, s1, xs', cv1, h1, h2, h3, h4⟩ := h
    by_cases hi : i = id
    · subst hi
      rw [h0] at h1; cases h1
      exact ⟨md', v + 1, el', s', ys, cv', List.getElem?_set_self hid, List.getElem?_set_self hid', by omega, fun q => by omega⟩
    · exact ⟨q, v', el1, s1, xs', cv1, by rw [getElem?_set_ne' hi]; exact h1, by rw [getElem?_set_ne' hi]; exact h2, h3, h4⟩

theorem run_storeAt {P : Program} {t : TypeId} {w : World} {b o : Nat} {cur : Array Value} {T : TypeId} {u : Value} (hb : w.heap[b]? = some (.cells cur T (0, 0))) (hsz : P.cellsOf t = u.cells.size) (h0 : 1 ≤ u.cells.size) (hfit : o + u.cells.size ≤ cur.size) (h1 : ∀ v ∈ u.cells.toList, v.oneCell' = true) :
    (Instr.storeAt t (.pointer (some ⟨b, o, none⟩)) u).run P w = .ok () (w.setRow b (cur.toList.take o ++ u.cells.toList ++ cur.toList.drop (o + u.cells.toList.length)).toArray) := by
  obtain ⟨i, hi, hs⟩ := cellsOf_pos (P := P) (t := t) (by omega)
  have hne : ¬ (u.cells.size ≠ i.size) := by rw [hs, hsz]; simp
  have := run_storeCells_at P b o T u.cells.toList 0 cur w hb (by simpa using hfit) h1
  simp only [Nat.add_zero] at this
  simp [Instr.storeAt, Instr.sureAddr, storeVar, sizeOf, typeInfo, hi, hne, this]
end
end Go.Proofs.YtjeoelajkncpcaaDoor.V
