/- How the state's meaning is kept: a temporary, a new block, a block written, blocks frozen, a call. No condition of its own. -/
import Derived.Test.YtjeoelajkncpcaaDoorV11
namespace Go.Proofs.YtjeoelajkncpcaaDoor.V
open Go Go.RowKit
set_option linter.unusedVariables false
set_option linter.unusedSimpArgs false

section
variable {c : Cfg} {m0 : Mem} {w0 : World} {fx : Fx} {m : Mem} {bk : List Cn} {st : St} {a : Act} {w : World}

def Reach (c : Cfg) (m0 : Mem) (w0 : World) (fx : Fx) (K : St → Prop) (a : Act) (w : World) : Prop := ∃ st m bk, K st ∧ Sat c m0 w0 fx m bk st a w

theorem SatEnt.mono {P : Program} {m m' : Mem} {n0 : Nat} {w w' : World} {JJ JJ' : EV → Value → Prop} {e : Ent} {k : Cn} (hm : m.le m') (hJ : ∀ e u, JJ e u → JJ' e u) (hb : ∀ b, k.blk = some b → w'.heap[b]? = w.heap[b]?)
    (hn : e.md ≠ .froz → ∀ b, k.blk = some b → (∀ o, m b o = none) → ∀ o, m' b o = none) (h : SatEnt P m n0 w JJ e k) : SatEnt P m' n0 w' JJ' e k := by
  cases e with
  | box md cs =>
    cases k with
    | box b =>
      obtain ⟨us, T, h1, h2, h3, h4, h5⟩ := h
      exact ⟨us, T, (hb b rfl).trans h1, RepL_mono hm cs hJ h2, h3, fun q j u hj => hm _ _ _ (h4 q j u hj), fun q => hn q b rfl (h5 q)⟩
    | row v => exact h
  | row md ver el s xs =>
    cases k with
    | box b => exact h
    | row cv =>
      obtain ⟨cs, h1, h2, h3, h4⟩ := h
      refine ⟨cs, RowRep_mono hm h1, ⟨h2.1, ?_⟩, fun q g hg j u hj => hm _ _ _ (h3 q g hg j u hj), fun q g hg => hn q g hg (h4 q g hg)⟩
      rcases h2.2 with q | ⟨g, cap, cur, e1, e2, e3, e4⟩
      · exact .inl q
      · exact .inr ⟨g, cap, cur, e1, e2, (hb g (by rw [e1]; rfl)).trans e3, e4⟩

theorem SatEnt.lt {P : Program} {m : Mem} {n0 : Nat} {w : World} {JJ : EV → Value → Prop} {e : Ent} {k : Cn} (h : SatEnt P m n0 w JJ e k) {b : Nat} (hb : k.blk = some b) : n0 ≤ b ∧ b < w.heap.size := by
  have lt : ∀ {x : Obj}, w.heap[b]? = some x → b < w.heap.size := fun h => by
    rcases Nat.lt_or_ge b w.heap.size with q | q
    · exact q
    · simp [Array.getElem?_eq_none q] at h
  cases e with
  | box md cs =>
    cases k with
    | box b' =>
      obtain ⟨us, T, h1, h2, h3, h4, h5⟩ := h
      cases hb
      exact ⟨h3, lt h1⟩
    | row v => exact h.elim
  | row md ver el s xs =>
    cases k with
    | box b => exact h.elim
    | row cv =>
      obtain ⟨cs, h1, h2, h3, h4⟩ := h
      rcases h2.2 with ⟨q, _⟩ | ⟨g, cap, cur, e1, e2, e3, e4⟩
      · rw [q] at hb; cases hb
      · rw [e1] at hb; cases hb
        exact ⟨e2, lt e3⟩

/-- A block of the abstract heap. -/
theorem Sat.ent (S : Sat c m0 w0 fx m bk st a w) {i : Nat} {k : Cn} (h : bk[i]? = some k) : ∃ e, st.hp[i]? = some e ∧ SatEnt c.P m fx.n0 w (J st.hp bk) e k := by
  have hi : i < bk.length := (List.getElem?_eq_some_iff.1 h).1
  have he : st.hp[i]? = some (st.hp[i]'(by rw [← S.len]; exact hi)) := List.getElem?_eq_getElem _
  obtain ⟨k', h1, h2⟩ := S.ents i _ he
  rw [h] at h1; cases h1
  exact ⟨_, he, h2⟩

theorem Sat.blk_lt (S : Sat c m0 w0 fx m bk st a w) {i b : Nat} (h : (bk[i]?).bind Cn.blk = some b) : fx.n0 ≤ b ∧ b < w.heap.size := by
  cases hk : bk[i]? with
  | none => rw [hk] at h; cases h
  | some k =>
    rw [hk] at h
    obtain ⟨e, _, he⟩ := S.ent hk
    exact he.lt h

/-- What is known of memory lies in blocks that are there. -/
theorem Sat.mem_lt (S : Sat c m0 w0 fx m bk st a w) {b o : Nat} {v : Value} (h : m b o = some v) : b < w.heap.size := World.block_lt_of_cell? w ⟨b, o, none⟩ (S.hold b o v h)

/-- A temporary. -/
theorem Sat.put (S : Sat c m0 w0 fx m bk st a w) {d : Option Nat} {v : EV} {u : Value} (hd : okDst fx.W d = true) (h : Rep c.P m v (J st.hp bk) u) : Sat c m0 w0 fx m bk (st.put d v) (a.put d u) w := by
  cases d with
  | none => exact S
  | some d =>
    have hW : d ∈ fx.W := by simpa [okDst] using hd
    have hlt : d < a.tmps.size := by rw [S.fix.1]; exact S.fix.2.2.1 d hW
    refine { S with env := fun i => ?_, fix := ⟨?_, fun i hi => ?_, S.fix.2.2.1, S.fix.2.2.2⟩ }
    · show Rep c.P m (cond (Nat.beq i d) v (st.env i)) (J st.hp bk) ((a.tmps.setIfInBounds d u).getD i undef)
      by_cases e : i = d
      · subst e
        simp only [Nat.beq_refl, cond_true]
        simpa [hlt] using h
      · have hb : Nat.beq i d = false := by
          cases q : Nat.beq i d
          · rfl
          · exact absurd (beq_eq q) e
        simp only [hb, cond_false]
        have : (a.tmps.setIfInBounds d u).getD i undef = a.tmps.getD i undef := by
          simp only [Array.getD_eq_getD_getElem?]
          rw [Array.getElem?_setIfInBounds_ne (Ne.symm e)]
        rw [this]
        exact S.env i
    · simp only [Act.put, Array.size_setIfInBounds]; exact S.fix.1
    · simp only [Act.put]
      rw [Array.getElem?_setIfInBounds_ne (fun e : d = i => hi (by rw [← e]; exact hW))]
      exact S.fix.2.1 i hi

/-- A draw. -/
theorem Sat.drew (S : Sat c m0 w0 fx m bk st a w) : Sat c m0 w0 fx m bk st a w.drew :=
  { S with hold := fun b o v h => S.hold b o v h, below := S.below.drew }

theorem J_append (hp : List Ent) (bk : List Cn) (x : Ent) (k : Cn) (e : EV) (u : Value) (hl : bk.length = hp.length) (h : J hp bk e u) : J (hp ++ [x]) (bk ++ [k]) e u := by
  have g1 : ∀ {i : Nat} {y : Ent}, hp[i]? = some y → (hp ++ [x])[i]? = some y := fun {i y} q => by rw [List.getElem?_append_left (List.getElem?_eq_some_iff.1 q).1]; exact q
  have g2 : ∀ {i : Nat} {y : Cn}, bk[i]? = some y → (bk ++ [k])[i]? = some y := fun {i y} q => by rw [List.getElem?_append_left (List.getElem?_eq_some_iff.1 q).1]; exact q
  cases e <;> try exact h
  case box id off => obtain ⟨md, cs, b, h1, h2, h3⟩ := h; exact ⟨md, cs, b, g1 h1, g2 h2, h3⟩
  case rp id ver kk off => obtain ⟨md, v, el, s, xs, cv, h1, h2, h3⟩ := h; exact ⟨md, v, el, s, xs, cv, g1 h1, g2 h2, h3⟩
  case row id ver => obtain ⟨md, v, el, s, xs, cv, h1, h2, h3⟩ := h; exact ⟨md, v, el, s, xs, cv, g1 h1, g2 h2, h3⟩

/-- A new block of the abstract heap. -/
theorem Sat.push (S : Sat c m0 w0 fx m bk st a w) {x : Ent} {k : Cn} {w' : World} (hb : Below fx.n0 w0 w') (hsame : ∀ b, b < w.heap.size → w'.heap[b]? = w.heap[b]?) (hnew : ∀ b, k.blk = some b → w.heap.size ≤ b)
    (hx : SatEnt c.P m fx.n0 w' (J (st.hp ++ [x]) (bk ++ [k])) x k) : Sat c m0 w0 fx m (bk ++ [k]) { st with hp := st.hp ++ [x] } a w' := by
  have hJ : ∀ e u, J st.hp bk e u → J (st.hp ++ [x]) (bk ++ [k]) e u := fun e u h => J_append _ _ _ _ _ _ S.len h
  refine { hold := fun b o v h => ?_, tab := S.tab, ext := S.ext, below := hb, len := by simp [S.len], ents := fun i e he => ?_, apart := fun i j b hi hj => ?_, env := fun i => Rep_mono (Mem.le_refl m) _ hJ (S.env i), defers := S.defers, gh := fun e u h => hJ e u (S.gh e u h), base := S.base, keep := fun b hb => (by
    obtain ⟨k1, k2, k3⟩ := S.keep b hb
    have hlt : b < w.heap.size := Nat.lt_of_lt_of_le k1 S.below.size
    refine ⟨k1, (hsame b hlt).trans k2, fun i hi => ?_⟩
    by_cases hl : i < bk.length
    · rw [List.getElem?_append_left hl] at hi; exact k3 i hi
    · cases hq : (bk ++ [k])[i]? with
      | none => rw [hq] at hi; cases hi
      | some y =>
        have hi' := (List.getElem?_eq_some_iff.1 hq).1
        simp only [List.length_append, List.length_cons, List.length_nil] at hi'
        have e : i = bk.length := by omega
        rw [hq] at hi
        subst e
        rw [List.getElem?_concat_length] at hq; cases hq
        have := hnew b hi
        omega), fix := ⟨S.fix.1, S.fix.2.1, S.fix.2.2.1, fun i e q hq => ?_⟩ }
  · rw [← S.hold b o v h]
    exact World.cell?_of_block (hsame b (S.mem_lt h))
  · dsimp only at he
    by_cases hi : i < st.hp.length
    · rw [List.getElem?_append_left hi] at he
      obtain ⟨q, q1, q2⟩ := S.ents i e he
      refine ⟨q, by rw [List.getElem?_append_left (by rw [S.len]; exact hi)]; exact q1, q2.mono (Mem.le_refl m) hJ (fun b hb => hsame b (q2.lt hb).2) (fun _ _ _ h => h)⟩
    · have hi' : i = st.hp.length := by
        have := (List.getElem?_eq_some_iff.1 he).1
        simp at this; omega
      subst hi'
      simp only [List.getElem?_concat_length, Option.some.injEq] at he
      subst he
      exact ⟨k, by rw [← S.len, List.getElem?_concat_length], hx⟩
  · have old : ∀ {i b : Nat}, ((bk ++ [k])[i]?).bind Cn.blk = some b → i < bk.length → (bk[i]?).bind Cn.blk = some b := fun h hl => by rw [List.getElem?_append_left hl] at h; exact h
    have new : ∀ {i b : Nat}, ((bk ++ [k])[i]?).bind Cn.blk = some b → ¬ i < bk.length → i = bk.length ∧ k.blk = some b := fun {i b} h hl => by
      cases hq : (bk ++ [k])[i]? with
      | none => rw [hq] at h; cases h
      | some y =>
        have hi := (List.getElem?_eq_some_iff.1 hq).1
        simp only [List.length_append, List.length_cons, List.length_nil] at hi
        have e : i = bk.length := by omega
        rw [hq] at h
        subst e
        rw [List.getElem?_concat_length] at hq; cases hq
        exact ⟨rfl, h⟩
    by_cases h1 : i < bk.length <;> by_cases h2 : j < bk.length
    · exact S.apart i j b (old hi h1) (old hj h2)
    · have := (S.blk_lt (old hi h1)).2
      have := hnew b (new hj h2).2
      omega
    · have := (S.blk_lt (old hj h2)).2
      have := hnew b (new hi h1).2
      omega
    · rw [(new hi h1).1, (new hj h2).1]
  · obtain ⟨q1, q2, q3⟩ := S.fix.2.2.2 i e q hq
    exact ⟨q1, by rw [List.getElem?_append_left (List.getElem?_eq_some_iff.1 q2).1]; exact q2, by rw [List.getElem?_append_left (List.getElem?_eq_some_iff.1 q3).1]; exact q3⟩

theorem getElem?_set_ne' {α : Type} {l : List α} {i j : Nat} {x : α} (h : j ≠ i) : (l.set i x)[j]? = l[j]? := List.getElem?_set_ne (Ne.symm h)

/-- A block of the call's own is written. -/
theorem Sat.update (S : Sat c m0 w0 fx m bk st a w) {id : Nat} {e0 e1 : Ent} {k0 k1 : Cn} {w' : World} (h0 : st.hp[id]? = some e0) (hown : e0.md = .own) (hk : bk[id]? = some k0) (hb : Below fx.n0 w0 w') (hsz : w.heap.size ≤ w'.heap.size)
    (hsame : ∀ b, b < w.heap.size → k0.blk ≠ some b → w'.heap[b]? = w.heap[b]?) (hnew : ∀ b, k1.blk = some b → k0.blk = some b ∨ w.heap.size ≤ b)
    (hJ : ∀ e u, J st.hp bk e u → J (st.hp.set id e1) (bk.set id k1) e u) (hx : SatEnt c.P m fx.n0 w' (J (st.hp.set id e1) (bk.set id k1)) e1 k1) :
    Sat c m0 w0 fx m (bk.set id k1) { st with hp := st.hp.set id e1 } a w' := by
  have hid : id < st.hp.length := (List.getElem?_eq_some_iff.1 h0).1
  obtain ⟨k', hk', hs0⟩ := S.ents id e0 h0
  rw [hk] at hk'; cases hk'
  have hnone : ∀ b, k0.blk = some b → ∀ o, m b o = none := by
    intro b hbk
    have hne : e0.md ≠ .froz := by rw [hown]; intro q; cases q
    cases e0 with
    | box md cs =>
      cases k0 with
      | box b' => obtain ⟨us, T, _, _, _, _, h5⟩ := hs0; cases hbk; exact h5 hne
      | row v => exact hs0.elim
    | row md ver el s xs =>
      cases k0 with
      | box b => exact hs0.elim
      | row cv => obtain ⟨cs, _, _, _, h4⟩ := hs0; exact h4 hne b hbk
  have hbk : ∀ {i b : Nat}, i ≠ id → (bk[i]?).bind Cn.blk = some b → k0.blk ≠ some b := fun {i b} hi h q => hi (S.apart i id b h (by rw [hk]; exact q))
  refine { hold := fun b o v h => ?_, tab := S.tab, ext := S.ext, below := hb, len := by simp [S.len], ents := fun i e he => ?_, apart := fun i j b hi hj => ?_, env := fun i => Rep_mono (Mem.le_refl m) _ hJ (S.env i), defers := S.defers, gh := fun e u h => hJ e u (S.gh e u h), base := S.base, keep := fun b hb => (by
    obtain ⟨q1, q2, q3⟩ := S.keep b hb
    have hlt : b < w.heap.size := Nat.lt_of_lt_of_le q1 S.below.size
    refine ⟨q1, (hsame b hlt (fun q => q3 id (by rw [hk]; exact q))).trans q2, fun i hi => ?_⟩
    by_cases h1 : i = id
    · subst h1
      rw [List.getElem?_set_self (by rw [S.len]; exact hid)] at hi
      rcases hnew b hi with q | q
      · exact q3 i (by rw [hk]; exact q)
      · omega
    · rw [getElem?_set_ne' h1] at hi; exact q3 i hi), fix := ⟨S.fix.1, S.fix.2.1, S.fix.2.2.1, fun i e q hq => ?_⟩ }
  · rw [← S.hold b o v h]
    exact World.cell?_of_block (hsame b (S.mem_lt h) (fun q => by rw [hnone b q o] at h; cases h))
  · dsimp only at he
    by_cases hi : i = id
    · subst hi
      rw [List.getElem?_set_self hid] at he; cases he
      exact ⟨k1, List.getElem?_set_self (by rw [S.len]; exact hid), hx⟩
    · rw [getElem?_set_ne' hi] at he
      obtain ⟨q, q1, q2⟩ := S.ents i e he
      refine ⟨q, by rw [getElem?_set_ne' hi]; exact q1, q2.mono (Mem.le_refl m) hJ (fun b hb => hsame b (q2.lt hb).2 (hbk hi (by rw [q1]; exact hb))) (fun _ _ _ h => h)⟩
  · have self : ∀ {b : Nat}, ((bk.set id k1)[id]?).bind Cn.blk = some b → k1.blk = some b := fun h => by rw [List.getElem?_set_self (by rw [S.len]; exact hid)] at h; exact h
    have other : ∀ {i b : Nat}, i ≠ id → ((bk.set id k1)[i]?).bind Cn.blk = some b → (bk[i]?).bind Cn.blk = some b := fun hi h => by rw [getElem?_set_ne' hi] at h; exact h
    have clash : ∀ {i b : Nat}, i ≠ id → (bk[i]?).bind Cn.blk = some b → k1.blk = some b → False := fun {i b} hi h1 h2 => by
      rcases hnew b h2 with q | q
      · exact hbk hi h1 q
      · have := (S.blk_lt h1).2; omega
    by_cases h1 : i = id <;> by_cases h2 : j = id
    · rw [h1, h2]
    · subst h1; exact (clash h2 (other h2 hj) (self hi)).elim
    · subst h2; exact (clash h1 (other h1 hi) (self hj)).elim
    · exact S.apart i j b (other h1 hi) (other h2 hj)
  · obtain ⟨q1, q2, q3⟩ := S.fix.2.2.2 i e q hq
    have hi : i ≠ id := fun e' => by subst e'; rw [h0] at q2; cases q2; exact q1 hown
    exact ⟨q1, by dsimp only; rw [getElem?_set_ne' hi]; exact q2, by rw [getElem?_set_ne' hi]; exact q3⟩

/-! ### Frozen blocks -/

theorem frzH_get (ids : List Nat) : ∀ (n : Nat) (hp : List Ent) (i : Nat), (frzH ids n hp)[i]? = (hp[i]?).map fun x => cond (ids.contains (n + i)) (x.setMd .froz) x
  | _, [], i => by simp [frzH]
  | n, x :: r, 0 => by simp [frzH]
  | n, x :: r, i + 1 => by
    simp only [frzH, List.getElem?_cons_succ]
    rw [frzH_get ids (n + 1) r i, show n + 1 + i = n + (i + 1) by omega]

theorem frzH_length (ids : List Nat) : ∀ (n : Nat) (hp : List Ent), (frzH ids n hp).length = hp.length
  | _, [] => rfl
  | n, x :: r => by simp [frzH, frzH_length ids (n + 1) r]

/-- A heap that differs in how its blocks are held alone. -/
def Alike (hp hp' : List Ent) : Prop := hp'.length = hp.length ∧ ∀ (i : Nat) (x : Ent), hp[i]? = some x → ∃ md, hp'[i]? = some (x.setMd md)

theorem Ent.setMd_setMd (x : Ent) (p q : Md) : (x.setMd p).setMd q = x.setMd q := by cases x <;> rfl
theorem Ent.setMd_md (x : Ent) : x.setMd x.md = x := by cases x <;> rfl
theorem Ent.md_setMd (x : Ent) (p : Md) : (x.setMd p).md = p := by cases x <;> rfl
theorem Ent.ids_setMd (x : Ent) (p : Md) : (x.setMd p).ids = x.ids := by cases x <;> rfl

theorem J_alike {hp hp' : List Ent} {bk : List Cn} (h : Alike hp hp') {e : EV} {u : Value} (k : J hp bk e u) : J hp' bk e u := by
  cases e <;> try exact k
  case box id off => obtain ⟨md, cs, b, h1, h2, h3⟩ := k; obtain ⟨q, hq⟩ := h.2 _ _ h1; exact ⟨q, cs, b, hq, h2, h3⟩
  case rp id ver kk off => obtain ⟨md, v, el, s, xs, cv, h1, h2, h3⟩ := k; obtain ⟨q, hq⟩ := h.2 _ _ h1; exact ⟨q, v, el, s, xs, cv, hq, h2, h3⟩
  case row id ver => obtain ⟨md, v, el, s, xs, cv, h1, h2, h3⟩ := k; obtain ⟨q, hq⟩ := h.2 _ _ h1; exact ⟨q, v, el, s, xs, cv, hq, h2, h3⟩

theorem alike_frzH (ids : List Nat) (hp : List Ent) : Alike hp (frzH ids 0 hp) := by
  refine ⟨frzH_length ids 0 hp, fun i x h => ?_⟩
  rw [frzH_get, h]
  cases hc : ids.contains (0 + i)
  · exact ⟨x.md, by simp [hc, Ent.setMd_md]⟩
  · exact ⟨.froz, by simp [hc]⟩

open Classical in
/-- The memory that is known behind a freeze. -/
noncomputable def frzM (m : Mem) (w : World) (B : Nat → Prop) : Mem := fun b o => if B b then w.cell? ⟨b, o, none⟩ else m b o

theorem frzM_le (S : Sat c m0 w0 fx m bk st a w) (B : Nat → Prop) : m.le (frzM m w B) := by
  intro b o v h
  unfold frzM
  split
  · exact S.hold b o v h
  · exact h

theorem frzM_holds (S : Sat c m0 w0 fx m bk st a w) (B : Nat → Prop) : Holds w (frzM m w B) := by
  intro b o v h
  unfold frzM at h
  split at h
  · exact h
  · exact S.hold b o v h

/-- The blocks of a set of the abstract heap's blocks. -/
def blks (bk : List Cn) (F : Nat → Prop) (b : Nat) : Prop := ∃ i, F i ∧ (bk[i]?).bind Cn.blk = some b

theorem frzM_ext (S : Sat c m0 w0 fx m bk st a w) (F : Nat → Prop) : Mem.ext fx.n0 m (frzM m w (blks bk F)) := by
  refine ⟨frzM_le S _, fun b o hb => ?_⟩
  unfold frzM
  split
  · rename_i h
    obtain ⟨i, _, h⟩ := h
    have := (S.blk_lt h).1
    omega
  · rfl

theorem cell_get {w : World} {b : Nat} {us : Array Value} {T : TypeId} (h : w.heap[b]? = some (.cells us T (0, 0))) (j : Nat) : w.cell? ⟨b, j, none⟩ = us.toList[j]? := by
  simp [World.cell?, h]

/-- Frozen blocks, for a callee's eyes: any set of blocks that names nothing beyond itself. -/
theorem frz_ok (S : Sat c m0 w0 fx m bk st a w) (F : Nat → Prop) (hF : ∀ i, F i → ∃ x, st.hp[i]? = some x ∧ ∀ j ∈ x.ids, F j) : FrzOK c.P m (frzM m w (blks bk F)) st.hp bk F := by
  intro i hi
  obtain ⟨x, hx, hids⟩ := hF i hi
  obtain ⟨k, hk, hs⟩ := S.ents i x hx
  have cell : ∀ b o, k.blk = some b → frzM m w (blks bk F) b o = w.cell? ⟨b, o, none⟩ := by
    intro b o hb
    unfold frzM
    rw [if_pos ⟨i, hi, by rw [hk]; exact hb⟩]
  cases x with
  | box md cs =>
    cases k with
    | row v => exact hs.elim
    | box b =>
      obtain ⟨us, T, h1, h2, h3, h4, h5⟩ := hs
      refine .inl ⟨md, cs, b, us.toList, hx, hk, h2, fun j u hj => ?_, hids⟩
      rw [cell b j rfl, cell_get h1]
      exact hj
  | row md ver el s xs =>
    cases k with
    | box b => exact hs.elim
    | row cv =>
      obtain ⟨cs, h1, h2, h3, h4⟩ := hs
      refine .inr ⟨md, ver, el, s, xs, cv, cs, hx, hk, h1, ?_⟩
      rcases h2.2 with ⟨q1, q2⟩ | ⟨g, cap, cur, e1, e2, e3, e4, e5, e6, e7⟩
      · exact .inl ⟨q1, List.eq_nil_of_length_eq_zero q2⟩
      · refine .inr ⟨g, cap, e1, fun j u hj => ?_⟩
        rw [cell g j (by rw [e1]; rfl), cell_get e3]
        rw [← e7, List.getElem?_take] at hj
        split at hj
        · exact hj
        · cases hj

/-- Blocks are frozen for good. -/
theorem Sat.freeze (S : Sat c m0 w0 fx m bk st a w) {ids : List Nat} (hs : shutIds st.hp ids = true) : Sat c m0 w0 fx (frzM m w (blks bk (· ∈ ids))) bk { st with hp := frzH ids 0 st.hp } a w := by
  have hall : ∀ i ∈ ids, ∃ x, st.hp[i]? = some x ∧ x.md.isLock = false ∧ ∀ j ∈ x.ids, j ∈ ids := by
    intro i hi
    have := List.all_eq_true.1 hs i hi
    split at this
    · rename_i x hx
      simp only [Bool.and_eq_true, Bool.not_eq_true', List.all_eq_true] at this
      exact ⟨x, hx, this.1, fun j hj => by simpa using this.2 j hj⟩
    · cases this
  have hle := frzM_le S (blks bk (· ∈ ids))
  have hJ : ∀ e u, J st.hp bk e u → J (frzH ids 0 st.hp) bk e u := fun e u => J_alike (alike_frzH ids st.hp)
  refine { hold := frzM_holds S _, tab := S.tab.mono hle, ext := Mem.ext_trans S.ext (frzM_ext S _), below := S.below, len := by rw [S.len]; exact (frzH_length ids 0 st.hp).symm, ents := fun i e he => ?_, apart := S.apart, env := fun i => Rep_mono hle _ hJ (S.env i), defers := S.defers, gh := fun e u h => hJ e u (S.gh e u h), base := S.base, keep := S.keep, fix := ⟨S.fix.1, S.fix.2.1, S.fix.2.2.1, fun i e q hq => ?_⟩ }
  · dsimp only at he
    rw [frzH_get] at he
    cases hx : st.hp[i]? with
    | none => rw [hx] at he; cases he
    | some x =>
      rw [hx] at he
      simp only [Option.map_some, Option.some.injEq, Nat.zero_add] at he
      obtain ⟨k, hk, hse⟩ := S.ents i x hx
      refine ⟨k, hk, ?_⟩
      have other : ∀ b, k.blk = some b → i ∉ ids → ∀ o, frzM m w (blks bk (· ∈ ids)) b o = m b o := by
        intro b hb hi o
        unfold frzM
        rw [if_neg]
        rintro ⟨j, hj, hjb⟩
        exact hi (S.apart j i b hjb (by rw [hk]; exact hb) ▸ hj)
      by_cases hi : i ∈ ids
      · have hc : ids.contains i = true := by simpa using hi
        rw [hc] at he
        simp only [cond_true] at he
        subst he
        have cell : ∀ b o, k.blk = some b → frzM m w (blks bk (· ∈ ids)) b o = w.cell? ⟨b, o, none⟩ := by
          intro b o hb
          unfold frzM
          rw [if_pos ⟨i, hi, by rw [hk]; exact hb⟩]
        cases x with
        | box md cs =>
          cases k with
          | row v => exact hse.elim
          | box b =>
            obtain ⟨us, T, h1, h2, h3, h4, h5⟩ := hse
            exact ⟨us, T, h1, RepL_mono hle cs hJ h2, h3, fun _ j u hj => by rw [cell b j rfl, cell_get h1]; exact hj, fun q => absurd rfl q⟩
        | row md ver el s xs =>
          cases k with
          | box b => exact hse.elim
          | row cv =>
            obtain ⟨cs, h1, h2, h3, h4⟩ := hse
            refine ⟨cs, RowRep_mono hle h1, h2, fun _ g hg j u hj => ?_, fun q => absurd rfl q⟩
            rcases h2.2 with ⟨q1, q2⟩ | ⟨g', cap, cur, e1, e2, e3, e4, e5, e6, e7⟩
            · rw [q1] at hg; cases hg
            · rw [e1] at hg; cases hg
              rw [cell g' j (by rw [e1]; rfl), cell_get e3]
              rw [← e7, List.getElem?_take] at hj
              split at hj
              · exact hj
              · cases hj
      · have hc : ids.contains i = false := by simpa using hi
        rw [hc] at he
        simp only [cond_false] at he
        subst he
        exact hse.mono hle hJ (fun b _ => rfl) (fun _ b hb h o => by rw [other b hb hi o]; exact h o)
  · obtain ⟨q1, q2, q3⟩ := S.fix.2.2.2 i e q hq
    refine ⟨q1, ?_, q3⟩
    dsimp only
    rw [frzH_get, q2]
    simp only [Option.map_some, Nat.zero_add, Option.some.injEq]
    by_cases hi : i ∈ ids
    · obtain ⟨x, hx, hl, _⟩ := hall i hi
      rw [q2] at hx; cases hx
      have hc : ids.contains i = true := by simpa using hi
      rw [hc]
      have : e.md = .froz := by
        cases hm : e.md with
        | own => exact absurd hm q1
        | lock => rw [hm] at hl; cases hl
        | froz => rfl
      rw [cond_true, ← this, Ent.setMd_md]
    · have hc : ids.contains i = false := by simpa using hi
      rw [hc]
      rfl
end
end Go.Proofs.YtjeoelajkncpcaaDoor.V
