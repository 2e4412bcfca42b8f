/- Calls, and slices that are written out: the model does what the condition says. No condition of its own. -/
import Derived.Test.YtjeoelajkncpcaaDoorV14
namespace Go.Proofs.YtjeoelajkncpcaaDoor.V
open Go Go.RowKit
set_option linter.unusedVariables false
set_option linter.unusedSimpArgs false

section
variable {c : Cfg} {m0 : Mem} {w0 : World} {fx : Fx} {m : Mem} {bk : List Cn} {st : St} {a : Act} {w : World}

/-- Behind a call: of what was there nothing has turned. -/
theorem Sat.world (S : Sat c m0 w0 fx m bk st a w) {m' : Mem} {w' : World} (he : Mem.ext w.heap.size m m') (hh : Holds w' m') (hb : Below w.heap.size w w') : Sat c m0 w0 fx m' bk st a w' := by
  have hsz := S.n0le
  refine { S with hold := hh, tab := S.tab.mono he.1, ext := Mem.ext_trans S.ext (Mem.ext_mono he hsz), below := S.below.trans (hb.mono hsz), keep := fun b hb' => ⟨(S.keep b hb').1, (hb.block b (Nat.lt_of_lt_of_le (S.keep b hb').1 S.below.size)).trans (S.keep b hb').2.1, (S.keep b hb').2.2⟩, ents := fun i e q => ?_, env := fun i => Rep_mono he.1 _ (fun _ _ q => q) (S.env i) }
  obtain ⟨k, h1, h2⟩ := S.ents i e q
  exact ⟨k, h1, h2.mono he.1 (fun _ _ q => q) (fun b hb' => hb.block b (h2.lt hb').2) (fun _ b hb' hn o => by rw [he.2 b o (h2.lt hb').2]; exact hn o)⟩

theorem Sat.holds_below (S : Sat c m0 w0 fx m bk st a w) {w' : World} (hb : Below w.heap.size w w') : Holds w' m := by
  intro b o v h
  rw [← S.hold b o v h]
  exact World.cell?_of_block (hb.block b (S.mem_lt h))

mutual
theorem ids_ok {P : Program} {hp : List Ent} : ∀ (v : EV) {u : Value}, Rep P m v (J hp bk) u → ∀ i ∈ v.ids, ∃ x, hp[i]? = some x
  | .bot, _, _, i, hi => by simp [EV.ids] at hi
  | .p _ _, _, _, i, hi => by simp [EV.ids] at hi
  | .raw _, _, _, i, hi => by simp [EV.ids] at hi
  | .nil _, _, _, i, hi => by simp [EV.ids] at hi
  | .ip _ _, _, _, i, hi => by simp [EV.ids] at hi
  | .box id off, _, k, i, hi => by
    simp only [EV.ids, List.mem_singleton] at hi
    subst hi
    obtain ⟨md, cs, b, h1, _⟩ := k
    exact ⟨_, h1⟩
  | .rp id _ _ _, _, k, i, hi => by
    simp only [EV.ids, List.mem_singleton] at hi
    subst hi
    obtain ⟨md, v, e, s, xs, cv, h1, _⟩ := k
    exact ⟨_, h1⟩
  | .row id _, _, k, i, hi => by
    simp only [EV.ids, List.mem_singleton] at hi
    subst hi
    obtain ⟨md, v, e, s, xs, cv, h1, _⟩ := k
    exact ⟨_, h1⟩
  | .agg cs, _, k, i, hi => by obtain ⟨us, _, e2⟩ := k; exact idsL_ok cs e2 i hi
  | .tup cs, _, k, i, hi => by obtain ⟨us, _, e2⟩ := k; exact idsL_ok cs e2 i hi
  | .clo _ a b, _, k, i, hi => by
    obtain ⟨xs, ys, _, e2, e3⟩ := k
    simp only [EV.ids, List.mem_append] at hi
    rcases hi with hi | hi
    · exact idsL_ok a e2 i hi
    · exact idsL_ok b e3 i hi
  | .ifc _ v, _, k, i, hi => by obtain ⟨x, _, e2⟩ := k; exact ids_ok v e2 i hi
theorem idsL_ok {P : Program} {hp : List Ent} : ∀ (cs : List EV) {us : List Value}, RepL P m cs (J hp bk) us → ∀ i ∈ EV.idsL cs, ∃ x, hp[i]? = some x
  | [], _, _, i, hi => by simp [EV.idsL] at hi
  | c :: r, _, k, i, hi => by
    obtain ⟨u, us', _, e2, e3⟩ := RepL_cons.1 k
    simp only [EV.idsL, List.mem_append] at hi
    rcases hi with hi | hi
    · exact ids_ok c e2 i hi
    · exact idsL_ok r e3 i hi
end

/-- All blocks, frozen for the while of a call. -/
theorem frz_all (S : Sat c m0 w0 fx m bk st a w) : FrzOK c.P m (frzM m w (blks bk fun i => ∃ x, st.hp[i]? = some x)) st.hp bk (fun i => ∃ x, st.hp[i]? = some x) := by
  refine frz_ok S _ fun i ⟨x, hx⟩ => ⟨x, hx, fun j hj => ?_⟩
  obtain ⟨k, h1, h2⟩ := S.ents i x hx
  cases x with
  | row md v e s xs => simp [Ent.ids] at hj
  | box md cs =>
    cases k with
    | row v => exact h2.elim
    | box b => obtain ⟨us, T, _, r, _⟩ := h2; exact idsL_ok cs r j hj

theorem frz_shut (S : Sat c m0 w0 fx m bk st a w) {ids : List Nat} (hs : shutIds st.hp ids = true) : FrzOK c.P m (frzM m w (blks bk (· ∈ ids))) st.hp bk (· ∈ ids) := by
  refine frz_ok S _ fun i hi => ?_
  have := List.all_eq_true.1 hs i hi
  split at this
  · rename_i x hx
    simp only [Bool.and_eq_true, List.all_eq_true] at this
    exact ⟨x, hx, fun j hj => by simpa using this.2 j hj⟩
  · cases this

theorem closeIds_mem {hp : List Ent} {l : List Nat} {i : Nat} (h : i ∈ l) : i ∈ closeIds hp l := by simp [closeIds, h]

/-- A value without slices, functions and interfaces asks nothing of memory. -/
theorem flat_V {P : Program} (s : Shape) : s.flat = true → ∀ {m m' : Mem}, (∀ x us, (Reps P s).C m x us → (Reps P s).C m' x us) ∧ (∀ x us, (Reps P s).A m x us → (Reps P s).A m' x us) ∧ (∀ x u, (Reps P s).V m x u → (Reps P s).V m' x u) := by
  induction s with
  | bool => intro _ m m'; exact ⟨fun _ _ k => k, fun _ _ k => k, fun _ _ k => k⟩
  | int k => intro _ m m'; exact ⟨fun _ _ k => k, fun _ _ k => k, fun _ _ k => k⟩
  | slice s _ => intro h; cases h
  | st f ih =>
    intro h m m'
    exact ⟨(ih h).1, fun x us ⟨cs, e1, e2⟩ => ⟨cs, e1, (ih h).1 _ _ e2⟩, fun x u ⟨cs, e1, e2⟩ => ⟨cs, e1, (ih h).1 _ _ e2⟩⟩
  | unit => intro _ m m'; exact ⟨fun _ _ k => k, fun _ _ k => k, fun _ _ k => k⟩
  | pair p q ihp ihq =>
    intro h m m'
    simp only [Shape.flat, Bool.and_eq_true] at h
    exact ⟨fun x us ⟨c, d, e1, e2, e3⟩ => ⟨c, d, e1, (ihp h.1).1 _ _ e2, (ihq h.2).1 _ _ e3⟩, fun x us ⟨c, d, e1, e2, e3⟩ => ⟨c, d, e1, (ihp h.1).2.2 _ _ e2, (ihq h.2).2.1 _ _ e3⟩, fun _ _ k => k⟩
  | tup f ih => intro h m m'; exact ⟨fun _ _ k => k, fun _ _ k => k, fun x u ⟨us, e1, e2⟩ => ⟨us, e1, (ih h).2.1 _ _ e2⟩⟩
  | func i o _ _ => intro h; cases h
  | iface a _ => intro h; cases h
  | one t s _ => intro h; cases h
  | alt t s r _ _ => intro h; cases h

theorem run_callFunc {P : Program} {f : FuncId} (h : Callable P f) (args : Array Value) (w : World) : (callFunc f args).run P w = .ok (.enter f args) w := by
  obtain ⟨fn, b, h1, h2, h3⟩ := h
  have h4 : ¬ fn.name = "runtime.NumGoroutine" := by simpa using h3
  simp [callFunc, run_program, h1, h2, h4]

/-- What a call comes to, whatever tells of it: an answer r of which R is so, over memory as it was known. -/
theorem after_sound (S : Sat c m0 w0 fx m bk st a w) {f : FuncId} {out : Shape} {args : List EV} {us : List Value} {ins : Shape} {K : EV → List Ent → Prop} {X : ins.Val → (out.Val → Prop) → Prop} {vs : Array Value}
    (hargs : RepL c.P m args (J st.hp bk) us)
    (hX : ∀ (m' : Mem) x K', m.le m' → Holds w m' → (Reps c.P ins).A m' x us → X x K' → ∃ R : out.Val → Prop, (∀ r, R r → K' r) ∧ Calls c.P f vs w (PostOf (fun m v => ∃ r, R r ∧ (Reps c.P out).V m r v) m' w))
    (k : decS c st ins args fun x => afterK out args st.hp fun hp => X x fun r => K (out.enc r) hp) : Calls c.P f vs w (fun e w' => ∃ u, e = .returned u ∧ ResK c m0 w0 fx st a w K u w') := by
  cases hfl : out.flat
  · -- what came in is written no more
    have hk : ∃ x, afterK out args st.hp (fun hp => X x fun r => K (out.enc r) hp) := by
      obtain ⟨x, h, _⟩ := decS_sound (frz_all S) (frzM_le S _) (S.tab.mono (frzM_le S _)) ins args us _ hargs (idsL_ok args hargs) k
      exact ⟨x, h⟩
    obtain ⟨x0, hk⟩ := hk
    unfold afterK at hk
    rw [hfl] at hk
    obtain ⟨hs, _⟩ := cond_true' (by simpa using hk)
    obtain ⟨x, h1, h2⟩ := decS_sound (frz_shut S hs) (frzM_le S _) (S.tab.mono (frzM_le S _)) ins args us _ hargs (fun i hi => closeIds_mem hi) k
    unfold afterK at h1
    rw [hfl, hs] at h1
    simp only [cond_false, cond_true] at h1
    have S1 := S.freeze hs
    obtain ⟨R, hR, hC⟩ := hX _ x _ (frzM_le S _) S1.hold h2 h1
    refine hC.mono fun e w' ⟨v, m'', e1, e2, e3, e4, r, q1, q2⟩ => ?_
    have S2 := S1.world e2 e3 e4
    exact ⟨v, e1, ⟨_, _, m'', bk, hR r q1, S2, Rep_enc out _ q2⟩, .of_below e4⟩
  · obtain ⟨x, h1, h2⟩ := decS_sound (frz_all S) (frzM_le S _) (S.tab.mono (frzM_le S _)) ins args us _ hargs (idsL_ok args hargs) k
    unfold afterK at h1
    rw [hfl] at h1
    simp only [cond_true] at h1
    obtain ⟨R, hR, hC⟩ := hX _ x _ (frzM_le S _) (frzM_holds S _) h2 h1
    refine hC.mono fun e w' ⟨v, m'', e1, e2, e3, e4, r, q1, q2⟩ => ?_
    have S2 := S.world (Mem.ext_refl _ m) (S.holds_below e4) e4
    exact ⟨v, e1, ⟨_, _, m, bk, hR r q1, S2, Rep_enc out _ ((flat_V out hfl).2.2 _ _ q2)⟩, .of_below e4⟩

theorem callK_sound (S : Sat c m0 w0 fx m bk st a w) {f : FuncId} {args : List EV} {us : List Value} {K : EV → List Ent → Prop} (hargs : RepL c.P m args (J st.hp bk) us) (k : c.callK st f args K) :
    Calls c.P f us.toArray w (fun e w' => ∃ u, e = .returned u ∧ ResK c m0 w0 fx st a w K u w') := by
  unfold Cfg.callK at k
  split at k
  · rename_i fn hf
    split at k
    · rename_i ins outs hi ho
      obtain ⟨hb, k⟩ := cond_true' k
      refine after_sound S (X := fun x K' => callP c.toBase f (seqS ins) (outS outs) x K') hargs (fun m' x K' hm hh hA hX => ?_) k
      obtain ⟨R, ⟨_, hF⟩, hR⟩ := hX
      exact ⟨R, hR, hF m' w us (S.tab.mono hm) hh (RepL_comps _ pureJ hA)⟩
    · exact k.elim
  · exact k.elim

theorem decS_some (S : Sat c m0 w0 fx m bk st a w) {ins : Shape} {args : List EV} {us : List Value} {K : ins.Val → Prop} (hargs : RepL c.P m args (J st.hp bk) us) (k : decS c st ins args K) : ∃ x, K x := by
  obtain ⟨x, h, _⟩ := decS_sound (frz_all S) (frzM_le S _) (S.tab.mono (frzM_le S _)) ins args us _ hargs (idsL_ok args hargs) k
  exact ⟨x, h⟩

theorem after_some {out : Shape} {args : List EV} {hp : List Ent} {K : List Ent → Prop} (k : afterK out args hp K) : ∃ hp', K hp' := by
  unfold afterK at k
  rcases cond_spec k with ⟨_, k⟩ | ⟨_, k⟩
  · exact ⟨_, k⟩
  · obtain ⟨_, k⟩ := cond_true' k; exact ⟨_, k⟩

theorem callK_callable (S : Sat c m0 w0 fx m bk st a w) {f : FuncId} {args : List EV} {us : List Value} {K : EV → List Ent → Prop} (hargs : RepL c.P m args (J st.hp bk) us) (k : c.callK st f args K) : Callable c.P f := by
  unfold Cfg.callK at k
  split at k
  · split at k
    · obtain ⟨hb, k⟩ := cond_true' k
      obtain ⟨x, k⟩ := decS_some S hargs k
      obtain ⟨hp, R, ⟨h, _⟩, _⟩ := after_some k
      exact h
    · exact k.elim
  · exact k.elim

/-- A method of a type's values. -/
theorem method_sound {t : TypeId} {name : String} {f : FuncId} (h : c.method t name = some f) (v : Value) (n : Nat) (w : World) : (method (n + 1) t v name).run c.P w = .ok (f, v) w := by
  unfold Cfg.method at h
  split at h
  · rename_i i hi
    split at h
    · cases h
    · rename_i mt d hp hfind hu
      split at h
      · rename_i g hfn hpath
        simp only [Option.some.injEq] at h
        subst h
        have hfind' : i.methods.find? (fun x => x.name == name) = some mt := by rw [← Array.find?_toList]; exact hfind
        have hpe : mt.path = #[] := by
          have := congrArg List.toArray hpath
          simpa using this
        have hrec : ∀ wr, (receiverAt t (.val v) false wr).run c.P w = .ok v w := by
          intro wr
          simp only [receiverAt, Sem.run_bind, run_underlying hu, Result.andThen_ok]
          cases d <;> first | exact absurd rfl (hp _) | rfl
        simp [method, typeInfo, hi, hfind', hpe, follow, hfn, hrec]
      · cases h
    · cases h
    · cases h
  · cases h

/-! ### Slices that are written out -/

/-- Memory, and a block more that nobody writes. -/
def addM (m : Mem) (b : Nat) (us : List Value) : Mem := fun b' o => if b' = b then us[o]? else m b' o

theorem addM_le (S : Sat c m0 w0 fx m bk st a w) (us : List Value) : m.le (addM m w.heap.size us) := by
  intro b o v h
  unfold addM
  rw [if_neg (by have := S.mem_lt h; omega)]
  exact h

theorem Sat.addM (S : Sat c m0 w0 fx m bk st a w) (us : Array Value) (T : TypeId) : Sat c m0 w0 fx (addM m w.heap.size us.toList) bk st a (w.alloc (.cells us T)) := by
  have hsz := S.n0le
  refine { S with hold := fun b o v h => ?_, tab := S.tab.mono (addM_le S _), ext := Mem.ext_trans S.ext ⟨addM_le S _, fun b o hb => ?_⟩, below := S.below.alloc hsz _, keep := fun b hb => ⟨(S.keep b hb).1, (heap_alloc_old w _ b (Nat.lt_of_lt_of_le (S.keep b hb).1 S.below.size)).trans (S.keep b hb).2.1, (S.keep b hb).2.2⟩, ents := fun i e q => ?_, env := fun i => Rep_mono (addM_le S _) _ (fun _ _ q => q) (S.env i) }
  · unfold V.addM at h
    split at h
    · rename_i e
      subst e
      rw [cell_get (heap_alloc_new w _)]
      exact h
    · rw [← S.hold b o v h]
      exact World.cell?_of_block (heap_alloc_old w _ b (S.mem_lt h))
  · unfold V.addM
    rw [if_neg (by omega)]
  · obtain ⟨k, h1, h2⟩ := S.ents i e q
    refine ⟨k, h1, h2.mono (addM_le S _) (fun _ _ q => q) (fun b hb => heap_alloc_old w _ b (h2.lt hb).2) (fun _ b hb hn o => ?_)⟩
    unfold V.addM
    rw [if_neg (by have := (h2.lt hb).2; omega)]
    exact hn o

/-- Parts given in order fill a row. -/
theorem fill_order {size : Nat} : ∀ (vals : List (Nat × Value)) (k : Nat) (cells : Array Value), (∀ (j i : Nat) (u : Value), vals[j]? = some (i, u) → i = k + j ∧ u.cells.size = size) → (k + vals.length) * size ≤ cells.size →
    ∃ cells', Instr.fill (fun i => some (i * size, size)) cells vals = some cells' ∧ cells'.size = cells.size ∧ cells'.toList = cells.toList.take (k * size) ++ (vals.flatMap fun q => q.2.cells.toList) ++ cells.toList.drop ((k + vals.length) * size)
  | [], k, cells, _, _ => ⟨cells, rfl, rfl, by simp⟩
  | (i, u) :: vals, k, cells, hv, hl => by
    obtain ⟨hi, hsz⟩ := hv 0 i u rfl
    have hi' : k = i := by omega
    subst hi'
    simp only [List.length_cons] at hl ⊢
    have h1 : (k + 1) * size ≤ (k + (vals.length + 1)) * size := Nat.mul_le_mul_right _ (by omega)
    have h2 : (k + 1) * size = k * size + size := Nat.succ_mul _ _
    have hf := foldl_laid u.cells.toList cells (k * size) 0 (by simp [hsz]; omega)
    have hlist : (u.cells.zipIdx.foldl (fun cs (q : Value × Nat) => cs.setIfInBounds (k * size + q.2) q.1) cells).toList = cells.toList.take (k * size) ++ u.cells.toList ++ cells.toList.drop (k * size + size) := by
      rw [← Array.foldl_toList, Array.toList_zipIdx, hf]
      simp [hsz]
    have hsize : (u.cells.zipIdx.foldl (fun cs (q : Value × Nat) => cs.setIfInBounds (k * size + q.2) q.1) cells).size = cells.size := by
      rw [← Array.length_toList, hlist]
      simp [hsz]
      omega
    obtain ⟨cells', e1, e2, e3⟩ := fill_order vals (k + 1) (u.cells.zipIdx.foldl (fun cs (q : Value × Nat) => cs.setIfInBounds (k * size + q.2) q.1) cells) (fun j i' u' hj => by
      obtain ⟨q1, q2⟩ := hv (j + 1) i' u' (by simpa using hj)
      exact ⟨by omega, q2⟩) (by rw [hsize, show k + 1 + vals.length = k + (vals.length + 1) by omega]; exact hl)
    refine ⟨cells', ?_, by rw [e2, hsize], ?_⟩
    · simp only [Instr.fill]
      rw [if_neg (by simp [hsz]; omega)]
      exact e1
    · have hk : (cells.toList.take (k * size) ++ u.cells.toList).length = (k + 1) * size := by simp [hsz]; omega
      rw [e3, hlist, List.take_left' hk]
      have hN : (k + 1) * size ≤ (k + 1 + vals.length) * size := Nat.mul_le_mul_right _ (by omega)
      have hdrop : ((cells.toList.take (k * size) ++ u.cells.toList) ++ cells.toList.drop (k * size + size)).drop ((k + 1 + vals.length) * size) = cells.toList.drop ((k + (vals.length + 1)) * size) := by
        rw [List.drop_append, hk, List.drop_eq_nil_of_le (by rw [hk]; exact hN), List.nil_append, List.drop_drop]
        congr 1
        rw [show k + (vals.length + 1) = k + 1 + vals.length by omega]
        omega
      rw [hdrop]
      simp [List.flatMap_cons, List.append_assoc]
end
end Go.Proofs.YtjeoelajkncpcaaDoor.V
