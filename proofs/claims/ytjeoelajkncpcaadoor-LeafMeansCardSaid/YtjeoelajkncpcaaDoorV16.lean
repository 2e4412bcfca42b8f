/- Every operation: the model does what the condition says. No condition of its own. -/
import Derived.Test.YtjeoelajkncpcaaDoorV15
namespace Go.Proofs.YtjeoelajkncpcaaDoor.V
open Go Go.RowKit
set_option linter.unusedVariables false
set_option linter.unusedSimpArgs false

section
variable {c : Cfg} {m0 : Mem} {w0 : World} {fx : Fx} {m : Mem} {bk : List Cn} {st : St} {a : Act} {w : World}

theorem RowRep_of_V {P : Program} {s : Shape} (hs : s.size ≠ 0) {m : Mem} : ∀ {xs : List s.Val} {us : List Value}, xs.length = us.length → (∀ (i : Nat) x, xs[i]? = some x → ∃ u, us[i]? = some u ∧ (Reps P s).V m x u) → RowRep P m s xs (us.flatMap fun u => u.cells.toList)
  | [], [], _, _ => rfl
  | [], _ :: _, h, _ => by simp at h
  | _ :: _, [], h, _ => by simp at h
  | x :: xs, u :: us, h, k => by
    obtain ⟨u', h1, h2⟩ := k 0 x rfl
    simp only [List.getElem?_cons_zero, Option.some.injEq] at h1
    subst h1
    exact ⟨_, _, rfl, V_cells s hs h2, RowRep_of_V hs (by simpa using h) fun i y hy => by simpa using k (i + 1) y (by simpa using hy)⟩

theorem inOrder_spec : ∀ {l : List (Nat × EV)} {n j i : Nat} {v : EV}, inOrder n l = true → l[j]? = some (i, v) → i = n + j
  | [], _, _, _, _, _, h => by simp at h
  | (i', v') :: r, n, 0, i, v, h, k => by
    simp only [inOrder, Bool.and_eq_true] at h
    simp only [List.getElem?_cons_zero, Option.some.injEq, Prod.mk.injEq] at k
    rw [← k.1, beq_eq h.1]; rfl
  | (i', v') :: r, n, j + 1, i, v, h, k => by
    simp only [inOrder, Bool.and_eq_true] at h
    have := inOrder_spec h.2 (by simpa using k : r[j]? = some (i, v))
    omega

theorem V_size {P : Program} {s : Shape} (hs : s.size ≠ 0) {m : Mem} {x : s.Val} {u : Value} (h : (Reps P s).V m x u) : u.cells.size = s.size := by
  rw [← Array.length_toList]
  exact Reps.C_length s (V_cells s hs h)

theorem buildSlice_sound (S : Sat c m0 w0 fx m bk st a w) {t e : TypeId} {n : Nat} {parts : Array (Nat × Operand)} {s : Shape} {K : EV → List Ent → Prop} (ht : c.P.underlying t = some (.slice e)) (hz : c.zeroOK e s = true) (hsz : c.sizeOf e = s.size) (hpos : 1 ≤ s.size)
    (ho : inOrder 0 (parts.toList.map fun q => (q.1, c.ev st q.2)) = true) (hp : parts.size = n) (hn : n ≠ 0) (hlim : n * s.size ≤ 10000)
    (k : decE c st s (parts.toList.map fun q => c.ev st q.2) fun xs => afterK (.slice s) (parts.toList.map fun q => c.ev st q.2) st.hp fun hp => K (.p (.slice s) xs) hp) :
    ∃ u w', (Instr.buildSlice t n (parts.map fun q => (q.1, a.eval q.2))).run c.P w = .ok u w' ∧ ResK c m0 w0 fx st a w K u w' := by
  have hargs : RepL c.P m (parts.toList.map fun q => c.ev st q.2) (J st.hp bk) (parts.toList.map fun q => a.eval q.2) := by
    have := evs_sound S (parts.toList.map (·.2))
    simpa [List.map_map, Function.comp_def] using this
  obtain ⟨i, z, hi, hz1, hz2⟩ := zero_info hz
  have hisz : i.size = s.size := by rw [← hsz]; simp [Cfg.sizeOf, Program.cellsOf, hi]
  have hs0 : s.size ≠ 0 := by omega
  obtain ⟨xs0, hk, _⟩ := decE_sound (frz_all S) (frzM_le S _) (S.tab.mono (frzM_le S _)) s _ _ _ hargs (idsL_ok _ hargs) k
  unfold afterK at hk
  simp only [Shape.flat, cond_false] at hk
  obtain ⟨hs, _⟩ := cond_true' hk
  obtain ⟨xs, h1, h2, h3⟩ := decE_sound (frz_shut S hs) (frzM_le S _) (S.tab.mono (frzM_le S _)) s _ _ _ hargs (fun i hi => closeIds_mem hi) k
  unfold afterK at h1
  simp only [Shape.flat, cond_false, hs, cond_true] at h1
  have S1 := S.freeze hs
  have hlen : xs.length = n := by rw [h2]; simp [hp]
  have hvals : ∀ (j i : Nat) (u : Value), (parts.toList.map fun q => (q.1, a.eval q.2))[j]? = some (i, u) → i = 0 + j ∧ u.cells.size = s.size := by
    intro j i u hj
    rw [List.getElem?_map] at hj
    cases hq : parts.toList[j]? with
    | none => rw [hq] at hj; cases hj
    | some q =>
      rw [hq] at hj
      simp only [Option.map_some, Option.some.injEq, Prod.mk.injEq] at hj
      obtain ⟨rfl, rfl⟩ := hj
      refine ⟨inOrder_spec (v := c.ev st q.2) ho (by rw [List.getElem?_map, hq]; rfl), ?_⟩
      have hjl : j < parts.toList.length := (List.getElem?_eq_some_iff.1 hq).1
      have hjx : j < xs.length := by rw [hlen, ← hp]; simpa using hjl
      obtain ⟨u, q1, q2⟩ := h3 j _ (List.getElem?_eq_getElem hjx)
      rw [List.getElem?_map, hq] at q1
      simp only [Option.map_some, Option.some.injEq] at q1
      subst q1
      exact V_size hs0 q2
  have hmap : (parts.map fun q => (q.1, a.eval q.2)).toList = parts.toList.map fun q => (q.1, a.eval q.2) := by simp
  have hzl : ((Array.range (n * s.size)).map (fun j => z.cells[j % z.cells.size]!)).size = n * s.size := by simp
  have hpl : (parts.toList.map fun q => (q.1, a.eval q.2)).length = n := by simp [hp]
  obtain ⟨cells, f1, f2, f3⟩ := fill_order (size := s.size) (parts.toList.map fun q => (q.1, a.eval q.2)) 0 ((Array.range (n * s.size)).map (fun j => z.cells[j % z.cells.size]!)) hvals (by rw [hzl, hpl, Nat.zero_add]; exact Nat.le_refl _)
  have hcells : cells.toList = (parts.toList.map fun q => a.eval q.2).flatMap fun u => u.cells.toList := by
    rw [f3, hpl, Nat.zero_mul, List.take_zero, List.nil_append, Nat.zero_add, List.drop_eq_nil_of_le (by rw [Array.length_toList, hzl]; exact Nat.le_refl _), List.append_nil]
    rw [List.flatMap_map, List.flatMap_map]
  have hne : ¬ n * s.size = 0 := by
    intro q
    rcases Nat.mul_eq_zero.1 q with q | q <;> omega
  refine ⟨.slice (some ⟨w.heap.size, 0, none⟩) n n, w.alloc (.cells cells e), ?_, ⟨.p (.slice s) xs, _, _, bk, h1, S1.addM cells e, ?_⟩, .of_alloc _ _⟩
  · have hzv : (zeroValue e).run c.P w = .ok z w := run_zeroValue (by rw [hi]; exact hz1) w
    have hsr : (sizeOf e).run c.P w = .ok s.size w := by simp [sizeOf, typeInfo, hi, hisz]
    simp only [Instr.buildSlice, Sem.run_bind, run_underlying ht, Result.andThen_ok, hsr, hmap]
    rw [if_neg (by omega)]
    simp only [Sem.run_pure, Result.andThen_ok, if_neg hne, Sem.run_bind, hzv, f1, newRow, run_newObj]
    rfl
  · rw [← hlen]
    refine slice_of_row (cs := cells.toList) ?_ fun j u hj => ?_
    · rw [hcells]
      refine RowRep_of_V hs0 h2 fun i x hx => ?_
      obtain ⟨u, q1, q2⟩ := h3 i x hx
      exact ⟨u, q1, Reps.V_mono (addM_le S1 _) q2⟩
    · unfold addM
      rw [if_pos rfl, Nat.zero_add]
      exact hj

/-- An operation that makes or writes memory, or calls. -/
theorem loud_sound (S : Sat c m0 w0 fx m bk st a w) (o : Oper) {K : EV → List Ent → Prop} (k : c.loud o st K) {next : Act → World → Prop} {Q : Exit → Act → World → Prop}
    (hn : ∀ u w', Res c m0 w0 fx st a K u w' → (isWriter o.op = false → Kept w w') → next (a.put o.dst u) w') : o.wp c.P a w next Q := by
  obtain ⟨dst, op, type, pos, after, guard⟩ := o
  dsimp only at hn
  unfold Cfg.loud at k
  dsimp only at k
  have val : ∀ {s : Sem Value}, (∃ u w', s.run c.P w = .ok u w' ∧ ResK c m0 w0 fx st a w K u w') → (do pure (.value (← s)) : Sem Next) = execOp a.eval ⟨dst, op, type, pos, after, guard⟩ → Oper.wp c.P ⟨dst, op, type, pos, after, guard⟩ a w next Q := by
    intro s ⟨u, w', h1, h2⟩ he
    unfold Oper.wp
    rw [← he]
    simp only [Sem.run_bind, h1, Result.andThen_ok, Sem.run_pure, Oper.upon_value]
    exact hn u w' h2.1 (fun _ => h2.2)
  have call : ∀ {f : FuncId} {args : Array Value}, Callable c.P f → Calls c.P f args w (fun e w' => ∃ u, e = .returned u ∧ ResK c m0 w0 fx st a w K u w') → (execOp a.eval ⟨dst, op, type, pos, after, guard⟩).run c.P w = .ok (.enter f args) w → Oper.wp c.P ⟨dst, op, type, pos, after, guard⟩ a w next Q := by
    intro f args hc hC he
    unfold Oper.wp
    rw [he, Oper.upon_enter]
    refine hC.mono fun e w' ⟨u, h1, h2⟩ => ?_
    subst h1
    exact hn u w' h2.1 (fun _ => h2.2)
  split at k
  · rename_i t
    split at k
    · rename_i s hs
      replace k := cond_true' k
      obtain ⟨hz, k⟩ := k
      exact val (alloc_sound S hz k) rfl
    · exact k.elim
  · rename_i t x
    replace k := cond_true' k
    obtain ⟨hb, k⟩ := k
    simp only [Bool.and_eq_true] at hb
    exact val (box_sound S (ev_sound S x) hb.1 k) rfl
  · rename_i t n parts
    split at k
    · rename_i e ht
      split at k
      · rename_i s hs
        replace k := cond_true' k
        obtain ⟨hb, k⟩ := k
        simp only [Bool.and_eq_true] at hb
        cases n with
        | zero =>
          replace k := cond_true' k
          obtain ⟨hp, k⟩ := k
          have hp0 : parts = #[] := by
            have := beq_eq hp
            cases parts with
            | mk l => cases l <;> simp_all
          subst hp0
          have hsr : (sizeOf e).run c.P w = .ok (c.P.cellsOf e) w := run_sizeOf' w (by have := beq_eq hb.1.2; have := ble_le hb.2; unfold Cfg.sizeOf at *; omega)
          have ho := World.ownsRow_lit (base := fx.n0) (e := e) (size := s.size) w #[] 0 S.n0le (by unfold maxLen; omega) (by simp)
          refine val ⟨.slice (some ⟨w.heap.size, 0, none⟩) 0 0, w.alloc (.cells #[] e), ?_, new_row (xs := []) (cs := []) S e s (S.below.alloc S.n0le _) (fun b hb => heap_alloc_old w _ b hb) rfl ho (fun b hb => by cases hb; exact Nat.le_refl _) k (Kept.of_alloc _ _).1⟩ rfl
          simp only [Instr.buildSlice, Sem.run_bind, run_underlying ht, Result.andThen_ok, hsr]
          simp [newRow, Instr.fill]
          exact congrArg (fun x => w.alloc (.cells x e)) (Array.eq_empty_of_size_eq_zero (xs := Array.map (fun _ => (default : Value)) (Array.range 0)) (by rw [Array.size_map, Array.size_range]))
        | succ n =>
          replace k := cond_true' k
          obtain ⟨hb2, k⟩ := k
          simp only [Bool.and_eq_true] at hb2
          exact val (buildSlice_sound S ht hb.1.1 (beq_eq hb.1.2) (ble_le hb.2) hb2.1.1 (beq_eq hb2.1.2) (by omega) (ble_le hb2.2) k) rfl
      · exact k.elim
    · exact k.elim
  · rename_i t x y
    have hx := ev_sound S x
    have store : (∃ w', (Instr.storeAt t (a.eval x) (a.eval y)).run c.P w = .ok () w' ∧ Res c m0 w0 fx st a K undef w') → Oper.wp c.P ⟨dst, .store t x y, type, pos, after, guard⟩ a w next Q := by
      intro ⟨w', h1, h2⟩
      unfold Oper.wp
      simp only [execOp, Sem.run_bind, h1, Result.andThen_ok, Sem.run_pure, Oper.upon_skip]
      exact hn undef w' h2 (fun q => by cases q)
    split at k
    · rename_i id off he
      rw [he] at hx
      split at k
      · rename_i cs hh
        replace k := cond_true' k
        obtain ⟨hb, k⟩ := k
        simp only [Bool.and_eq_true] at hb
        exact store (store_box_sound S hx (ev_sound S y) hh hb.1.1.1.1 hb.1.1.1.2 (beq_eq hb.1.2) (ble_le hb.2) (by rw [beq_eq hb.1.2]; exact ble_le hb.1.1.2) k)
      · exact k.elim
    · rename_i id ver kk off he
      rw [he] at hx
      split at k
      · rename_i v e s xs hh
        replace k := cond_true' k
        obtain ⟨hb, k⟩ := k
        simp only [Bool.and_eq_true] at hb
        exact store (store_row_sound S hx (ev_sound S y) hh (beq_eq hb.1.1.1.1.1.1) hb.1.1.1.1.1.2 hb.1.1.1.1.2 (beq_eq hb.1.1.2) (ble_le hb.1.2) (by rw [beq_eq hb.1.1.2]; exact ble_le hb.1.1.1.2) hb.2 k)
      · exact k.elim
    · exact k.elim
  · rename_i args argTypes
    have hargs := evs_sound S args.toList
    split at k
    · rename_i d x t t' he1 he2
      rw [he1] at hargs
      obtain ⟨ud, us1, e1, rd, r1⟩ := RepL_cons.1 hargs
      obtain ⟨ux, us2, e2, rx, r2⟩ := RepL_cons.1 r1
      rw [RepL_nil.1 r2] at e2
      subst e2
      replace k := cond_true' k
      obtain ⟨hb, k⟩ := k
      have htt := beq_eq hb
      subst htt
      have hat : argTypes = #[t, t] := by
        have := congrArg List.toArray he2
        simpa using this
      have hmap : args.map a.eval = #[ud, ux] := by rw [map_toArray, e1]
      have fin : (∃ u w', (Builtin.append_ #[t, t] type #[ud, ux]).run c.P w = .ok u w' ∧ Res c m0 w0 fx st a K u w') → Oper.wp c.P ⟨dst, .call { callee := .builtin .append, args, argTypes }, type, pos, after, guard⟩ a w next Q := by
        intro ⟨u, w', h1, h2⟩
        unfold Oper.wp
        simp only [execOp, resolve, invoke, builtin, Sem.run_bind, Sem.run_pure, Result.andThen_ok, hmap, hat, h1, Oper.upon_value]
        exact hn u w' h2 (fun q => by cases q)
      split at k
      · rename_i e ht
        split at k
        · rename_i id ver
          split at k
          · rename_i v e' s xs hh
            replace k := cond_true' k
            obtain ⟨hb, k⟩ := k
            simp only [Bool.and_eq_true] at hb
            obtain ⟨s', ys', base, cap, ds, k1, hu, q1, q2⟩ := slK_cells S rx k
            obtain ⟨hcast, hbound, k3⟩ := castK_spec k1
            cases hcast
            subst hu
            have hee := beq_eq hb.1.1.1.1.2
            subst hee
            have hvv := beq_eq hb.1.1.1.1.1
            exact fin (append_row_sound S rd hh hvv ht hb.1.1.1.2 (beq_eq hb.1.1.2) (ble_le hb.1.2) (ble_le hb.2) q1 q2 hbound k3)
          · exact k.elim
        · rename_i hnr
          replace k := cond_true' k
          obtain ⟨hnil, k⟩ := k
          split at k
          · rename_i s hs
            replace k := cond_true' k
            obtain ⟨hb, k⟩ := k
            simp only [Bool.and_eq_true] at hb
            obtain ⟨s', ys', base, cap, ds, k1, hu, q1, q2⟩ := slK_cells S rx k
            obtain ⟨hcast, hbound, k3⟩ := castK_spec k1
            cases hcast
            subst hu
            have := isNil_spec rd hnil
            subst this
            exact fin (append_nil_sound S ht hb.1.1.1 (beq_eq hb.1.1.2) (ble_le hb.1.2) (ble_le hb.2) q1 q2 hbound k3)
          · exact k.elim
      · exact k.elim
    · exact k.elim
  · rename_i f args argTypes
    have hf := ev_sound S f
    have hargs := evs_sound S args.toList
    split at k
    · rename_i g he
      rw [he] at hf
      obtain ⟨xs, ys, e1, e2, e3⟩ := hf
      rw [RepL_nil.1 e2, RepL_nil.1 e3] at e1
      refine call (callK_callable S hargs k) (callK_sound S hargs k) ?_
      simp only [execOp, resolve, Sem.run_bind, e1, Deferred.ofValue, Sem.run_pure, Result.andThen_ok, invoke]
      rw [run_callFunc (callK_callable S hargs k)]
      simp [map_toArray]
    · rename_i i out g he
      rw [he] at hf
      rcases hf with ⟨e1, e2⟩ | ⟨f', fa, fb, e1, e2, e3⟩
      · obtain ⟨x, k⟩ := decS_some S hargs k
        obtain ⟨hp, r, hr, _⟩ := after_some k
        rw [e2 x] at hr; cases hr
      · refine call (f := f') (args := fa ++ (args.toList.map a.eval).toArray ++ fb) e2 (after_sound S (X := fun x K' => gcall g x K') hargs (fun m' x K' hm hh hA hX => ?_) k) ?_
        · obtain ⟨r, hr, hK⟩ := hX
          exact ⟨fun r' => r' = r, fun r' e => by subst e; exact hK, (e3 m' w x _ r hm hh hA hr).mono fun e w' q => q.mono fun mm v hv => ⟨r, rfl, hv⟩⟩
        · simp only [execOp, resolve, Sem.run_bind, e1, Deferred.ofValue, Sem.run_pure, Result.andThen_ok, invoke]
          rw [run_callFunc e2, map_toArray]
    · exact k.elim
  · rename_i r name args argTypes
    have hr := ev_sound S r
    have hargs := evs_sound S args.toList
    have inv : ∀ {t : TypeId} {v : Value} {f : FuncId}, a.eval r = .iface t v → c.method t name = some f → Callable c.P f → (execOp a.eval ⟨dst, .call { callee := .invoke r name, args, argTypes }, type, pos, after, guard⟩).run c.P w = .ok (.enter f (v :: args.toList.map a.eval).toArray) w := by
      intro t v f he hm hc
      have hms := method_sound hm v
      simp only [execOp, resolve, Sem.run_bind, Sem.run_pure, Result.andThen_ok, invoke, he, callMethod]
      have hd : c.P.types.size + Made.depth = c.P.types.size + (Made.depth - 1) + 1 := rfl
      have h0 : (#[Value.iface t v] ++ args.map a.eval)[0]? = some (Value.iface t v) := by rw [Array.getElem?_append_left (Nat.zero_lt_one)]; rfl
      rw [h0]
      simp only [Sem.run_bind, run_program, Result.andThen_ok, hd, hms, run_callFunc hc]
      congr 2
      simp [map_toArray, List.take_of_length_le]
    split at k
    · rename_i al y he
      rw [he] at hr
      cases y with
      | none => exact k.elim
      | some y =>
        obtain ⟨t, v, e1, hI⟩ := hr
        have go : ∀ (s : Shape) (x : s.Val), (Reps c.P s).I m t x v → c.invK st name (args.toList.map (c.ev st)) K s x → ∃ (f : FuncId) (s' : Shape) (x' : s'.Val), c.method t name = some f ∧ (Reps c.P s').V m x' v ∧ c.callK st f (s'.enc0 x' :: args.toList.map (c.ev st)) K := by
          intro s
          induction s with
          | one t' s' _ =>
            intro x hI k
            obtain ⟨rfl, hV⟩ := hI
            simp only [Cfg.invK] at k
            split at k
            · rename_i f hm; exact ⟨f, s', x, hm, hV, k⟩
            · exact k.elim
          | alt t' s' r' _ ih =>
            intro x hI k
            simp only [Cfg.invK] at k
            cases x with
            | inl y =>
              obtain ⟨rfl, hV⟩ := hI
              simp only [sumK] at k
              split at k
              · rename_i f hm; exact ⟨f, s', y, hm, hV, k⟩
              · exact k.elim
            | inr y => exact ih y hI k
          | _ => intro x hI k; simp [Cfg.invK] at k
        obtain ⟨f, s', x', hm, hV, k⟩ := go al y hI k
        have hargs' : RepL c.P m (s'.enc0 x' :: args.toList.map (c.ev st)) (J st.hp bk) (v :: args.toList.map a.eval) := RepL_cons.2 ⟨_, _, rfl, Rep_enc0 s' _ hV, hargs⟩
        exact call (callK_callable S hargs' k) (callK_sound S hargs' k) (inv e1 hm (callK_callable S hargs' k))
    · rename_i t v he
      rw [he] at hr
      obtain ⟨u, e1, hu⟩ := hr
      split at k
      · rename_i f hm
        have hargs' : RepL c.P m (v :: args.toList.map (c.ev st)) (J st.hp bk) (u :: args.toList.map a.eval) := RepL_cons.2 ⟨_, _, rfl, hu, hargs⟩
        exact call (callK_callable S hargs' k) (callK_sound S hargs' k) (inv e1 hm (callK_callable S hargs' k))
      · exact k.elim
    · exact k.elim
  · exact k.elim
end
end Go.Proofs.YtjeoelajkncpcaaDoor.V
