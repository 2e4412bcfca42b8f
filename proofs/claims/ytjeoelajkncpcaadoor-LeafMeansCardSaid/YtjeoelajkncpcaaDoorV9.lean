/- Quiet operations: the model does what the condition says. No condition of its own. -/
import Derived.Test.YtjeoelajkncpcaaDoorV8
namespace Go.Proofs.YtjeoelajkncpcaaDoor.V
open Go Go.RowKit
set_option linter.unusedVariables false
set_option linter.unusedSimpArgs false

section
variable {c : Cfg} {m0 : Mem} {w0 : World} {fx : Fx} {m : Mem} {bk : List Cn} {st : St} {a : Act} {w : World}

/-- What is so of a quiet operation ('ld': it reads memory). -/
def Yld (ld : Bool) (c : Cfg) (m : Mem) (bk : List Cn) (st : St) (w : World) (K : EV → Prop) (s : Sem Value) : Prop :=
  ∃ v u, K v ∧ Rep c.P m v (J st.hp bk) u ∧ ∀ w', (ld = true → Same bk w w' ∧ Holds w' m) → s.run c.P w' = .ok u w'

theorem Yld.of {K : EV → Prop} {s : Sem Value} {v : EV} {u : Value} (h1 : K v) (h2 : Rep c.P m v (J st.hp bk) u) (h3 : ∀ w', s.run c.P w' = .ok u w') : Yld false c m bk st w K s := ⟨v, u, h1, h2, fun w' _ => h3 w'⟩

theorem pickK_sound {z : Bool} {x y : EV} {K : EV → Prop} {u1 u2 : Value} {JJ : EV → Value → Prop} (h : pickK z x y K) (h1 : Rep c.P m x JJ u1) (h2 : Rep c.P m y JJ u2) : ∃ v, K v ∧ Rep c.P m v JJ (if z = true then u1 else u2) := by
  unfold pickK at h
  split at h
  · rename_i p q
    refine ⟨_, h, ?_⟩
    cases z
    · exact h2
    · exact h1
  · cases z
    · exact ⟨_, h, h2⟩
    · exact ⟨_, h, h1⟩

theorem load_sound (S : Sat c m0 w0 fx m bk st a w) {t : TypeId} {x : EV} {u : Value} {K : EV → Prop} (hx : Rep c.P m x (J st.hp bk) u) (k : Cfg.ptK st x fun cs off => c.ldK t cs off K) :
    Yld true c m bk st w K (Instr.loadAt t u) := by
  obtain ⟨cs, off, b, o, us, k1, e1, e2, e3⟩ := ptK_sound S hx k
  subst e1
  obtain ⟨v, q, l1, l2, l3⟩ := ldK_sound (b := b) (o := o) k1 e2
  exact ⟨v, q, l1, l2, fun w' h => l3 w' (e3 w' (h rfl).1 (h rfl).2)⟩

theorem field_sound {s : TypeId} {x : EV} {u : Value} {f : Nat} {fs : Array Field} {fd : Field} {K : EV → Prop} (hx : Rep c.P m x (J st.hp bk) u) (hu : c.P.underlying s = some (.struct fs)) (hf : fs[f]? = some fd)
    (h1 : isPt st x = true) (h2 : 1 ≤ c.sizeOf fd.type) (k : K (x.fwd fd.offset)) : Yld false c m bk st w K (Instr.fieldAt s u f) := by
  obtain ⟨b, o, e1, e2⟩ := fwd_sound fd.offset hx h1
  subst e1
  obtain ⟨i, hi, hsz⟩ := cellsOf_pos h2
  have hne : i.size ≠ 0 := by rw [hsz]; exact Nat.pos_iff_ne_zero.1 h2
  refine .of k e2 fun w' => ?_
  simp [Instr.fieldAt, run_underlying hu, hf, Instr.sureAddr, fieldPlace, sizeOf, run_typeInfo w' hi, hne, add_none]

theorem part_sound {t : TypeId} {cs : List EV} {off : Nat} {K : EV → Prop} {us : List Value} {JJ : EV → Value → Prop} (k : c.ldK t cs off K) (h : RepL c.P m cs JJ us) :
    ∃ v u, K v ∧ Rep c.P m v JJ u ∧ ∀ w' : World, (part t us.toArray off).run c.P w' = .ok u w' := by
  have agg : ∀ d, c.P.underlying t = some d → d.isRow = true → off + c.sizeOf t ≤ cs.length → K (.agg ((cs.drop off).take (c.sizeOf t))) →
      ∃ v u, K v ∧ Rep c.P m v JJ u ∧ ∀ w' : World, (part t us.toArray off).run c.P w' = .ok u w' := by
    intro d hu hd hl k
    refine ⟨_, .agg ((us.drop off).take (c.sizeOf t)).toArray, k, ⟨_, rfl, RepL_take _ (RepL_drop _ h)⟩, fun w' => ?_⟩
    obtain ⟨i, hi⟩ := info_of_underlying hu
    have hagg : (isAgg t).run c.P w' = .ok true w' := by
      simp only [isAgg, Sem.run_bind, run_underlying hu, Result.andThen_ok]
      cases d <;> first | rfl | (simp [TypeDesc.isRow] at hd; done)
    have he : us.toArray.extract off (off + c.sizeOf t) = ((us.drop off).take (c.sizeOf t)).toArray := by
      simp [List.extract_eq_take_drop]
    simp only [part, Sem.run_bind, hagg, Result.andThen_ok, if_true, run_sizeOf w' hi, Sem.run_pure]
    rw [show c.P.cellsOf t = c.sizeOf t from rfl, he]
  unfold Cfg.ldK at k
  split at k
  · rename_i hu; obtain ⟨hb, k⟩ := cond_true' k; exact agg _ hu rfl (ble_le hb) k
  · rename_i hu; obtain ⟨hb, k⟩ := cond_true' k; exact agg _ hu rfl (ble_le hb) k
  · rename_i d hn1 hn2 hu
    unfold atK at k
    split at k
    · rename_i v hv
      obtain ⟨u, hu1, hu2⟩ := RepL_get h hv
      refine ⟨v, u, k, hu2, fun w' => ?_⟩
      have hagg : (isAgg t).run c.P w' = .ok false w' := by
        simp only [isAgg, Sem.run_bind, run_underlying hu, Result.andThen_ok]
        cases d <;> first | rfl | exact absurd hu (hn1 _) | exact absurd hu (hn2 _ _)
      exact run_part hagg (by simpa using hu1)
    · exact k.elim
  · exact k.elim

theorem rd_get {s : Shape} {xs : List s.Val} {n : Nat} (h : n < xs.length) : xs[n]? = some (rd s xs n) := by
  unfold rd
  rw [List.getD_eq_getElem?_getD, List.getElem?_eq_getElem h]
  rfl

/-- A row's slice value. -/
theorem Sat.rowVal (S : Sat c m0 w0 fx m bk st a w) {id ver : Nat} {md : Md} {v : Nat} {e : TypeId} {s : Shape} {xs : List s.Val} {u : Value} (he : st.hp[id]? = some (.row md v e s xs)) (hv : v = ver) (h : J st.hp bk (.row id ver) u) :
    bk[id]? = some (.row u) ∧ ∃ cs, RowRep c.P m s xs cs ∧ w.ownsRow fx.n0 e s.size u xs.length cs := by
  obtain ⟨md', v', e', s', xs', cv, h1, h2, h3, h4⟩ := h
  rw [he] at h1; cases h1
  have := h4 hv.symm
  subst this
  obtain ⟨q, q1, q2⟩ := S.ents id _ he
  rw [h2] at q1; cases q1
  obtain ⟨cs, r1, r2, _⟩ := q2
  exact ⟨h2, cs, r1, r2⟩

theorem slK_len (S : Sat c m0 w0 fx m bk st a w) {v : EV} {u : Value} {K : (s : Shape) → List s.Val → Prop} (h : Rep c.P m v (J st.hp bk) u) (k : slK st v K) :
    ∃ s xs base cap, K s xs ∧ u = .slice base xs.length cap := by
  unfold slK at k
  split at k
  · obtain ⟨base, cap, hu, _⟩ := h
    exact ⟨_, _, base, cap, k, hu⟩
  · exact ⟨_, _, none, 0, k, h⟩
  · rename_i id ver
    split at k
    · rename_i md v e s xs he
      obtain ⟨hb, k2⟩ := cond_true' k
      obtain ⟨_, cs, _, ho⟩ := S.rowVal he (Nat.eq_of_beq_eq_true hb) h
      rcases ho.2 with ⟨h1, h2⟩ | ⟨g, cap, cur, h1, _⟩
      · exact ⟨s, xs, none, 0, k2, by rw [h1, h2]⟩
      · exact ⟨s, xs, _, cap, k2, h1⟩
    · exact k.elim
  · exact k.elim

theorem beq_eq {a b : Nat} (h : Nat.beq a b = true) : a = b := Nat.eq_of_beq_eq_true h

theorem run_sizeOf' {P : Program} {t : TypeId} (w : World) (h : 1 ≤ P.cellsOf t) : (sizeOf t).run P w = .ok (P.cellsOf t) w := by
  obtain ⟨i, hi, _⟩ := cellsOf_pos h
  exact run_sizeOf w hi

theorem run_sizeOf_und {P : Program} {t : TypeId} {d : TypeDesc} (w : World) (h : P.underlying t = some d) : (sizeOf t).run P w = .ok (P.cellsOf t) w := by
  obtain ⟨i, hi⟩ := info_of_underlying h
  exact run_sizeOf w hi

theorem elem_eq {P : Program} {t e : TypeId} (h : P.underlying t = some (.slice e)) : P.elem t = e := by simp [Program.elem, h]

/-- An element's place in a slice that nobody writes. -/
theorem index_slice {t e : TypeId} {s : Shape} {xs : List s.Val} {u : Value} {k : IntKind} {n : Int} {K : EV → Prop} (hu : c.P.underlying t = some (.slice e)) (hsz : c.sizeOf e = s.size) (hpos : 1 ≤ s.size) (h : (Reps c.P (.slice s)).V m xs u)
    (h0 : 0 ≤ n) (h1 : n < (xs.length : Int)) (kk : K (.ip (s.cellsE (rd s xs n.toNat)) 0)) : Yld false c m bk st w K (Instr.indexAt t u (.int k n)) := by
  obtain ⟨base, cap, rfl, hx⟩ := h
  have hn : n.toNat < xs.length := by omega
  rcases hx with hx | ⟨b, o, rfl, hx⟩
  · subst hx; simp at hn
  · obtain ⟨us, e1, e2⟩ := hx n.toNat _ (rd_get hn)
    refine .of kk ⟨b, o + n.toNat * s.size, us, rfl, RepL_cells s _ e1, fun j v hj => e2 j v hj⟩ fun w' => ?_
    have hE : 1 ≤ c.P.cellsOf e := by rw [show c.P.cellsOf e = s.size from hsz]; exact hpos
    rw [run_indexAt_slice w' t _ _ _ _ _ (by rw [elem_eq hu]; exact hu), if_pos ⟨h0, h1⟩, elem_eq hu, run_sizeOf' w' hE]
    simp only [Result.andThen_ok, add_none, Nat.add_zero]
    rw [show c.P.cellsOf e = s.size from hsz]

theorem index_row (S : Sat c m0 w0 fx m bk st a w) {t e : TypeId} {id ver v : Nat} {md : Md} {e' : TypeId} {s : Shape} {xs : List s.Val} {u : Value} {k : IntKind} {n : Int} {K : EV → Prop} (hu : c.P.underlying t = some (.slice e)) (hsz : c.sizeOf e = s.size)
    (hpos : 1 ≤ s.size) (he : st.hp[id]? = some (.row md v e' s xs)) (hv : v = ver) (h : J st.hp bk (.row id ver) u) (h0 : 0 ≤ n) (h1 : n < (xs.length : Int)) (kk : K (.rp id ver n.toNat 0)) : Yld false c m bk st w K (Instr.indexAt t u (.int k n)) := by
  obtain ⟨hb, cs, r1, r2⟩ := S.rowVal he hv h
  have hn : n.toNat < xs.length := by omega
  rcases r2.2 with ⟨q1, q2⟩ | ⟨g, cap, cur, rfl, _⟩
  · omega
  · refine .of kk ⟨md, v, e', s, xs, _, he, hb, by omega, fun _ => ⟨g, _, cap, rfl, rfl, hn⟩⟩ fun w' => ?_
    have hE : 1 ≤ c.P.cellsOf e := by rw [show c.P.cellsOf e = s.size from hsz]; exact hpos
    rw [run_indexAt_slice w' t _ _ _ _ _ (by rw [elem_eq hu]; exact hu), if_pos ⟨h0, h1⟩, elem_eq hu, run_sizeOf' w' hE]
    simp only [Result.andThen_ok, add_none, Nat.zero_add, Nat.add_zero]
    rw [show c.P.cellsOf e = s.size from hsz]

theorem run_index_arr {t e : TypeId} {len : Nat} (hu : c.P.underlying t = some (.array len e)) {b o : Nat} {k : IntKind} {n : Int} (h0 : 0 ≤ n) (h1 : n < (len : Int)) {sz : Nat} (w' : World) (hs : (sizeOf e).run c.P w' = .ok sz w') :
    (Instr.indexAt t (.pointer (some ⟨b, o, none⟩)) (.int k n)).run c.P w' = .ok (.pointer (some ⟨b, o + n.toNat * sz, none⟩)) w' := by
  have e1 : c.P.arrayLen t = len := by simp [Program.arrayLen, hu]
  have e2 : c.P.elem t = e := by simp [Program.elem, hu]
  rw [run_indexAt_array w' t _ _ _ (by rw [e1, e2]; exact hu), if_pos ⟨h0, by rw [e1]; exact h1⟩, e2, hs]
  simp only [Result.andThen_ok, add_none]
end
end Go.Proofs.YtjeoelajkncpcaaDoor.V
