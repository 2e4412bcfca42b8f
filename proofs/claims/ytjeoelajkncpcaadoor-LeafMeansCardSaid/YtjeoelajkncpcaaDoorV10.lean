/- Quiet operations: the model does what the condition says: all of them. No condition of its own. -/
import Derived.Test.YtjeoelajkncpcaaDoorV9
namespace Go.Proofs.YtjeoelajkncpcaaDoor.V
open Go Go.RowKit
set_option linter.unusedVariables false
set_option linter.unusedSimpArgs false

section
variable {c : Cfg} {m0 : Mem} {w0 : World} {fx : Fx} {m : Mem} {bk : List Cn} {st : St} {a : Act} {w : World}

theorem lt_help {n : Int} {len off q : Nat} (h0 : 0 ≤ n) (h1 : n < (len : Int)) (h : off + len ≤ q) : off + n.toNat < q := by omega

theorem indexAddr_sound (S : Sat c m0 w0 fx m bk st a w) {t : TypeId} {x i : Operand} {K : EV → Prop} (k : c.quiet (.indexAddr t x i) st K) : Yld false c m bk st w K (Instr.indexAt t (a.eval x) (a.eval i)) := by
  have hi := ev_sound S i
  have hx := ev_sound S x
  simp only [Cfg.quiet] at k
  split at k
  · rename_i kk n e hn hu
    rw [hn] at hi
    rw [show a.eval i = .int kk n from hi]
    split at k
    · rename_i s xs hxe
      rw [hxe] at hx
      obtain ⟨hb, ⟨h0, h1⟩, k⟩ := cond_true' k
      simp only [Bool.and_eq_true] at hb
      exact index_slice hu (beq_eq hb.1) (ble_le hb.2) hx h0 h1 k
    · rename_i id ver hxe
      rw [hxe] at hx
      split at k
      · rename_i md v e' s xs he
        obtain ⟨hb, ⟨h0, h1⟩, k⟩ := cond_true' k
        simp only [Bool.and_eq_true] at hb
        exact index_row S hu (beq_eq hb.1.1) (ble_le hb.1.2) he (beq_eq hb.2) hx h0 h1 k
      · exact k.elim
    · exact k.elim
  · rename_i kk n len e hn hu
    rw [hn] at hi
    rw [show a.eval i = .int kk n from hi]
    split at k
    · rename_i cs off hxe
      rw [hxe] at hx
      split at k
      · rename_i l hl
        obtain ⟨hb, ⟨h0, h1⟩, k⟩ := cond_true' k
        simp only [Bool.and_eq_true] at hb
        obtain ⟨b, o, us, e1, e2, e3⟩ := hx
        have h0' : (0 : Int) ≤ n := h0
        have h1' : n < (len : Int) := h1
        have hsz : c.P.cellsOf e = 1 := beq_eq hb.1
        have hlen := ble_le hb.2
        have hus := intsOf_spec hl e2
        have hll : l.length = cs.length := by rw [← RepL_length e2, hus, List.length_map]
        have hlt : off + n.toNat < l.length := lt_help h0' h1' (by rw [hll]; exact hlen)
        rw [e1]
        refine .of k ⟨b, o + (off + n.toNat), [.int .i64 (l.getD (off + n.toNat) 0)], rfl, RepL_cons.2 ⟨_, _, rfl, rfl, RepL_nil.2 rfl⟩, fun j v hj => ?_⟩ fun w' => ?_
        · cases j with
          | zero =>
            simp only [List.getElem?_cons_zero, Option.some.injEq] at hj
            subst hj
            rw [Nat.add_zero]
            refine e3 (off + n.toNat) _ ?_
            rw [hus, List.getElem?_map, List.getElem?_eq_getElem hlt, List.getD_eq_getElem?_getD, List.getElem?_eq_getElem hlt]
            rfl
          | succ j => simp at hj
        · rw [run_index_arr hu h0' h1' w' (run_sizeOf' w' (by omega)), hsz, Nat.mul_one, Nat.add_zero, Nat.add_assoc]
      · exact k.elim
    · rename_i id off hxe
      rw [hxe] at hx
      obtain ⟨hb, ⟨h0, h1⟩, k⟩ := cond_true' k
      obtain ⟨md, cs, b, q1, q2, q3⟩ := hx
      rw [q3]
      refine .of k ⟨md, cs, b, q1, q2, rfl⟩ fun w' => ?_
      rw [run_index_arr hu h0 h1 w' (run_sizeOf' w' (ble_le hb))]
      rfl
    · exact k.elim
  · exact k.elim

/-! ### A struct's literal -/

theorem zeroAt_sound (P : Program) (m : Mem) (JJ : EV → Value → Prop) (s : Shape) : ∀ {vs r : List Value}, s.zeroAt vs = some r → ∃ us, vs = us ++ r ∧ RepL P m s.zeroC JJ us := by
  induction s with
  | bool =>
    intro vs r h
    cases vs with
    | nil => simp [Shape.zeroAt] at h
    | cons v vs => cases v <;> try (simp [Shape.zeroAt] at h; done)
                   case bool b => cases b <;> simp [Shape.zeroAt] at h; subst h; exact ⟨[_], rfl, RepL_cons.2 ⟨_, _, rfl, rfl, RepL_nil.2 rfl⟩⟩
  | int k =>
    intro vs r h
    cases vs with
    | nil => simp [Shape.zeroAt] at h
    | cons v vs => cases v <;> try (simp [Shape.zeroAt] at h; done)
                   case int k' n =>
                     simp only [Shape.zeroAt] at h
                     split at h
                     · rename_i e; obtain ⟨rfl, rfl⟩ := e; cases h; exact ⟨[_], rfl, RepL_cons.2 ⟨_, _, rfl, rfl, RepL_nil.2 rfl⟩⟩
                     · cases h
  | slice s _ =>
    intro vs r h
    cases vs with
    | nil => simp [Shape.zeroAt] at h
    | cons v vs => cases v <;> try (simp [Shape.zeroAt] at h; done)
                   case slice b l q =>
                     cases b <;> cases l <;> cases q <;> simp [Shape.zeroAt] at h
                     subst h; exact ⟨[_], rfl, RepL_cons.2 ⟨_, _, rfl, rfl, RepL_nil.2 rfl⟩⟩
  | st f ih => intro vs r h; exact ih h
  | unit =>
    intro vs r h
    simp only [Shape.zeroAt, Option.some.injEq] at h
    subst h
    exact ⟨[], rfl, RepL_nil.2 rfl⟩
  | pair a b iha ihb =>
    intro vs r h
    simp only [Shape.zeroAt] at h
    cases ha : a.zeroAt vs with
    | none => rw [ha] at h; cases h
    | some q =>
      rw [ha] at h
      obtain ⟨u1, e1, r1⟩ := iha ha
      obtain ⟨u2, e2, r2⟩ := ihb h
      exact ⟨u1 ++ u2, by rw [e1, e2, List.append_assoc], RepL_append r1 r2⟩
  | tup f _ => intro vs r h; cases vs <;> simp [Shape.zeroAt] at h
  | func i o _ _ =>
    intro vs r h
    cases vs with
    | nil => simp [Shape.zeroAt] at h
    | cons v vs => cases v <;> simp [Shape.zeroAt] at h; subst h; exact ⟨[_], rfl, RepL_cons.2 ⟨_, _, rfl, rfl, RepL_nil.2 rfl⟩⟩
  | iface a _ =>
    intro vs r h
    cases vs with
    | nil => simp [Shape.zeroAt] at h
    | cons v vs => cases v <;> simp [Shape.zeroAt] at h; subst h; exact ⟨[_], rfl, RepL_cons.2 ⟨_, _, rfl, rfl, RepL_nil.2 rfl⟩⟩
  | one t s _ => intro vs r h; cases vs <;> simp [Shape.zeroAt] at h
  | alt t s r _ _ => intro vs r h; cases vs <;> simp [Shape.zeroAt] at h

theorem isNilL_spec {o : Option (List Value)} (h : isNilL o = true) : o = some [] := by
  unfold isNilL at h
  split at h
  · rfl
  · cases h

/-- A type's zero, as a value and as cells. -/
theorem zeroOK_sound {t : TypeId} {s : Shape} (JJ : EV → Value → Prop) (h : c.zeroOK t s = true) : ∃ z, (c.P.info? t).bind (·.zero) = some z ∧ RepL c.P m s.zeroC JJ z.cells.toList ∧ Rep c.P m s.zeroE JJ z := by
  unfold Cfg.zeroOK at h
  split at h
  · rename_i cs hz
    simp only [Bool.and_eq_true] at h
    obtain ⟨us, e, r⟩ := zeroAt_sound c.P m JJ s (isNilL_spec h.2)
    rw [List.append_nil] at e
    refine ⟨_, hz, by rw [show (Value.agg cs).cells = cs from rfl, e]; exact r, ?_⟩
    cases s <;> try (simp at h; done)
    exact ⟨us, by rw [← e], r⟩
  · cases h
  · rename_i z h1 h2 hz
    simp only [Bool.and_eq_true] at h
    obtain ⟨us, e, r⟩ := zeroAt_sound c.P m JJ s (isNilL_spec h.2)
    rw [List.append_nil] at e
    have hc : z.cells = #[z] := by cases z <;> first | rfl | exact absurd rfl (h1 _)
    refine ⟨_, hz, by rw [hc, show (#[z] : Array Value).toList = [z] from rfl, e]; exact r, ?_⟩
    subst e
    cases s <;> first
      | trivial
      | (simp at h; done)
      | (obtain ⟨u, us', e1, r1, r2⟩ := RepL_cons.1 r; cases e1; exact r1)
  · cases h

theorem run_zeroValue {t : TypeId} {z : Value} (h : (c.P.info? t).bind (·.zero) = some z) (w' : World) : (zeroValue t).run c.P w' = .ok z w' := by
  cases hi : c.P.info? t with
  | none => rw [hi] at h; cases h
  | some i => rw [hi] at h; simp only [Option.bind_some] at h; simp [zeroValue, typeInfo, hi, h]

/-- One value's cells: those of an aggregate, or itself. -/
theorem cells_sound (S : Sat c m0 w0 fx m bk st a w) {v : EV} {u : Value} (h : Rep c.P m v (J st.hp bk) u) (hv : oneV st v = true) : RepL c.P m v.cells (J st.hp bk) u.cells.toList ∧ (cellV st v = true → u.oneCell' = true) := by
  have one : ∀ {v : EV}, v.cells = [v] → u.cells = #[u] → u.oneCell' = true → Rep c.P m v (J st.hp bk) u → RepL c.P m v.cells (J st.hp bk) u.cells.toList ∧ (cellV st v = true → u.oneCell' = true) := by
    intro v e1 e2 e3 h
    rw [e1, e2]
    exact ⟨RepL_cons.2 ⟨u, [], rfl, h, RepL_nil.2 rfl⟩, fun _ => e3⟩
  cases v with
  | agg cs => obtain ⟨us, e, r⟩ := h; subst e; exact ⟨r, fun q => by simp [cellV] at q⟩
  | p s x =>
    cases s with
    | bool => have e : u = .bool x := h; subst e; exact one rfl rfl rfl h
    | int k => have e : u = .int k x := h; subst e; exact one rfl rfl rfl h
    | slice s => have h' := h; obtain ⟨b, q, e, _⟩ := h'; subst e; exact one rfl rfl rfl h
    | func i o => have h' := h; rcases h' with ⟨e, _⟩ | ⟨f, p, q, e, _⟩ <;> subst e <;> exact one rfl rfl rfl h
    | iface al =>
      cases x with
      | none => have e : u = .nilIface := h; subst e; exact one rfl rfl rfl h
      | some y => have h' := h; obtain ⟨t, q, e, _⟩ := h'; subst e; exact one rfl rfl rfl h
    | _ => simp [oneV] at hv
  | raw v =>
    obtain rfl : u = v := h
    cases u <;> first
      | exact one rfl rfl rfl rfl
      | (simp [oneV] at hv; done)
  | nil s => obtain rfl : u = .slice none 0 0 := h; exact one rfl rfl rfl rfl
  | ip cs off => have h' := h; obtain ⟨b, o, us, e, _⟩ := h'; subst e; exact one rfl rfl rfl h
  | clo fn p q => have h' := h; obtain ⟨us, vs, e, _⟩ := h'; subst e; exact one rfl rfl rfl h
  | ifc t q => have h' := h; obtain ⟨us, e, _⟩ := h'; subst e; exact one rfl rfl rfl h
  | box id off => have h' := h; obtain ⟨md, cs, b, _, _, e⟩ := h'; subst e; exact one rfl rfl rfl h
  | row id ver =>
    simp only [oneV] at hv
    split at hv
    · rename_i md v e s xs he
      obtain ⟨_, cs, _, ho⟩ := S.rowVal he (beq_eq hv) h
      rcases ho.2 with ⟨q, _⟩ | ⟨g, cap, cur, q, _⟩ <;> subst q <;> exact one rfl rfl rfl h
    · cases hv
  | bot => simp [oneV] at hv
  | rp _ _ _ _ => simp [oneV] at hv
  | tup _ => simp [oneV] at hv

/-! ### Cells laid over others -/

theorem foldl_laid : ∀ (vs : List Value) (cs : Array Value) (off k : Nat), off + k + vs.length ≤ cs.size →
    ((vs.zipIdx k).foldl (fun (cs : Array Value) (q : Value × Nat) => cs.setIfInBounds (off + q.2) q.1) cs).toList = cs.toList.take (off + k) ++ vs ++ cs.toList.drop (off + k + vs.length)
  | [], cs, off, k, _ => by simp
  | v :: vs, cs, off, k, h => by
    simp only [List.length_cons] at h
    rw [List.zipIdx_cons, List.foldl_cons, foldl_laid vs _ off (k + 1) (by simp; omega)]
    have hlt : off + k < cs.toList.length := by simp; omega
    simp only [Array.toList_setIfInBounds]
    rw [show off + (k + 1) = off + k + 1 by omega, show off + k + 1 + vs.length = off + k + (v :: vs).length by simp; omega]
    rw [List.take_succ_eq_append_getElem (by simpa using hlt)]
    simp only [List.getElem_set_self, List.length_cons]
    rw [List.take_set_of_le (Nat.le_refl _), List.drop_set_of_lt (by omega)]
    simp

theorem laid_sound {cs vs : List EV} {us qs : List Value} {off : Nat} {JJ : EV → Value → Prop} (h : RepL c.P m cs JJ us) (k : RepL c.P m vs JJ qs) : RepL c.P m (laid cs off vs) JJ (us.take off ++ qs ++ us.drop (off + qs.length)) := by
  unfold laid
  rw [← RepL_length k]
  exact RepL_append (RepL_append (RepL_take _ h) k) (RepL_drop _ h)

theorem place_sound {t : TypeId} {i off n : Nat} (h : c.place t i = some (off, n)) (hp : c.partsOK t = true) :
    (∃ fs f j, c.P.underlying t = some (.struct fs) ∧ fs[i]? = some f ∧ c.P.info? f.type = some j ∧ off = f.offset ∧ n = j.size) ∨
    (∃ len e j, c.P.underlying t = some (.array len e) ∧ c.P.info? e = some j ∧ off = i * j.size ∧ n = j.size) := by
  unfold Cfg.place at h
  unfold Cfg.partsOK at hp
  split at h
  · rename_i fs hu
    rw [hu] at hp
    simp only at hp
    cases hf : fs[i]? with
    | none => rw [hf] at h; cases h
    | some f =>
      rw [hf] at h
      simp only [Option.map_some, Option.some.injEq, Prod.mk.injEq] at h
      have hall := List.all_eq_true.1 hp f (by simpa using Array.mem_of_getElem? hf)
      obtain ⟨j, hj⟩ := Option.isSome_iff_exists.1 hall
      exact .inl ⟨fs, f, j, hu, hf, hj, h.1.symm, by rw [← h.2]; simp [Cfg.sizeOf, Program.cellsOf, hj]⟩
  · rename_i len e hu
    rw [hu] at hp
    simp only at hp
    obtain ⟨j, hj⟩ := Option.isSome_iff_exists.1 hp
    simp only [Option.some.injEq, Prod.mk.injEq] at h
    have : c.sizeOf e = j.size := by simp [Cfg.sizeOf, Program.cellsOf, hj]
    exact .inr ⟨len, e, j, hu, hj, by rw [← h.1, this], by rw [← h.2, this]⟩
  · cases h

theorem fill_sound (S : Sat c m0 w0 fx m bk st a w) {t : TypeId} {pl : Nat → Option (Nat × Nat)} (hpl : ∀ i off n, c.place t i = some (off, n) → pl i = some (off, n)) :
    ∀ (parts : List (Nat × EV)) (vals : List (Nat × Value)) (cs : List EV) (us : Array Value) (K : List EV → Prop), parts.length = vals.length →
      (∀ (j : Nat) i v, parts[j]? = some (i, v) → ∃ u, vals[j]? = some (i, u) ∧ Rep c.P m v (J st.hp bk) u) → RepL c.P m cs (J st.hp bk) us.toList → c.fillK st t cs parts K →
      ∃ cs' us', K cs' ∧ RepL c.P m cs' (J st.hp bk) us'.toList ∧ Instr.fill pl us vals = some us'
  | [], [], cs, us, K, _, _, h, k => ⟨cs, us, k, h, rfl⟩
  | [], _ :: _, _, _, _, h, _, _, _ => by simp at h
  | _ :: _, [], _, _, _, h, _, _, _ => by simp at h
  | (i, v) :: parts, (i', u) :: vals, cs, us, K, hl, hv, h, k => by
    obtain ⟨u', e1, hu⟩ := hv 0 i v rfl
    simp only [List.getElem?_cons_zero, Option.some.injEq, Prod.mk.injEq] at e1
    obtain ⟨rfl, rfl⟩ := e1
    simp only [Cfg.fillK] at k
    split at k
    · rename_i off n hp
      obtain ⟨hb, k⟩ := cond_true' k
      simp only [Bool.and_eq_true] at hb
      obtain ⟨r1, _⟩ := cells_sound S hu hb.1.1
      have hlen := RepL_length r1
      have hn : v.cells.length = n := beq_eq hb.1.2
      have hfit := ble_le hb.2
      have hcs := RepL_length h
      have hsz : u.cells.size = n := by rw [← hn, ← hlen]; simp
      have hbnd : off + u.cells.size ≤ us.size := by rw [hsz, ← Array.length_toList, hcs]; exact hfit
      have hfold := foldl_laid u.cells.toList us off 0 (by simpa using hbnd)
      obtain ⟨cs', us', k1, k2, k3⟩ := fill_sound S hpl parts vals (laid cs off v.cells) (u.cells.zipIdx.foldl (fun cs (q : Value × Nat) => cs.setIfInBounds (off + q.2) q.1) us) K (by simpa using hl)
        (fun j i v hj => hv (j + 1) i v (by simpa using hj)) (by
          rw [← Array.foldl_toList, Array.toList_zipIdx, hfold]
          simp only [Nat.add_zero]
          exact laid_sound h r1) k
      refine ⟨cs', us', k1, k2, ?_⟩
      simp only [Instr.fill, hpl _ _ _ hp]
      rw [if_neg (by simp [hsz]; rw [← Array.length_toList, hcs]; omega)]
      exact k3
    · exact k.elim
end
end Go.Proofs.YtjeoelajkncpcaaDoor.V
