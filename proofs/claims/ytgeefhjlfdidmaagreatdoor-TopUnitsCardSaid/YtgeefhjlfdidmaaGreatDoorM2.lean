/- The calculus of the program's functions and their contracts, part 2. No condition of its own. -/
import Derived.Test.YtgeefhjlfdidmaaGreatDoorM1
import Derived.Laws.CopyRow
import Derived.Laws.Slices


/- Quiet operations: the model does what the condition says: all of them. No condition of its own. -/
namespace Go.Proofs.YtgeefhjlfdidmaaGreatDoor.V
open Go Go.RowKit
set_option linter.unusedVariables false
set_option linter.unusedSimpArgs false

section
variable {c : Cfg} {m0 : Mem} {w0 : World} {fx : Fx} {m : Mem} {bk : List Cn} {st : St} {a : Act} {w : World}

theorem lt_help {n : Int} {len off q : Nat} (h0 : 0 ≤ n) (h1 : n < (len : Int)) (h : off + len ≤ q) : off + n.toNat < q := by omega

theorem RepL_maps {P : Program} {m : Mem} {JJ : EV → Value → Prop} {α : Type} {f : α → EV} {g : α → Value} (h : ∀ a, Rep P m (f a) JJ (g a)) : ∀ {l : List α}, RepL P m (l.map f) JJ (l.map g)
  | [] => RepL_nil.2 rfl
  | a :: l => RepL_cons.2 ⟨_, _, rfl, h a, RepL_maps h⟩

theorem indexAddr_sound (S : Sat c m0 w0 fx m bk st a w) {t : TypeId} {x i : Operand} {K : EV → Prop} (k : c.quiet (.indexAddr t x i) st K) : Yld false c m bk st w K (Instr.indexAt t (a.eval x) (a.eval i)) := by
  have hi := ev_sound S i
  have hx := ev_sound S x
  simp only [Cfg.quiet] at k
  split at k
  · rename_i kk n e hn hu
    rw [hn] at hi
    rw [show a.eval i = .int kk n from hi]
    split at k
    · rename_i s xs hxe
      rw [hxe] at hx
      obtain ⟨hb, ⟨h0, h1⟩, k⟩ := cond_true' k
      simp only [Bool.and_eq_true] at hb
      exact index_slice hu (beq_eq hb.1) (ble_le hb.2) hx h0 h1 k
    · rename_i id ver hxe
      rw [hxe] at hx
      split at k
      · rename_i md v e' s xs he
        obtain ⟨hb, ⟨h0, h1⟩, k⟩ := cond_true' k
        simp only [Bool.and_eq_true] at hb
        exact index_row S hu (beq_eq hb.1.1) (ble_le hb.1.2) he (beq_eq hb.2) hx h0 h1 k
      · exact k.elim
    · exact k.elim
  · rename_i kk n len e hn hu
    rw [hn] at hi
    rw [show a.eval i = .int kk n from hi]
    split at k
    · rename_i cs off hxe
      rw [hxe] at hx
      split at k
      · rename_i l hl
        cases hb : (Nat.beq (c.sizeOf e) 1 && Nat.ble (off + len) cs.length) with
        | true =>
          rw [hb] at k
          obtain ⟨⟨h0, h1⟩, k⟩ := k
          simp only [Bool.and_eq_true] at hb
          obtain ⟨b, o, us, e1, e2, e3⟩ := hx
          have h0' : (0 : Int) ≤ n := h0
          have h1' : n < (len : Int) := h1
          have hsz : c.P.cellsOf e = 1 := beq_eq hb.1
          have hlen := ble_le hb.2
          have hus := intsOf_spec hl e2
          have hll : l.length = cs.length := by rw [← RepL_length e2, hus, List.length_map]
          have hlt : off + n.toNat < l.length := lt_help h0' h1' (by rw [hll]; exact hlen)
          rw [e1]
          refine .of k ⟨b, o + (off + n.toNat), [.int .i64 (l.getD (off + n.toNat) 0)], rfl, RepL_cons.2 ⟨_, _, rfl, rfl, RepL_nil.2 rfl⟩, fun j v hj => ?_⟩ fun w' => ?_
          · cases j with
            | zero =>
              simp only [List.getElem?_cons_zero, Option.some.injEq] at hj
              subst hj
              rw [Nat.add_zero]
              refine e3 (off + n.toNat) _ ?_
              rw [hus, List.getElem?_map, List.getElem?_eq_getElem hlt, List.getD_eq_getElem?_getD, List.getElem?_eq_getElem hlt]
              rfl
            | succ j => simp at hj
          · rw [run_index_arr hu h0' h1' w' (run_sizeOf' w' (by omega)), hsz, Nat.mul_one, Nat.add_zero, Nat.add_assoc]
        | false =>
          rw [hb] at k
          obtain ⟨hb2, k⟩ := cond_true' k
          obtain ⟨⟨h0, h1⟩, k⟩ := k
          simp only [Bool.and_eq_true] at hb2
          obtain ⟨b, o, us, e1, e2, e3⟩ := hx
          have h0' : (0 : Int) ≤ n := h0
          have h1' : n < (len : Int) := h1
          have hpos := ble_le hb2.1
          have hlen := ble_le hb2.2
          have hus := intsOf_spec hl e2
          have hll : l.length = cs.length := by rw [← RepL_length e2, hus, List.length_map]
          have key : ∀ j, j < c.sizeOf e → off + n.toNat * c.sizeOf e + j < l.length := by
            intro j hj
            rw [hll]
            have hn' : n.toNat + 1 ≤ len := (Int.toNat_lt h0').2 h1'
            have := Nat.mul_le_mul_right (c.sizeOf e) hn'
            rw [Nat.add_mul, Nat.one_mul] at this
            exact Nat.lt_of_lt_of_le (Nat.add_lt_add_left hj _) (Nat.le_trans (by rw [Nat.add_assoc]; exact Nat.add_le_add_left this off) hlen)
          rw [e1]
          refine .of k ⟨b, o + (off + n.toNat * c.sizeOf e), (List.range (c.sizeOf e)).map fun j => .int .i64 (l.getD (off + n.toNat * c.sizeOf e + j) 0), rfl, RepL_maps (f := fun j => EV.p (.int .i64) (l.getD (off + n.toNat * c.sizeOf e + j) 0)) (g := fun j => Value.int .i64 (l.getD (off + n.toNat * c.sizeOf e + j) 0)) (fun j => rfl), fun j v hj => ?_⟩ fun w' => ?_
          · rw [List.getElem?_map] at hj
            by_cases hj' : j < c.sizeOf e
            · rw [List.getElem?_range hj'] at hj
              simp only [Option.map_some, Option.some.injEq] at hj
              subst hj
              have hk := key j hj'
              rw [Nat.add_assoc]
              refine e3 (off + n.toNat * c.sizeOf e + j) _ ?_
              rw [hus, List.getElem?_map, List.getElem?_eq_getElem hk, List.getD_eq_getElem?_getD, List.getElem?_eq_getElem hk]
              rfl
            · rw [List.getElem?_eq_none (by simpa using hj')] at hj
              cases hj
          · rw [run_index_arr hu h0' h1' w' (run_sizeOf' w' hpos), Nat.add_zero, Nat.add_assoc]
            rfl
      · exact k.elim
    · rename_i id off hxe
      rw [hxe] at hx
      obtain ⟨hb, ⟨h0, h1⟩, k⟩ := cond_true' k
      obtain ⟨md, cs, b, q1, q2, q3⟩ := hx
      rw [q3]
      refine .of k ⟨md, cs, b, q1, q2, rfl⟩ fun w' => ?_
      rw [run_index_arr hu h0 h1 w' (run_sizeOf' w' (ble_le hb))]
      rfl
    · exact k.elim
  · exact k.elim

/-! ### A struct's literal -/

theorem zeroAt_sound (P : Program) (m : Mem) (JJ : EV → Value → Prop) (s : Shape) : ∀ {vs r : List Value}, s.zeroAt vs = some r → ∃ us, vs = us ++ r ∧ RepL P m s.zeroC JJ us := by
  induction s with
  | bool =>
    intro vs r h
    cases vs with
    | nil => simp [Shape.zeroAt] at h
    | cons v vs => cases v <;> try (simp [Shape.zeroAt] at h; done)
                   case bool b => cases b <;> simp [Shape.zeroAt] at h; subst h; exact ⟨[_], rfl, RepL_cons.2 ⟨_, _, rfl, rfl, RepL_nil.2 rfl⟩⟩
  | int k =>
    intro vs r h
    cases vs with
    | nil => simp [Shape.zeroAt] at h
    | cons v vs => cases v <;> try (simp [Shape.zeroAt] at h; done)
                   case int k' n =>
                     simp only [Shape.zeroAt] at h
                     split at h
                     · rename_i e; obtain ⟨rfl, rfl⟩ := e; cases h; exact ⟨[_], rfl, RepL_cons.2 ⟨_, _, rfl, rfl, RepL_nil.2 rfl⟩⟩
                     · cases h
  | slice s _ =>
    intro vs r h
    cases vs with
    | nil => simp [Shape.zeroAt] at h
    | cons v vs => cases v <;> try (simp [Shape.zeroAt] at h; done)
                   case slice b l q =>
                     cases b <;> cases l <;> cases q <;> simp [Shape.zeroAt] at h
                     subst h; exact ⟨[_], rfl, RepL_cons.2 ⟨_, _, rfl, rfl, RepL_nil.2 rfl⟩⟩
  | st f ih => intro vs r h; exact ih h
  | unit =>
    intro vs r h
    simp only [Shape.zeroAt, Option.some.injEq] at h
    subst h
    exact ⟨[], rfl, RepL_nil.2 rfl⟩
  | pair a b iha ihb =>
    intro vs r h
    simp only [Shape.zeroAt] at h
    cases ha : a.zeroAt vs with
    | none => rw [ha] at h; cases h
    | some q =>
      rw [ha] at h
      obtain ⟨u1, e1, r1⟩ := iha ha
      obtain ⟨u2, e2, r2⟩ := ihb h
      exact ⟨u1 ++ u2, by rw [e1, e2, List.append_assoc], RepL_append r1 r2⟩
  | tup f _ => intro vs r h; cases vs <;> simp [Shape.zeroAt] at h
  | func i o _ _ =>
    intro vs r h
    cases vs with
    | nil => simp [Shape.zeroAt] at h
    | cons v vs => cases v <;> simp [Shape.zeroAt] at h; subst h; exact ⟨[_], rfl, RepL_cons.2 ⟨_, _, rfl, rfl, RepL_nil.2 rfl⟩⟩
  | iface a _ =>
    intro vs r h
    cases vs with
    | nil => simp [Shape.zeroAt] at h
    | cons v vs => cases v <;> simp [Shape.zeroAt] at h; subst h; exact ⟨[_], rfl, RepL_cons.2 ⟨_, _, rfl, rfl, RepL_nil.2 rfl⟩⟩
  | one t s _ => intro vs r h; cases vs <;> simp [Shape.zeroAt] at h
  | alt t s r _ _ => intro vs r h; cases vs <;> simp [Shape.zeroAt] at h

theorem isNilL_spec {o : Option (List Value)} (h : isNilL o = true) : o = some [] := by
  unfold isNilL at h
  split at h
  · rfl
  · cases h

/-- A type's zero, as a value and as cells. -/
theorem zeroOK_sound {t : TypeId} {s : Shape} (JJ : EV → Value → Prop) (h : c.zeroOK t s = true) : ∃ z, (c.P.info? t).bind (·.zero) = some z ∧ RepL c.P m s.zeroC JJ z.cells.toList ∧ Rep c.P m s.zeroE JJ z := by
  unfold Cfg.zeroOK at h
  split at h
  · rename_i cs hz
    simp only [Bool.and_eq_true] at h
    obtain ⟨us, e, r⟩ := zeroAt_sound c.P m JJ s (isNilL_spec h.2)
    rw [List.append_nil] at e
    refine ⟨_, hz, by rw [show (Value.agg cs).cells = cs from rfl, e]; exact r, ?_⟩
    cases s <;> try (simp at h; done)
    exact ⟨us, by rw [← e], r⟩
  · cases h
  · rename_i z h1 h2 hz
    simp only [Bool.and_eq_true] at h
    obtain ⟨us, e, r⟩ := zeroAt_sound c.P m JJ s (isNilL_spec h.2)
    rw [List.append_nil] at e
    have hc : z.cells = #[z] := by cases z <;> first | rfl | exact absurd rfl (h1 _)
    refine ⟨_, hz, by rw [hc, show (#[z] : Array Value).toList = [z] from rfl, e]; exact r, ?_⟩
    subst e
    cases s <;> first
      | trivial
      | (simp at h; done)
      | (obtain ⟨u, us', e1, r1, r2⟩ := RepL_cons.1 r; cases e1; exact r1)
  · cases h

theorem run_zeroValue {t : TypeId} {z : Value} (h : (c.P.info? t).bind (·.zero) = some z) (w' : World) : (zeroValue t).run c.P w' = .ok z w' := by
  cases hi : c.P.info? t with
  | none => rw [hi] at h; cases h
  | some i => rw [hi] at h; simp only [Option.bind_some] at h; simp [zeroValue, typeInfo, hi, h]

/-- One value's cells: those of an aggregate, or itself. -/
theorem cells_sound (S : Sat c m0 w0 fx m bk st a w) {v : EV} {u : Value} (h : Rep c.P m v (J st.hp bk) u) (hv : oneV st v = true) : RepL c.P m v.cells (J st.hp bk) u.cells.toList ∧ (cellV st v = true → u.oneCell' = true) := by
  have one : ∀ {v : EV}, v.cells = [v] → u.cells = #[u] → u.oneCell' = true → Rep c.P m v (J st.hp bk) u → RepL c.P m v.cells (J st.hp bk) u.cells.toList ∧ (cellV st v = true → u.oneCell' = true) := by
    intro v e1 e2 e3 h
    rw [e1, e2]
    exact ⟨RepL_cons.2 ⟨u, [], rfl, h, RepL_nil.2 rfl⟩, fun _ => e3⟩
  cases v with
  | agg cs => obtain ⟨us, e, r⟩ := h; subst e; exact ⟨r, fun q => by simp [cellV] at q⟩
  | p s x =>
    cases s with
    | bool => have e : u = .bool x := h; subst e; exact one rfl rfl rfl h
    | int k => have e : u = .int k x := h; subst e; exact one rfl rfl rfl h
    | slice s => have h' := h; obtain ⟨b, q, e, _⟩ := h'; subst e; exact one rfl rfl rfl h
    | func i o => have h' := h; rcases h' with ⟨e, _⟩ | ⟨f, p, q, e, _⟩ <;> subst e <;> exact one rfl rfl rfl h
    | iface al =>
      cases x with
      | none => have e : u = .nilIface := h; subst e; exact one rfl rfl rfl h
      | some y => have h' := h; obtain ⟨t, q, e, _⟩ := h'; subst e; exact one rfl rfl rfl h
    | _ => simp [oneV] at hv
  | raw v =>
    obtain rfl : u = v := h
    cases u <;> first
      | exact one rfl rfl rfl rfl
      | (simp [oneV] at hv; done)
  | nil s => obtain rfl : u = .slice none 0 0 := h; exact one rfl rfl rfl rfl
  | ip cs off => have h' := h; obtain ⟨b, o, us, e, _⟩ := h'; subst e; exact one rfl rfl rfl h
  | clo fn p q => have h' := h; obtain ⟨us, vs, e, _⟩ := h'; subst e; exact one rfl rfl rfl h
  | ifc t q => have h' := h; obtain ⟨us, e, _⟩ := h'; subst e; exact one rfl rfl rfl h
  | box id off => have h' := h; obtain ⟨_, b, _, _, _, e⟩ := h'; subst e; exact one rfl rfl rfl h
  | row id ver =>
    simp only [oneV] at hv
    split at hv
    · rename_i md v e s xs he
      obtain ⟨_, cs, _, ho⟩ := S.rowVal he (beq_eq hv) h
      rcases ho.2 with ⟨q, _⟩ | ⟨g, cap, cur, q, _⟩ <;> subst q <;> exact one rfl rfl rfl h
    · cases hv
  | bot => simp [oneV] at hv
  | rp _ _ _ _ => simp [oneV] at hv
  | tup _ => simp [oneV] at hv

/-! ### Cells laid over others -/

theorem foldl_laid : ∀ (vs : List Value) (cs : Array Value) (off k : Nat), off + k + vs.length ≤ cs.size →
    ((vs.zipIdx k).foldl (fun (cs : Array Value) (q : Value × Nat) => cs.setIfInBounds (off + q.2) q.1) cs).toList = cs.toList.take (off + k) ++ vs ++ cs.toList.drop (off + k + vs.length)
  | [], cs, off, k, _ => by simp
  | v :: vs, cs, off, k, h => by
    simp only [List.length_cons] at h
    rw [List.zipIdx_cons, List.foldl_cons, foldl_laid vs _ off (k + 1) (by simp; omega)]
    have hlt : off + k < cs.toList.length := by simp; omega
    simp only [Array.toList_setIfInBounds]
    rw [show off + (k + 1) = off + k + 1 by omega, show off + k + 1 + vs.length = off + k + (v :: vs).length by simp; omega]
    rw [List.take_succ_eq_append_getElem (by simpa using hlt)]
    simp only [List.getElem_set_self, List.length_cons]
    rw [List.take_set_of_le (Nat.le_refl _), List.drop_set_of_lt (by omega)]
    simp

theorem laid_sound {cs vs : List EV} {us qs : List Value} {off : Nat} {JJ : EV → Value → Prop} (h : RepL c.P m cs JJ us) (k : RepL c.P m vs JJ qs) : RepL c.P m (laid cs off vs) JJ (us.take off ++ qs ++ us.drop (off + qs.length)) := by
  unfold laid
  rw [← RepL_length k]
  exact RepL_append (RepL_append (RepL_take _ h) k) (RepL_drop _ h)

theorem place_sound {t : TypeId} {i off n : Nat} (h : c.place t i = some (off, n)) (hp : c.partsOK t = true) :
    (∃ fs f j, c.P.underlying t = some (.struct fs) ∧ fs[i]? = some f ∧ c.P.info? f.type = some j ∧ off = f.offset ∧ n = j.size) ∨
    (∃ len e j, c.P.underlying t = some (.array len e) ∧ c.P.info? e = some j ∧ off = i * j.size ∧ n = j.size) := by
  unfold Cfg.place at h
  unfold Cfg.partsOK at hp
  split at h
  · rename_i fs hu
    rw [hu] at hp
    simp only at hp
    cases hf : fs[i]? with
    | none => rw [hf] at h; cases h
    | some f =>
      rw [hf] at h
      simp only [Option.map_some, Option.some.injEq, Prod.mk.injEq] at h
      have hall := List.all_eq_true.1 hp f (by simpa using Array.mem_of_getElem? hf)
      obtain ⟨j, hj⟩ := Option.isSome_iff_exists.1 hall
      exact .inl ⟨fs, f, j, hu, hf, hj, h.1.symm, by rw [← h.2]; simp [Cfg.sizeOf, Program.cellsOf, hj]⟩
  · rename_i len e hu
    rw [hu] at hp
    simp only at hp
    obtain ⟨j, hj⟩ := Option.isSome_iff_exists.1 hp
    simp only [Option.some.injEq, Prod.mk.injEq] at h
    have : c.sizeOf e = j.size := by simp [Cfg.sizeOf, Program.cellsOf, hj]
    exact .inr ⟨len, e, j, hu, hj, by rw [← h.1, this], by rw [← h.2, this]⟩
  · cases h

theorem fill_sound (S : Sat c m0 w0 fx m bk st a w) {t : TypeId} {pl : Nat → Option (Nat × Nat)} (hpl : ∀ i off n, c.place t i = some (off, n) → pl i = some (off, n)) :
    ∀ (parts : List (Nat × EV)) (vals : List (Nat × Value)) (cs : List EV) (us : Array Value) (K : List EV → Prop), parts.length = vals.length →
      (∀ (j : Nat) i v, parts[j]? = some (i, v) → ∃ u, vals[j]? = some (i, u) ∧ Rep c.P m v (J st.hp bk) u) → RepL c.P m cs (J st.hp bk) us.toList → c.fillK st t cs parts K →
      ∃ cs' us', K cs' ∧ RepL c.P m cs' (J st.hp bk) us'.toList ∧ Instr.fill pl us vals = some us'
  | [], [], cs, us, K, _, _, h, k => ⟨cs, us, k, h, rfl⟩
  | [], _ :: _, _, _, _, h, _, _, _ => by simp at h
  | _ :: _, [], _, _, _, h, _, _, _ => by simp at h
  | (i, v) :: parts, (i', u) :: vals, cs, us, K, hl, hv, h, k => by
    obtain ⟨u', e1, hu⟩ := hv 0 i v rfl
    simp only [List.getElem?_cons_zero, Option.some.injEq, Prod.mk.injEq] at e1
    obtain ⟨rfl, rfl⟩ := e1
    simp only [Cfg.fillK] at k
    split at k
    · rename_i off n hp
      obtain ⟨hb, k⟩ := cond_true' k
      simp only [Bool.and_eq_true] at hb
      obtain ⟨r1, _⟩ := cells_sound S hu hb.1.1
      have hlen := RepL_length r1
      have hn : v.cells.length = n := beq_eq hb.1.2
      have hfit := ble_le hb.2
      have hcs := RepL_length h
      have hsz : u.cells.size = n := by rw [← hn, ← hlen]; simp
      have hbnd : off + u.cells.size ≤ us.size := by rw [hsz, ← Array.length_toList, hcs]; exact hfit
      have hfold := foldl_laid u.cells.toList us off 0 (by simpa using hbnd)
      obtain ⟨cs', us', k1, k2, k3⟩ := fill_sound S hpl parts vals (laid cs off v.cells) (u.cells.zipIdx.foldl (fun cs (q : Value × Nat) => cs.setIfInBounds (off + q.2) q.1) us) K (by simpa using hl)
        (fun j i v hj => hv (j + 1) i v (by simpa using hj)) (by
          rw [← Array.foldl_toList, Array.toList_zipIdx, hfold]
          simp only [Nat.add_zero]
          exact laid_sound h r1) k
      refine ⟨cs', us', k1, k2, ?_⟩
      simp only [Instr.fill, hpl _ _ _ hp]
      rw [if_neg (by simp [hsz]; rw [← Array.length_toList, hcs]; omega)]
      exact k3
    · exact k.elim
end
end Go.Proofs.YtgeefhjlfdidmaaGreatDoor.V


/- Quiet operations: every one that the condition lets through does what it says. No condition of its own. -/
namespace Go.Proofs.YtgeefhjlfdidmaaGreatDoor.V
open Go Go.RowKit
set_option linter.unusedVariables false
set_option linter.unusedSimpArgs false

section
variable {c : Cfg} {m0 : Mem} {w0 : World} {fx : Fx} {m : Mem} {bk : List Cn} {st : St} {a : Act} {w : World}

theorem map_toArray {α β : Type} (f : α → β) (x : Array α) : x.map f = (x.toList.map f).toArray := by
  rw [← Array.toList_map, Array.toArray_toList]

/-- What is so of a quiet operation, as the machine carries it out. -/
def YldN (ld : Bool) (c : Cfg) (m : Mem) (bk : List Cn) (st : St) (w : World) (K : EV → Prop) (s : Sem Next) : Prop :=
  ∃ v u, K v ∧ Rep c.P m v (J st.hp bk) u ∧ ∀ w', (ld = true → Same bk w w' ∧ Holds w' m) → s.run c.P w' = .ok (.value u) w'

theorem Yld.next {ld : Bool} {K : EV → Prop} {s : Sem Value} (h : Yld ld c m bk st w K s) : YldN ld c m bk st w K (do pure (.value (← s))) := by
  obtain ⟨v, u, h1, h2, h3⟩ := h
  exact ⟨v, u, h1, h2, fun w' hw => by simp only [Sem.run_bind, h3 w' hw, Result.andThen_ok, Sem.run_pure]⟩

theorem run_makeInterface' {P : Program} {t : TypeId} {d : TypeDesc} {x : Value} (w : World) (hu : P.underlying t = some d) (hd : ∀ ms, d ≠ .interface ms) : (Instr.makeInterface t x).run P w = .ok (.iface t x) w := by
  cases d <;> first | exact absurd rfl (hd _) | simp [Instr.makeInterface, run_underlying hu]

/-- A type assertion with two results. -/
theorem altK_sound {t : TypeId} {K : EV → Prop} {B : Prop} {JJ : EV → Value → Prop} : ∀ (s : Shape) (x : s.Val) (t' : Nat) (u : Value), (Reps c.P s).I m t' x u → altK s x t K B → (t' = t ∧ ∃ v, K v ∧ Rep c.P m v JJ u) ∨ (t' ≠ t ∧ B)
  | .one t0 s, x, t', u, h, k => by
    obtain ⟨e, h⟩ := h
    subst e
    simp only [altK] at k
    rcases cond_spec k with ⟨hb, k⟩ | ⟨hb, k⟩
    · exact .inl ⟨beq_eq hb, _, k, Rep_enc0 s JJ h⟩
    · exact .inr ⟨fun e => by subst e; simp at hb, k⟩
  | .alt t0 s r, x, t', u, h, k => by
    simp only [altK] at k
    cases x with
    | inl y =>
      obtain ⟨e, h⟩ := h
      subst e
      rcases cond_spec k with ⟨hb, k⟩ | ⟨hb, k⟩
      · exact .inl ⟨beq_eq hb, _, k, Rep_enc0 s JJ h⟩
      · exact .inr ⟨fun e => by subst e; simp at hb, k⟩
    | inr y => exact altK_sound r y t' u h k
  | .bool, _, _, _, _, k => k.elim
  | .int _, _, _, _, _, k => k.elim
  | .slice _, _, _, _, _, k => k.elim
  | .st _, _, _, _, _, k => k.elim
  | .unit, _, _, _, _, k => k.elim
  | .pair _ _, _, _, _, _, k => k.elim
  | .tup _, _, _, _, _, k => k.elim
  | .func _ _, _, _, _, _, k => k.elim
  | .iface _, _, _, _, _, k => k.elim

theorem run_assert_ok {P : Program} {t xt : TypeId} {d : TypeDesc} {v : Value} (w : World) (hu : P.underlying t = some d) (hd : ∀ ms, d ≠ .interface ms) (ok : Bool) :
    (Instr.typeAssert (.iface t v) xt t ok).run P w = .ok (if ok = true then .tuple #[v, .bool true] else v) w := by
  cases d <;> first | exact absurd rfl (hd _) | (cases ok <;> simp [Instr.typeAssert, run_underlying hu])

theorem run_assert_no {P : Program} {t t' xt : TypeId} {d : TypeDesc} {v z : Value} (w : World) (hu : P.underlying t = some d) (hd : ∀ ms, d ≠ .interface ms) (hn : t' ≠ t) (hz : (zeroValue t).run P w = .ok z w) :
    (Instr.typeAssert (.iface t' v) xt t true).run P w = .ok (.tuple #[z, .bool false]) w := by
  cases d <;> first | exact absurd rfl (hd _) | simp [Instr.typeAssert, run_underlying hu, hn, hz]

theorem run_assert_nil {P : Program} {t xt : TypeId} {d : TypeDesc} {z : Value} (w : World) (hu : P.underlying t = some d) (hd : ∀ ms, d ≠ .interface ms) (hz : (zeroValue t).run P w = .ok z w) :
    (Instr.typeAssert .nilIface xt t true).run P w = .ok (.tuple #[z, .bool false]) w := by
  cases d <;> first | exact absurd rfl (hd _) | simp [Instr.typeAssert, run_underlying hu, hz]

theorem pair_rep {v : EV} {u : Value} {b : Bool} {JJ : EV → Value → Prop} (h : Rep c.P m v JJ u) : Rep c.P m (.tup [v, .p .bool b]) JJ (.tuple #[u, .bool b]) :=
  ⟨[u, .bool b], rfl, RepL_cons.2 ⟨_, _, rfl, h, RepL_cons.2 ⟨_, _, rfl, rfl, RepL_nil.2 rfl⟩⟩⟩

theorem mxE_sound {f : Int → Int → Int} {g : Value → Value → Sem Value} (hg : ∀ k p q (w : World), (g (.int k p) (.int k q)).run c.P w = .ok (.int k (f p q)) w) {JJ : EV → Value → Prop} : ∀ (r : List EV) (us : List Value) (v : EV) (u : Value) (K : EV → Prop),
    Rep c.P m v JJ u → RepL c.P m r JJ us → mxE f v r K → ∃ e q, K e ∧ Rep c.P m e JJ q ∧ ∀ w : World, (us.foldlM g u).run c.P w = .ok q w
  | [], us, v, u, K, h, hr, k => by
    rw [RepL_nil.1 hr]
    simp only [mxE] at k
    exact ⟨v, u, k, h, fun w => rfl⟩
  | x :: r, us, v, u, K, h, hr, k => by
    obtain ⟨u2, us', rfl, h1, h2⟩ := RepL_cons.1 hr
    have hs : ∃ kk p q, v = .p (.int kk) p ∧ x = .p (.int kk) q ∧ mxE f (.p (.int kk) (f p q)) r K := by
      cases v with
      | p s p' =>
        cases s with
        | int k1 =>
          cases x with
          | p s' q' =>
            cases s' with
            | int k2 =>
              simp only [mxE] at k
              split at k
              · rename_i e; subst e; exact ⟨_, _, _, rfl, rfl, k⟩
              · simp [mxE] at k
            | _ => simp [mxE] at k
          | _ => simp [mxE] at k
        | _ => simp [mxE] at k
      | _ => simp [mxE] at k
    obtain ⟨kk, p, q, rfl, rfl, k2⟩ := hs
    obtain rfl : u = .int kk p := h
    obtain rfl : u2 = .int kk q := h1
    obtain ⟨e, s, l1, l2, l3⟩ := mxE_sound hg r us' (.p (.int kk) (f p q)) (.int kk (f p q)) K rfl h2 k2
    exact ⟨e, s, l1, l2, fun w => by simp only [List.foldlM_cons, Sem.run_bind, hg, Result.andThen_ok, l3 w]⟩

theorem RepL_cst {JJ : EV → Value → Prop} : ∀ l : List Value, RepL c.P m (l.map cst) JJ l
  | [] => RepL_nil.2 rfl
  | v :: r => RepL_cons.2 ⟨v, r, rfl, cst_rep v _, RepL_cst r⟩

theorem build_sound (S : Sat c m0 w0 fx m bk st a w) {dst : Option Nat} {type : TypeId} {pos : String} {after : Array Edge} {guard : Option (Nat × Bool)} {t : TypeId} {parts : Array (Nat × Operand)} {K : EV → Prop} {d : TypeDesc} (hu : c.P.underlying t = some d) {z : Value} (hz : (c.P.info? t).bind (·.zero) = some z) {zc : List EV} (hzr : RepL c.P m zc (J st.hp bk) z.cells.toList)
    (hp : c.partsOK t = true) (k : c.fillK st t zc (parts.toList.map fun q => (q.1, c.ev st q.2)) fun cs => K (.agg cs)) : YldN false c m bk st w K (execOp a.eval ⟨dst, .build t parts, type, pos, after, guard⟩) := by
  have hlen : (parts.toList.map fun q => (q.1, c.ev st q.2)).length = (parts.toList.map fun q => (q.1, a.eval q.2)).length := by simp
  have hval : ∀ (j : Nat) i v, (parts.toList.map fun q => (q.1, c.ev st q.2))[j]? = some (i, v) → ∃ u, (parts.toList.map fun q => (q.1, a.eval q.2))[j]? = some (i, u) ∧ Rep c.P m v (J st.hp bk) u := by
    intro j i v hj
    rw [List.getElem?_map] at hj
    cases hq : parts.toList[j]? with
    | none => rw [hq] at hj; cases hj
    | some q =>
      rw [hq] at hj
      simp only [Option.map_some, Option.some.injEq, Prod.mk.injEq] at hj
      obtain ⟨rfl, rfl⟩ := hj
      exact ⟨a.eval q.2, by rw [List.getElem?_map, hq]; rfl, ev_sound S q.2⟩
  have main : ∀ (pl : Nat → Option (Nat × Nat)), (∀ i off n, c.place t i = some (off, n) → pl i = some (off, n)) → ∃ cs' us', K (.agg cs') ∧ RepL c.P m cs' (J st.hp bk) us'.toList ∧ Instr.fill pl z.cells (parts.toList.map fun q => (q.1, a.eval q.2)) = some us' :=
    fun pl hpl => fill_sound S hpl _ _ _ _ _ hlen hval hzr k
  have hmap : (parts.map fun q => (q.1, a.eval q.2)).toList = parts.toList.map fun q => (q.1, a.eval q.2) := by simp
  have fin : ∀ us', (∃ cs', K (.agg cs') ∧ RepL c.P m cs' (J st.hp bk) us'.toList) → c.P.built t (parts.toList.map fun q => (q.1, a.eval q.2)) = some us' → YldN false c m bk st w K (execOp a.eval ⟨dst, .build t parts, type, pos, after, guard⟩) := by
    intro us' ⟨cs', k1, k2⟩ hbt
    refine ⟨_, .agg us', k1, ⟨us'.toList, by simp, k2⟩, fun w' _ => ?_⟩
    have := run_build (P := c.P) w' t (parts.map fun q => (q.1, a.eval q.2)) us' (by rw [hmap]; exact hbt)
    simp only [execOp, Sem.run_bind, this, Result.andThen_ok, Sem.run_pure]
  cases hi : c.P.info? t with
  | none => rw [hi] at hz; cases hz
  | some it =>
    rw [hi] at hz
    simp only [Option.bind_some] at hz
    cases d with
    | struct fs =>
      have hall : ∀ f ∈ fs.toList, ∃ j, c.P.info? f.type = some j := by
        unfold Cfg.partsOK at hp
        rw [hu] at hp
        exact fun f hf => Option.isSome_iff_exists.1 (List.all_eq_true.1 hp f hf)
      have hm : ∃ places, fs.toList.mapM (fun f => (c.P.info? f.type).map fun i => (f.offset, i.size)) = some places ∧ ∀ (i : Nat) (f : Field) j, fs.toList[i]? = some f → c.P.info? f.type = some j → places[i]? = some (f.offset, j.size) := by
        clear hu hval hlen main fin hmap hp k
        generalize fs.toList = l at hall
        induction l with
        | nil => exact ⟨[], rfl, fun i f j h => by simp at h⟩
        | cons f l ih =>
          obtain ⟨j, hj⟩ := hall f (by simp)
          obtain ⟨pl, h1, h2⟩ := ih (fun f hf => hall f (by simp [hf]))
          refine ⟨(f.offset, j.size) :: pl, by simp [List.mapM_cons, hj, h1], fun i g j' hg hj' => ?_⟩
          cases i with
          | zero => simp at hg; subst hg; rw [hj] at hj'; cases hj'; rfl
          | succ i => simp at hg; simpa using h2 i g j' hg hj'
      obtain ⟨places, hp1, hp2⟩ := hm
      obtain ⟨cs', us', k1, k2, k3⟩ := main (places.toArray[·]?) (fun i off n hq => by
        rcases place_sound hq hp with ⟨fs', f, j, q1, q2, q3, rfl, rfl⟩ | ⟨len, e, j, q1, _⟩
        · rw [hu] at q1; cases q1
          simpa using hp2 i f j (by simpa using q2) q3
        · rw [hu] at q1; cases q1)
      exact fin us' ⟨cs', k1, k2⟩ (by simp only [Program.built, hi, hu, hz, hp1, k3])
    | array len e =>
      have he : ∃ j, c.P.info? e = some j := by
        unfold Cfg.partsOK at hp
        rw [hu] at hp
        exact Option.isSome_iff_exists.1 hp
      obtain ⟨ie, hie⟩ := he
      obtain ⟨cs', us', k1, k2, k3⟩ := main (fun i => some (i * ie.size, ie.size)) (fun i off n hq => by
        rcases place_sound hq hp with ⟨fs', f, j, q1, _⟩ | ⟨len, e', j, q1, q2, rfl, rfl⟩
        · rw [hu] at q1; cases q1
        · rw [hu] at q1; cases q1
          rw [hie] at q2; cases q2; rfl)
      exact fin us' ⟨cs', k1, k2⟩ (by simp only [Program.built, hi, hu, hz, hie, k3])
    | _ => unfold Cfg.partsOK at hp; rw [hu] at hp; cases hp

theorem quiet_sound (S : Sat c m0 w0 fx m bk st a w) (o : Oper) {K : EV → Prop} (k : c.quiet o.op st K) : YldN (isLoad o.op) c m bk st w K (execOp a.eval o) := by
  obtain ⟨dst, op, type, pos, after, guard⟩ := o
  dsimp only at k
  cases op with
  | move x => exact ⟨_, _, k, ev_sound S x, fun w' _ => by simp [execOp]⟩
  | assign x => exact ⟨_, _, k, ev_sound S x, fun w' _ => by simp [execOp]⟩
  | pick b x y =>
    have hb := ev_sound S b
    simp only [Cfg.quiet] at k
    split at k
    · rename_i z he
      rw [he] at hb
      have hb' : a.eval b = .bool z := hb
      obtain ⟨v, k1, k2⟩ := pickK_sound k (ev_sound S x) (ev_sound S y)
      exact ⟨v, _, k1, k2, fun w' _ => by simp [execOp, hb', asBool]⟩
    · exact k.elim
  | load t x => exact (load_sound S (ev_sound S x) k).next
  | fieldAddr s x f =>
    simp only [Cfg.quiet] at k
    split at k
    · rename_i fs hu
      split at k
      · rename_i fd hf
        obtain ⟨hb, k⟩ := cond_true' k
        simp only [Bool.and_eq_true] at hb
        exact (field_sound (ev_sound S x) hu hf hb.1 (ble_le hb.2) k).next
      · exact k.elim
    · exact k.elim
  | field t x f =>
    have hx := ev_sound S x
    simp only [Cfg.quiet] at k
    split at k
    · rename_i cs fs he hu
      rw [he] at hx
      obtain ⟨us, e1, e2⟩ := hx
      split at k
      · rename_i fd hf
        obtain ⟨v, q, k1, k2, k3⟩ := part_sound k e2
        refine ⟨v, q, k1, k2, fun w' _ => ?_⟩
        simp [execOp, Instr.field, run_underlying hu, hf, e1, asAgg, k3 w']
      · exact k.elim
    · exact k.elim
  | indexAddr t x i => exact (indexAddr_sound S k).next
  | index t x i =>
    have hx := ev_sound S x
    have hi := ev_sound S i
    simp only [Cfg.quiet] at k
    split at k
    · rename_i kk n len e cs hn hu he
      rw [hn] at hi
      rw [he] at hx
      have hi' : a.eval i = .int kk n := hi
      obtain ⟨us, e1, e2⟩ := hx
      split at k
      · rename_i l k2 hl hue
        obtain ⟨hb, ⟨h0, h1⟩, k⟩ := cond_true' k
        simp only [Bool.and_eq_true] at hb
        have h0' : (0 : Int) ≤ n := h0
        have h1' : n < (len : Int) := h1
        have hsz : c.P.cellsOf e = 1 := beq_eq hb.1
        have hlen : len = cs.length := beq_eq hb.2
        have hus := intsOf_spec hl e2
        have hll : l.length = cs.length := by rw [← RepL_length e2, hus, List.length_map]
        have hlt : n.toNat < l.length := by have := lt_help (off := 0) h0' h1' (q := l.length) (by omega); simpa using this
        refine ⟨_, .int .i64 (l.getD n.toNat 0), k, rfl, fun w' _ => ?_⟩
        have hagg : (isAgg e).run c.P w' = .ok false w' := by simp [isAgg, run_underlying hue]
        have hg : us.toArray[n.toNat * c.P.cellsOf e]? = some (.int .i64 (l.getD n.toNat 0)) := by
          rw [hsz, Nat.mul_one, hus]
          simp only [List.getElem?_toArray, List.getElem?_map, List.getElem?_eq_getElem hlt, List.getD_eq_getElem?_getD]
          rfl
        have hp := run_part hagg hg
        simp only [execOp, Sem.run_bind, Instr.index, hi', asIntOf, Sem.run_pure, Result.andThen_ok, run_underlying hu, e1, Sem.run_ite, if_pos (And.intro h0' h1'), run_sizeOf' w' (show 1 ≤ c.P.cellsOf e by omega), hp]
      · exact k.elim
    · rename_i kk n b hn hu he
      rw [hn] at hi
      rw [he] at hx
      have hi' : a.eval i = .int kk n := hi
      have hx' : a.eval x = .string b := hx
      obtain ⟨⟨h0, h1⟩, k⟩ := k
      have h0' : (0 : Int) ≤ n := h0
      have h1' : n < ((b.size : Nat) : Int) := h1
      have hlt : Int.toNat n < b.size := (Int.toNat_lt h0').2 h1'
      have hg : b[n.toNat]? = some b[n.toNat] := by simp [hlt]
      refine ⟨_, .int .u8 b[n.toNat].toNat, k, ?_, fun w' _ => ?_⟩
      · show Value.int .u8 _ = Value.int .u8 _
        have hd : n.toNat < b.data.toList.length := by simpa using hlt
        have : ((b.data.toList.map UInt8.toNat).getD n.toNat 0) = b[n.toNat].toNat := by
          rw [List.getD_eq_getElem?_getD, List.getElem?_map, List.getElem?_eq_getElem hd]
          rfl
        rw [this]
      · simp only [execOp, Sem.run_bind, Instr.index, hi', asIntOf, Sem.run_pure, Result.andThen_ok, run_underlying hu, hx', if_pos h0', hg]
    · exact k.elim
  | extract t i =>
    have hx := ev_sound S t
    simp only [Cfg.quiet] at k
    split at k
    · rename_i vs he
      rw [he] at hx
      obtain ⟨us, e1, e2⟩ := hx
      unfold atK at k
      split at k
      · rename_i v hv
        obtain ⟨u, q1, q2⟩ := RepL_get e2 hv
        refine ⟨v, u, k, q2, fun w' _ => ?_⟩
        simp [execOp, Instr.extract, e1, q1]
      · exact k.elim
    · exact k.elim
  | binOp op t x y yt =>
    obtain ⟨v, u, k1, k2, k3⟩ := bin_sound k (ev_sound S x) (ev_sound S y) x
    refine ⟨v, u, k1, k2, fun w' _ => ?_⟩
    have := k3 w'
    simp only [execOp, Sem.run_bind] at this ⊢
    rw [this]
    simp
  | unOp op t x =>
    have hx := ev_sound S x
    simp only [Cfg.quiet] at k
    split at k
    · rename_i p he
      rw [he] at hx
      have hx' : a.eval x = .bool p := hx
      exact ⟨_, _, k, rfl, fun w' _ => by simp [execOp, hx', Op.unary]⟩
    · rename_i kk n he
      rw [he] at hx
      have hx' : a.eval x = .int kk n := hx
      exact ⟨_, _, k, rfl, fun w' _ => by simp [execOp, hx', Op.unary, Op.intArith]⟩
    · rename_i kk n he
      rw [he] at hx
      have hx' : a.eval x = .int kk n := hx
      exact ⟨_, _, k, rfl, fun w' _ => by simp [execOp, hx', Op.unary, Op.intBits]⟩
    · exact k.elim
  | convert q d x =>
    have hx := ev_sound S x
    simp only [Cfg.quiet] at k
    split at k
    · rename_i k1 k2 n hu he
      rw [he] at hx
      have hx' : a.eval x = .int k2 n := hx
      obtain ⟨hb, k⟩ := cond_true' k
      obtain ⟨dq, hq⟩ := Option.isSome_iff_exists.1 hb
      exact ⟨_, _, k, rfl, fun w' _ => by simp [execOp, convert, run_underlying hq, run_underlying hu, hx', Conv.intToInt]⟩
    · exact k.elim
  | build t parts =>
    simp only [Cfg.quiet] at k
    split at k
    · rename_i f d hs hu
      obtain ⟨hb, k⟩ := cond_true' k
      simp only [Bool.and_eq_true] at hb
      obtain ⟨z, hz, hzr, _⟩ := zeroOK_sound (m := m) (J st.hp bk) hb.1
      exact build_sound S hu hz hzr hb.2 k
    · rename_i d hs hu
      split at k
      · rename_i zs hz
        obtain ⟨hb, k⟩ := cond_true' k
        exact build_sound S hu hz (RepL_cst zs.toList) hb k
      · exact k.elim
    · exact k.elim
  | makeFunc fn x y =>
    refine ⟨_, .func fn (x.map a.eval) (y.map a.eval), k, ⟨x.toList.map a.eval, y.toList.map a.eval, by rw [map_toArray, map_toArray], evs_sound S _, evs_sound S _⟩, fun w' _ => by simp [execOp, Instr.makeFunc]⟩
  | makeInterface t x =>
    simp only [Cfg.quiet] at k
    split at k
    · exact k.elim
    · rename_i d hn hu
      refine ⟨_, .iface t (a.eval x), k, ⟨_, rfl, ev_sound S x⟩, fun w' _ => ?_⟩
      simp only [execOp, Sem.run_bind, run_makeInterface' w' hu (fun ms e => hn ms e), Result.andThen_ok, Sem.run_pure]
    · exact k.elim
  | nilCheck x =>
    have hx := ev_sound S x
    simp only [Cfg.quiet] at k
    split at k
    · rename_i id o he
      rw [he] at hx
      have h' := hx
      obtain ⟨_, b, _, _, _, e⟩ := h'
      exact ⟨_, _, k, hx, fun w' _ => by simp [execOp, e]⟩
    · rename_i cs o he
      rw [he] at hx
      have h' := hx
      obtain ⟨b, o', us, e, _⟩ := h'
      exact ⟨_, _, k, hx, fun w' _ => by simp [execOp, e]⟩
    · rename_i f p q he
      rw [he] at hx
      have h' := hx
      obtain ⟨xs, ys, e, _⟩ := h'
      exact ⟨_, _, k, hx, fun w' _ => by simp [execOp, e]⟩
    · rename_i al y he
      rw [he] at hx
      cases y with
      | none => exact k.elim
      | some y =>
        have h' := hx
        obtain ⟨t, v, e, _⟩ := h'
        exact ⟨_, _, k, hx, fun w' _ => by simp [execOp, e]⟩
    · rename_i t v he
      rw [he] at hx
      have h' := hx
      obtain ⟨q, e, _⟩ := h'
      exact ⟨_, _, k, hx, fun w' _ => by simp [execOp, e]⟩
    · exact k.elim
  | typeAssert x xt t ok =>
    have hx := ev_sound S x
    simp only [Cfg.quiet] at k
    split at k
    · exact k.elim
    · rename_i d s hn hu hs
      have hd : ∀ ms, d ≠ .interface ms := fun ms e => hn ms e
      replace k := cond_true' k
      obtain ⟨hz, k⟩ := k
      obtain ⟨z, z1, _, z2⟩ := zeroOK_sound (m := m) (J st.hp bk) hz
      split at k
      · rename_i al y he
        rw [he] at hx
        cases y with
        | none =>
          have e : a.eval x = .nilIface := hx
          exact ⟨_, _, k, pair_rep z2, fun w' _ => by simp only [execOp, Sem.run_bind, e, run_assert_nil w' hu hd (run_zeroValue z1 w'), Result.andThen_ok, Sem.run_pure]⟩
        | some y =>
          obtain ⟨t', v, e, hI⟩ := hx
          rcases altK_sound (JJ := J st.hp bk) al y t' v hI k with ⟨rfl, v', k1, k2⟩ | ⟨hne, k⟩
          · exact ⟨_, _, k1, pair_rep k2, fun w' _ => by simp only [execOp, Sem.run_bind, e, run_assert_ok w' hu hd, Result.andThen_ok, Sem.run_pure, if_true]⟩
          · exact ⟨_, _, k, pair_rep z2, fun w' _ => by simp only [execOp, Sem.run_bind, e, run_assert_no w' hu hd hne (run_zeroValue z1 w'), Result.andThen_ok, Sem.run_pure]⟩
      · rename_i t' v he
        rw [he] at hx
        obtain ⟨q, e, hq⟩ := hx
        rcases cond_spec k with ⟨hb, k2⟩ | ⟨hb, k2⟩
        · obtain rfl := beq_eq hb
          exact ⟨_, _, k2, pair_rep hq, fun w' _ => by simp only [execOp, Sem.run_bind, e, run_assert_ok w' hu hd, Result.andThen_ok, Sem.run_pure, if_true]⟩
        · have hne : t' ≠ t := fun e => by rw [e] at hb; simp at hb
          exact ⟨_, _, k2, pair_rep z2, fun w' _ => by simp only [execOp, Sem.run_bind, e, run_assert_no w' hu hd hne (run_zeroValue z1 w'), Result.andThen_ok, Sem.run_pure]⟩
      · rename_i t' v he
        rw [he] at hx
        obtain ⟨q, e, hq⟩ := hx
        obtain ⟨hb, k2⟩ := cond_true' k
        obtain rfl := beq_eq hb
        exact ⟨_, _, k2, hq, fun w' _ => by simp only [execOp, Sem.run_bind, e, run_assert_ok w' hu hd, Result.andThen_ok, Sem.run_pure, Bool.false_eq_true, if_false]⟩
      · rename_i he
        rw [he] at hx
        have e : a.eval x = .nilIface := hx
        exact ⟨_, _, k, pair_rep z2, fun w' _ => by simp only [execOp, Sem.run_bind, e, run_assert_nil w' hu hd (run_zeroValue z1 w'), Result.andThen_ok, Sem.run_pure]⟩
      · exact k.elim
    · exact k.elim
  | call cl =>
    obtain ⟨callee, args, argTypes⟩ := cl
    cases callee with
    | value f => exact k.elim
    | invoke r nm => exact k.elim
    | builtin b =>
      simp only [Cfg.quiet] at k
      have hargs := evs_sound S args.toList
      have hmap : args.map a.eval = (args.toList.map a.eval).toArray := map_toArray _ _
      split at k
      · rename_i e hx ht
        rw [hx] at hargs
        obtain ⟨u, us', e1, r1, r2⟩ := RepL_cons.1 hargs
        rw [RepL_nil.1 r2] at e1
        obtain rfl : u = .slice none 0 0 := r1
        refine ⟨_, .int .i64 0, k, rfl, fun w' _ => ?_⟩
        cases ha : argTypes[0]? with
        | none => rw [ha] at ht; cases ht
        | some t =>
          rw [ha] at ht
          simp only [Option.bind_some] at ht
          simp [execOp, resolve, invoke, builtin, Builtin.len_, ha, hmap, e1, run_underlying ht, goInt]
      · rename_i x e hx ht
        rw [hx] at hargs
        obtain ⟨u, us', e1, r1, r2⟩ := RepL_cons.1 hargs
        rw [RepL_nil.1 r2] at e1
        obtain ⟨s, xs, base, cap, k1, hu⟩ := slK_len S r1 k
        refine ⟨_, .int .i64 (xs.length : Int), k1, rfl, fun w' _ => ?_⟩
        cases ha : argTypes[0]? with
        | none => rw [ha] at ht; cases ht
        | some t =>
          rw [ha] at ht
          simp only [Option.bind_some] at ht
          simp [execOp, resolve, invoke, builtin, Builtin.len_, ha, hmap, e1, hu, run_underlying ht, goInt]
      · rename_i b hx ht
        rw [hx] at hargs
        obtain ⟨u, us', e1, r1, r2⟩ := RepL_cons.1 hargs
        rw [RepL_nil.1 r2] at e1
        obtain rfl : u = .string b := r1
        refine ⟨_, .int .i64 ((b.size : Nat) : Int), k, rfl, fun w' _ => ?_⟩
        cases ha : argTypes[0]? with
        | none => rw [ha] at ht; cases ht
        | some t =>
          rw [ha] at ht
          simp only [Option.bind_some] at ht
          simp [execOp, resolve, invoke, builtin, Builtin.len_, ha, hmap, e1, run_underlying ht, goInt]
      · rename_i x e hx ht
        rw [hx] at hargs
        obtain ⟨u, us', e1, r1, r2⟩ := RepL_cons.1 hargs
        rw [RepL_nil.1 r2] at e1
        obtain ⟨hb, k⟩ := cond_true' k
        have hu := isNil_spec r1 hb
        refine ⟨_, .int .i64 0, k, rfl, fun w' _ => ?_⟩
        cases ha : argTypes[0]? with
        | none => rw [ha] at ht; cases ht
        | some t =>
          rw [ha] at ht
          simp only [Option.bind_some] at ht
          simp [execOp, resolve, invoke, builtin, Builtin.cap_, ha, hmap, e1, hu, run_underlying ht, goInt]
      · rename_i x r hx
        rw [hx] at hargs
        obtain ⟨u, us', e1, r1, r2⟩ := RepL_cons.1 hargs
        obtain ⟨e, q, l1, l2, l3⟩ := mxE_sound (g := Builtin.max2) (f := maxI) (fun k p q w => by simp [Builtin.max2, maxI]) r us' x u K r1 r2 k
        exact ⟨e, q, l1, l2, fun w' _ => by simp [execOp, resolve, invoke, builtin, Builtin.max_, hmap, e1, l3 w']⟩
      · rename_i x r hx
        rw [hx] at hargs
        obtain ⟨u, us', e1, r1, r2⟩ := RepL_cons.1 hargs
        obtain ⟨e, q, l1, l2, l3⟩ := mxE_sound (g := Builtin.min2) (f := minI) (fun k p q w => by simp [Builtin.min2, minI]) r us' x u K r1 r2 k
        exact ⟨e, q, l1, l2, fun w' _ => by simp [execOp, resolve, invoke, builtin, Builtin.min_, hmap, e1, l3 w']⟩
      · exact k.elim
  | _ => exact k.elim
end
end Go.Proofs.YtgeefhjlfdidmaaGreatDoor.V


/- How the state's meaning is kept: a temporary, a new block, a block written, blocks frozen, a call. No condition of its own. -/
namespace Go.Proofs.YtgeefhjlfdidmaaGreatDoor.V
open Go Go.RowKit
set_option linter.unusedVariables false
set_option linter.unusedSimpArgs false

section
variable {c : Cfg} {m0 : Mem} {w0 : World} {fx : Fx} {m : Mem} {bk : List Cn} {st : St} {a : Act} {w : World}

def Reach (c : Cfg) (m0 : Mem) (w0 : World) (fx : Fx) (K : St → Prop) (a : Act) (w : World) : Prop := ∃ st m bk, K st ∧ Sat c m0 w0 fx m bk st a w

theorem SatEnt.mono {P : Program} {m m' : Mem} {n0 : Nat} {w w' : World} {JJ JJ' : EV → Value → Prop} {e : Ent} {k : Cn} (hm : m.le m') (hJ : ∀ e u, JJ e u → JJ' e u) (hb : ∀ b, k.blk = some b → w'.heap[b]? = w.heap[b]?)
    (hn : e.md ≠ .froz → ∀ b, k.blk = some b → (∀ o, m b o = none) → ∀ o, m' b o = none) (h : SatEnt P m n0 w JJ e k) : SatEnt P m' n0 w' JJ' e k := by
  cases e with
  | box md cs =>
    cases k with
    | box b =>
      obtain ⟨us, T, h1, h2, h3, h4, h5⟩ := h
      exact ⟨us, T, (hb b rfl).trans h1, RepL_mono hm cs hJ h2, h3, fun q j u hj => hm _ _ _ (h4 q j u hj), fun q => hn q b rfl (h5 q)⟩
    | row v => exact h
  | row md ver el s xs =>
    cases k with
    | box b => exact h
    | row cv =>
      obtain ⟨cs, h1, h2, h3, h4⟩ := h
      refine ⟨cs, RowRep_mono hm h1, ⟨h2.1, ?_⟩, fun q g hg j u hj => hm _ _ _ (h3 q g hg j u hj), fun q g hg => hn q g hg (h4 q g hg)⟩
      rcases h2.2 with q | ⟨g, cap, cur, e1, e2, e3, e4⟩
      · exact .inl q
      · exact .inr ⟨g, cap, cur, e1, e2, (hb g (by rw [e1]; rfl)).trans e3, e4⟩
  | iter md s pos =>
    cases k with
    | row v => exact h
    | box b =>
      obtain ⟨h1, ⟨n, h2, h3⟩, h4⟩ := h
      exact ⟨h1, ⟨n, h2, (hb b rfl).trans h3⟩, fun q => hn q b rfl (h4 q)⟩

theorem SatEnt.lt {P : Program} {m : Mem} {n0 : Nat} {w : World} {JJ : EV → Value → Prop} {e : Ent} {k : Cn} (h : SatEnt P m n0 w JJ e k) {b : Nat} (hb : k.blk = some b) : n0 ≤ b ∧ b < w.heap.size := by
  have lt : ∀ {x : Obj}, w.heap[b]? = some x → b < w.heap.size := fun h => by
    rcases Nat.lt_or_ge b w.heap.size with q | q
    · exact q
    · simp [Array.getElem?_eq_none q] at h
  cases e with
  | box md cs =>
    cases k with
    | box b' =>
      obtain ⟨us, T, h1, h2, h3, h4, h5⟩ := h
      cases hb
      exact ⟨h3, lt h1⟩
    | row v => exact h.elim
  | row md ver el s xs =>
    cases k with
    | box b => exact h.elim
    | row cv =>
      obtain ⟨cs, h1, h2, h3, h4⟩ := h
      rcases h2.2 with ⟨q, _⟩ | ⟨g, cap, cur, e1, e2, e3, e4⟩
      · rw [q] at hb; cases hb
      · rw [e1] at hb; cases hb
        exact ⟨e2, lt e3⟩
  | iter md s pos =>
    cases k with
    | row v => exact h.elim
    | box b' =>
      obtain ⟨h1, ⟨n, h2, h3⟩, h4⟩ := h
      cases hb
      exact ⟨h1, lt h3⟩

/-- A block of the abstract heap. -/
theorem Sat.ent (S : Sat c m0 w0 fx m bk st a w) {i : Nat} {k : Cn} (h : bk[i]? = some k) : ∃ e, st.hp[i]? = some e ∧ SatEnt c.P m fx.n0 w (J st.hp bk) e k := by
  have hi : i < bk.length := (List.getElem?_eq_some_iff.1 h).1
  have he : st.hp[i]? = some (st.hp[i]'(by rw [← S.len]; exact hi)) := List.getElem?_eq_getElem _
  obtain ⟨k', h1, h2⟩ := S.ents i _ he
  rw [h] at h1; cases h1
  exact ⟨_, he, h2⟩

theorem Sat.blk_lt (S : Sat c m0 w0 fx m bk st a w) {i b : Nat} (h : (bk[i]?).bind Cn.blk = some b) : fx.n0 ≤ b ∧ b < w.heap.size := by
  cases hk : bk[i]? with
  | none => rw [hk] at h; cases h
  | some k =>
    rw [hk] at h
    obtain ⟨e, _, he⟩ := S.ent hk
    exact he.lt h

/-- What is known of memory lies in blocks that are there. -/
theorem Sat.mem_lt (S : Sat c m0 w0 fx m bk st a w) {b o : Nat} {v : Value} (h : m b o = some v) : b < w.heap.size := World.block_lt_of_cell? w ⟨b, o, none⟩ (S.hold b o v h)

/-- A temporary. -/
theorem Sat.put (S : Sat c m0 w0 fx m bk st a w) {d : Option Nat} {v : EV} {u : Value} (hd : okDst fx.W d = true) (h : Rep c.P m v (J st.hp bk) u) : Sat c m0 w0 fx m bk (st.put d v) (a.put d u) w := by
  cases d with
  | none => exact S
  | some d =>
    have hW : d ∈ fx.W := by simpa [okDst] using hd
    have hlt : d < a.tmps.size := by rw [S.fix.1]; exact S.fix.2.2.1 d hW
    refine { S with env := fun i => ?_, fix := ⟨?_, fun i hi => ?_, S.fix.2.2.1, S.fix.2.2.2⟩ }
    · show Rep c.P m (cond (Nat.beq i d) v (st.env i)) (J st.hp bk) ((a.tmps.setIfInBounds d u).getD i undef)
      by_cases e : i = d
      · subst e
        simp only [Nat.beq_refl, cond_true]
        simpa [hlt] using h
      · have hb : Nat.beq i d = false := by
          cases q : Nat.beq i d
          · rfl
          · exact absurd (beq_eq q) e
        simp only [hb, cond_false]
        have : (a.tmps.setIfInBounds d u).getD i undef = a.tmps.getD i undef := by
          simp only [Array.getD_eq_getD_getElem?]
          rw [Array.getElem?_setIfInBounds_ne (Ne.symm e)]
        rw [this]
        exact S.env i
    · simp only [Act.put, Array.size_setIfInBounds]; exact S.fix.1
    · simp only [Act.put]
      rw [Array.getElem?_setIfInBounds_ne (fun e : d = i => hi (by rw [← e]; exact hW))]
      exact S.fix.2.1 i hi

/-- A draw. -/
theorem Sat.drew (S : Sat c m0 w0 fx m bk st a w) : Sat c m0 w0 fx m bk st a w.drew :=
  { S with hold := fun b o v h => S.hold b o v h, below := S.below.drew }

theorem J_append (hp : List Ent) (bk : List Cn) (x : Ent) (k : Cn) (e : EV) (u : Value) (hl : bk.length = hp.length) (h : J hp bk e u) : J (hp ++ [x]) (bk ++ [k]) e u := by
  have g1 : ∀ {i : Nat} {y : Ent}, hp[i]? = some y → (hp ++ [x])[i]? = some y := fun {i y} q => by rw [List.getElem?_append_left (List.getElem?_eq_some_iff.1 q).1]; exact q
  have g2 : ∀ {i : Nat} {y : Cn}, bk[i]? = some y → (bk ++ [k])[i]? = some y := fun {i y} q => by rw [List.getElem?_append_left (List.getElem?_eq_some_iff.1 q).1]; exact q
  cases e <;> try exact h
  case box id off => obtain ⟨e, b, h1, hb, h2, h3⟩ := h; exact ⟨e, b, g1 h1, hb, g2 h2, h3⟩
  case rp id ver kk off => obtain ⟨md, v, el, s, xs, cv, h1, h2, h3⟩ := h; exact ⟨md, v, el, s, xs, cv, g1 h1, g2 h2, h3⟩
  case row id ver => obtain ⟨md, v, el, s, xs, cv, h1, h2, h3⟩ := h; exact ⟨md, v, el, s, xs, cv, g1 h1, g2 h2, h3⟩

/-- A new block of the abstract heap. -/
theorem Sat.push (S : Sat c m0 w0 fx m bk st a w) {x : Ent} {k : Cn} {w' : World} (hb : Below fx.n0 w0 w') (hsame : ∀ b, b < w.heap.size → w'.heap[b]? = w.heap[b]?) (hnew : ∀ b, k.blk = some b → w.heap.size ≤ b)
    (hx : SatEnt c.P m fx.n0 w' (J (st.hp ++ [x]) (bk ++ [k])) x k) : Sat c m0 w0 fx m (bk ++ [k]) { st with hp := st.hp ++ [x] } a w' := by
  have hJ : ∀ e u, J st.hp bk e u → J (st.hp ++ [x]) (bk ++ [k]) e u := fun e u h => J_append _ _ _ _ _ _ S.len h
  refine { hold := fun b o v h => ?_, tab := S.tab, ext := S.ext, below := hb, len := by simp [S.len], ents := fun i e he => ?_, apart := fun i j b hi hj => ?_, env := fun i => Rep_mono (Mem.le_refl m) _ hJ (S.env i), defers := S.defers, gh := fun e u h => hJ e u (S.gh e u h), base := S.base, keep := fun b hb => (by
    obtain ⟨k1, k2, k3⟩ := S.keep b hb
    have hlt : b < w.heap.size := Nat.lt_of_lt_of_le k1 S.below.size
    refine ⟨k1, (hsame b hlt).trans k2, fun i hi => ?_⟩
    by_cases hl : i < bk.length
    · rw [List.getElem?_append_left hl] at hi; exact k3 i hi
    · cases hq : (bk ++ [k])[i]? with
      | none => rw [hq] at hi; cases hi
      | some y =>
        have hi' := (List.getElem?_eq_some_iff.1 hq).1
        simp only [List.length_append, List.length_cons, List.length_nil] at hi'
        have e : i = bk.length := by omega
        rw [hq] at hi
        subst e
        rw [List.getElem?_concat_length] at hq; cases hq
        have := hnew b hi
        omega), fix := ⟨S.fix.1, S.fix.2.1, S.fix.2.2.1, fun i e q hq => ?_⟩ }
  · rw [← S.hold b o v h]
    exact World.cell?_of_block (hsame b (S.mem_lt h))
  · dsimp only at he
    by_cases hi : i < st.hp.length
    · rw [List.getElem?_append_left hi] at he
      obtain ⟨q, q1, q2⟩ := S.ents i e he
      refine ⟨q, by rw [List.getElem?_append_left (by rw [S.len]; exact hi)]; exact q1, q2.mono (Mem.le_refl m) hJ (fun b hb => hsame b (q2.lt hb).2) (fun _ _ _ h => h)⟩
    · have hi' : i = st.hp.length := by
        have := (List.getElem?_eq_some_iff.1 he).1
        simp at this; omega
      subst hi'
      simp only [List.getElem?_concat_length, Option.some.injEq] at he
      subst he
      exact ⟨k, by rw [← S.len, List.getElem?_concat_length], hx⟩
  · have old : ∀ {i b : Nat}, ((bk ++ [k])[i]?).bind Cn.blk = some b → i < bk.length → (bk[i]?).bind Cn.blk = some b := fun h hl => by rw [List.getElem?_append_left hl] at h; exact h
    have new : ∀ {i b : Nat}, ((bk ++ [k])[i]?).bind Cn.blk = some b → ¬ i < bk.length → i = bk.length ∧ k.blk = some b := fun {i b} h hl => by
      cases hq : (bk ++ [k])[i]? with
      | none => rw [hq] at h; cases h
      | some y =>
        have hi := (List.getElem?_eq_some_iff.1 hq).1
        simp only [List.length_append, List.length_cons, List.length_nil] at hi
        have e : i = bk.length := by omega
        rw [hq] at h
        subst e
        rw [List.getElem?_concat_length] at hq; cases hq
        exact ⟨rfl, h⟩
    by_cases h1 : i < bk.length <;> by_cases h2 : j < bk.length
    · exact S.apart i j b (old hi h1) (old hj h2)
    · have := (S.blk_lt (old hi h1)).2
      have := hnew b (new hj h2).2
      omega
    · have := (S.blk_lt (old hj h2)).2
      have := hnew b (new hi h1).2
      omega
    · rw [(new hi h1).1, (new hj h2).1]
  · obtain ⟨q1, q2, q3⟩ := S.fix.2.2.2 i e q hq
    exact ⟨q1, by rw [List.getElem?_append_left (List.getElem?_eq_some_iff.1 q2).1]; exact q2, by rw [List.getElem?_append_left (List.getElem?_eq_some_iff.1 q3).1]; exact q3⟩

theorem getElem?_set_ne' {α : Type} {l : List α} {i j : Nat} {x : α} (h : j ≠ i) : (l.set i x)[j]? = l[j]? := List.getElem?_set_ne (Ne.symm h)

/-- A block of the call's own is written. -/
theorem Sat.update (S : Sat c m0 w0 fx m bk st a w) {id : Nat} {e0 e1 : Ent} {k0 k1 : Cn} {w' : World} (h0 : st.hp[id]? = some e0) (hown : e0.md = .own) (hk : bk[id]? = some k0) (hb : Below fx.n0 w0 w') (hsz : w.heap.size ≤ w'.heap.size)
    (hsame : ∀ b, b < w.heap.size → k0.blk ≠ some b → w'.heap[b]? = w.heap[b]?) (hnew : ∀ b, k1.blk = some b → k0.blk = some b ∨ w.heap.size ≤ b)
    (hJ : ∀ e u, J st.hp bk e u → J (st.hp.set id e1) (bk.set id k1) e u) (hx : SatEnt c.P m fx.n0 w' (J (st.hp.set id e1) (bk.set id k1)) e1 k1) :
    Sat c m0 w0 fx m (bk.set id k1) { st with hp := st.hp.set id e1 } a w' := by
  have hid : id < st.hp.length := (List.getElem?_eq_some_iff.1 h0).1
  obtain ⟨k', hk', hs0⟩ := S.ents id e0 h0
  rw [hk] at hk'; cases hk'
  have hnone : ∀ b, k0.blk = some b → ∀ o, m b o = none := by
    intro b hbk
    have hne : e0.md ≠ .froz := by rw [hown]; intro q; cases q
    cases e0 with
    | box md cs =>
      cases k0 with
      | box b' => obtain ⟨us, T, _, _, _, _, h5⟩ := hs0; cases hbk; exact h5 hne
      | row v => exact hs0.elim
    | row md ver el s xs =>
      cases k0 with
      | box b => exact hs0.elim
      | row cv => obtain ⟨cs, _, _, _, h4⟩ := hs0; exact h4 hne b hbk
    | iter md s pos =>
      cases k0 with
      | row v => exact hs0.elim
      | box b' => obtain ⟨_, _, h5⟩ := hs0; cases hbk; exact h5 hne
  have hbk : ∀ {i b : Nat}, i ≠ id → (bk[i]?).bind Cn.blk = some b → k0.blk ≠ some b := fun {i b} hi h q => hi (S.apart i id b h (by rw [hk]; exact q))
  refine { hold := fun b o v h => ?_, tab := S.tab, ext := S.ext, below := hb, len := by simp [S.len], ents := fun i e he => ?_, apart := fun i j b hi hj => ?_, env := fun i => Rep_mono (Mem.le_refl m) _ hJ (S.env i), defers := S.defers, gh := fun e u h => hJ e u (S.gh e u h), base := S.base, keep := fun b hb => (by
    obtain ⟨q1, q2, q3⟩ := S.keep b hb
    have hlt : b < w.heap.size := Nat.lt_of_lt_of_le q1 S.below.size
    refine ⟨q1, (hsame b hlt (fun q => q3 id (by rw [hk]; exact q))).trans q2, fun i hi => ?_⟩
    by_cases h1 : i = id
    · subst h1
      rw [List.getElem?_set_self (by rw [S.len]; exact hid)] at hi
      rcases hnew b hi with q | q
      · exact q3 i (by rw [hk]; exact q)
      · omega
    · rw [getElem?_set_ne' h1] at hi; exact q3 i hi), fix := ⟨S.fix.1, S.fix.2.1, S.fix.2.2.1, fun i e q hq => ?_⟩ }
  · rw [← S.hold b o v h]
    exact World.cell?_of_block (hsame b (S.mem_lt h) (fun q => by rw [hnone b q o] at h; cases h))
  · dsimp only at he
    by_cases hi : i = id
    · subst hi
      rw [List.getElem?_set_self hid] at he; cases he
      exact ⟨k1, List.getElem?_set_self (by rw [S.len]; exact hid), hx⟩
    · rw [getElem?_set_ne' hi] at he
      obtain ⟨q, q1, q2⟩ := S.ents i e he
      refine ⟨q, by rw [getElem?_set_ne' hi]; exact q1, q2.mono (Mem.le_refl m) hJ (fun b hb => hsame b (q2.lt hb).2 (hbk hi (by rw [q1]; exact hb))) (fun _ _ _ h => h)⟩
  · have self : ∀ {b : Nat}, ((bk.set id k1)[id]?).bind Cn.blk = some b → k1.blk = some b := fun h => by rw [List.getElem?_set_self (by rw [S.len]; exact hid)] at h; exact h
    have other : ∀ {i b : Nat}, i ≠ id → ((bk.set id k1)[i]?).bind Cn.blk = some b → (bk[i]?).bind Cn.blk = some b := fun hi h => by rw [getElem?_set_ne' hi] at h; exact h
    have clash : ∀ {i b : Nat}, i ≠ id → (bk[i]?).bind Cn.blk = some b → k1.blk = some b → False := fun {i b} hi h1 h2 => by
      rcases hnew b h2 with q | q
      · exact hbk hi h1 q
      · have := (S.blk_lt h1).2; omega
    by_cases h1 : i = id <;> by_cases h2 : j = id
    · rw [h1, h2]
    · subst h1; exact (clash h2 (other h2 hj) (self hi)).elim
    · subst h2; exact (clash h1 (other h1 hi) (self hj)).elim
    · exact S.apart i j b (other h1 hi) (other h2 hj)
  · obtain ⟨q1, q2, q3⟩ := S.fix.2.2.2 i e q hq
    have hi : i ≠ id := fun e' => by subst e'; rw [h0] at q2; cases q2; exact q1 hown
    exact ⟨q1, by dsimp only; rw [getElem?_set_ne' hi]; exact q2, by rw [getElem?_set_ne' hi]; exact q3⟩

/-! ### Frozen blocks -/

theorem frzH_get (ids : List Nat) : ∀ (n : Nat) (hp : List Ent) (i : Nat), (frzH ids n hp)[i]? = (hp[i]?).map fun x => cond (ids.contains (n + i)) (x.setMd .froz) x
  | _, [], i => by simp [frzH]
  | n, x :: r, 0 => by simp [frzH]
  | n, x :: r, i + 1 => by
    simp only [frzH, List.getElem?_cons_succ]
    rw [frzH_get ids (n + 1) r i, show n + 1 + i = n + (i + 1) by omega]

theorem frzH_length (ids : List Nat) : ∀ (n : Nat) (hp : List Ent), (frzH ids n hp).length = hp.length
  | _, [] => rfl
  | n, x :: r => by simp [frzH, frzH_length ids (n + 1) r]

/-- A heap that differs in how its blocks are held alone. -/
def Alike (hp hp' : List Ent) : Prop := hp'.length = hp.length ∧ ∀ (i : Nat) (x : Ent), hp[i]? = some x → ∃ md, hp'[i]? = some (x.setMd md)

theorem Ent.bx_setMd (x : Ent) (p : Md) : (x.setMd p).bx = x.bx := by cases x <;> rfl
theorem Ent.setMd_setMd (x : Ent) (p q : Md) : (x.setMd p).setMd q = x.setMd q := by cases x <;> rfl
theorem Ent.setMd_md (x : Ent) : x.setMd x.md = x := by cases x <;> rfl
theorem Ent.md_setMd (x : Ent) (p : Md) : (x.setMd p).md = p := by cases x <;> rfl
theorem Ent.ids_setMd (x : Ent) (p : Md) : (x.setMd p).ids = x.ids := by cases x <;> rfl

theorem J_alike {hp hp' : List Ent} {bk : List Cn} (h : Alike hp hp') {e : EV} {u : Value} (k : J hp bk e u) : J hp' bk e u := by
  cases e <;> try exact k
  case box id off => obtain ⟨e, b, h1, hb, h2, h3⟩ := k; obtain ⟨q, hq⟩ := h.2 _ _ h1; exact ⟨_, b, hq, by rw [Ent.bx_setMd]; exact hb, h2, h3⟩
  case rp id ver kk off => obtain ⟨md, v, el, s, xs, cv, h1, h2, h3⟩ := k; obtain ⟨q, hq⟩ := h.2 _ _ h1; exact ⟨q, v, el, s, xs, cv, hq, h2, h3⟩
  case row id ver => obtain ⟨md, v, el, s, xs, cv, h1, h2, h3⟩ := k; obtain ⟨q, hq⟩ := h.2 _ _ h1; exact ⟨q, v, el, s, xs, cv, hq, h2, h3⟩

theorem alike_frzH (ids : List Nat) (hp : List Ent) : Alike hp (frzH ids 0 hp) := by
  refine ⟨frzH_length ids 0 hp, fun i x h => ?_⟩
  rw [frzH_get, h]
  cases hc : ids.contains (0 + i)
  · exact ⟨x.md, by simp [hc, Ent.setMd_md]⟩
  · exact ⟨.froz, by simp [hc]⟩

open Classical in
/-- The memory that is known behind a freeze. -/
noncomputable def frzM (m : Mem) (w : World) (B : Nat → Prop) : Mem := fun b o => if B b then w.cell? ⟨b, o, none⟩ else m b o

theorem frzM_le (S : Sat c m0 w0 fx m bk st a w) (B : Nat → Prop) : m.le (frzM m w B) := by
  intro b o v h
  unfold frzM
  split
  · exact S.hold b o v h
  · exact h

theorem frzM_holds (S : Sat c m0 w0 fx m bk st a w) (B : Nat → Prop) : Holds w (frzM m w B) := by
  intro b o v h
  unfold frzM at h
  split at h
  · exact h
  · exact S.hold b o v h

/-- The blocks of a set of the abstract heap's blocks. -/
def blks (bk : List Cn) (F : Nat → Prop) (b : Nat) : Prop := ∃ i, F i ∧ (bk[i]?).bind Cn.blk = some b

theorem frzM_ext (S : Sat c m0 w0 fx m bk st a w) (F : Nat → Prop) : Mem.ext fx.n0 m (frzM m w (blks bk F)) := by
  refine ⟨frzM_le S _, fun b o hb => ?_⟩
  unfold frzM
  split
  · rename_i h
    obtain ⟨i, _, h⟩ := h
    have := (S.blk_lt h).1
    omega
  · rfl

theorem cell_get {w : World} {b : Nat} {us : Array Value} {T : TypeId} (h : w.heap[b]? = some (.cells us T (0, 0))) (j : Nat) : w.cell? ⟨b, j, none⟩ = us.toList[j]? := by
  simp [World.cell?, h]

/-- Frozen blocks, for a callee's eyes: any set of blocks that names nothing beyond itself. -/
theorem frz_ok (S : Sat c m0 w0 fx m bk st a w) (F : Nat → Prop) (hF : ∀ i, F i → ∃ x, st.hp[i]? = some x ∧ ∀ j ∈ x.ids, F j) : FrzOK c.P m (frzM m w (blks bk F)) st.hp bk F := by
  intro i hi
  obtain ⟨x, hx, hids⟩ := hF i hi
  obtain ⟨k, hk, hs⟩ := S.ents i x hx
  have cell : ∀ b o, k.blk = some b → frzM m w (blks bk F) b o = w.cell? ⟨b, o, none⟩ := by
    intro b o hb
    unfold frzM
    rw [if_pos ⟨i, hi, by rw [hk]; exact hb⟩]
  cases x with
  | box md cs =>
    cases k with
    | row v => exact hs.elim
    | box b =>
      obtain ⟨us, T, h1, h2, h3, h4, h5⟩ := hs
      refine .inl ⟨md, cs, b, us.toList, hx, hk, h2, fun j u hj => ?_, hids⟩
      rw [cell b j rfl, cell_get h1]
      exact hj
  | row md ver el s xs =>
    cases k with
    | box b => exact hs.elim
    | row cv =>
      obtain ⟨cs, h1, h2, h3, h4⟩ := hs
      refine .inr (.inl ⟨md, ver, el, s, xs, cv, cs, hx, hk, h1, ?_⟩)
      rcases h2.2 with ⟨q1, q2⟩ | ⟨g, cap, cur, e1, e2, e3, e4, e5, e6, e7⟩
      · exact .inl ⟨q1, List.eq_nil_of_length_eq_zero q2⟩
      · refine .inr ⟨g, cap, e1, e4, fun j u hj => ?_⟩
        rw [cell g j (by rw [e1]; rfl), cell_get e3]
        rw [← e7, List.getElem?_take] at hj
        split at hj
        · exact hj
        · cases hj
  | iter md s pos => exact .inr (.inr ⟨md, s, pos, hx⟩)

/-- Blocks are frozen for good. -/
theorem Sat.freeze (S : Sat c m0 w0 fx m bk st a w) {ids : List Nat} (hs : shutIds st.hp ids = true) : Sat c m0 w0 fx (frzM m w (blks bk (· ∈ ids))) bk { st with hp := frzH ids 0 st.hp } a w := by
  have hall : ∀ i ∈ ids, ∃ x, st.hp[i]? = some x ∧ x.md.isLock = false ∧ ∀ j ∈ x.ids, j ∈ ids := by
    intro i hi
    have := List.all_eq_true.1 hs i hi
    split at this
    · rename_i x hx
      simp only [Bool.and_eq_true, Bool.not_eq_true', List.all_eq_true] at this
      exact ⟨x, hx, this.1, fun j hj => by simpa using this.2 j hj⟩
    · cases this
  have hle := frzM_le S (blks bk (· ∈ ids))
  have hJ : ∀ e u, J st.hp bk e u → J (frzH ids 0 st.hp) bk e u := fun e u => J_alike (alike_frzH ids st.hp)
  refine { hold := frzM_holds S _, tab := S.tab.mono hle, ext := Mem.ext_trans S.ext (frzM_ext S _), below := S.below, len := by rw [S.len]; exact (frzH_length ids 0 st.hp).symm, ents := fun i e he => ?_, apart := S.apart, env := fun i => Rep_mono hle _ hJ (S.env i), defers := S.defers, gh := fun e u h => hJ e u (S.gh e u h), base := S.base, keep := S.keep, fix := ⟨S.fix.1, S.fix.2.1, S.fix.2.2.1, fun i e q hq => ?_⟩ }
  · dsimp only at he
    rw [frzH_get] at he
    cases hx : st.hp[i]? with
    | none => rw [hx] at he; cases he
    | some x =>
      rw [hx] at he
      simp only [Option.map_some, Option.some.injEq, Nat.zero_add] at he
      obtain ⟨k, hk, hse⟩ := S.ents i x hx
      refine ⟨k, hk, ?_⟩
      have other : ∀ b, k.blk = some b → i ∉ ids → ∀ o, frzM m w (blks bk (· ∈ ids)) b o = m b o := by
        intro b hb hi o
        unfold frzM
        rw [if_neg]
        rintro ⟨j, hj, hjb⟩
        exact hi (S.apart j i b hjb (by rw [hk]; exact hb) ▸ hj)
      by_cases hi : i ∈ ids
      · have hc : ids.contains i = true := by simpa using hi
        rw [hc] at he
        simp only [cond_true] at he
        subst he
        have cell : ∀ b o, k.blk = some b → frzM m w (blks bk (· ∈ ids)) b o = w.cell? ⟨b, o, none⟩ := by
          intro b o hb
          unfold frzM
          rw [if_pos ⟨i, hi, by rw [hk]; exact hb⟩]
        cases x with
        | box md cs =>
          cases k with
          | row v => exact hse.elim
          | box b =>
            obtain ⟨us, T, h1, h2, h3, h4, h5⟩ := hse
            exact ⟨us, T, h1, RepL_mono hle cs hJ h2, h3, fun _ j u hj => by rw [cell b j rfl, cell_get h1]; exact hj, fun q => absurd rfl q⟩
        | row md ver el s xs =>
          cases k with
          | box b => exact hse.elim
          | row cv =>
            obtain ⟨cs, h1, h2, h3, h4⟩ := hse
            refine ⟨cs, RowRep_mono hle h1, h2, fun _ g hg j u hj => ?_, fun q => absurd rfl q⟩
            rcases h2.2 with ⟨q1, q2⟩ | ⟨g', cap, cur, e1, e2, e3, e4, e5, e6, e7⟩
            · rw [q1] at hg; cases hg
            · rw [e1] at hg; cases hg
              rw [cell g' j (by rw [e1]; rfl), cell_get e3]
              rw [← e7, List.getElem?_take] at hj
              split at hj
              · exact hj
              · cases hj
        | iter md s pos =>
          cases k with
          | row v => exact hse.elim
          | box b =>
            obtain ⟨h1, h2, h3⟩ := hse
            exact ⟨h1, h2, fun q => absurd rfl q⟩
      · have hc : ids.contains i = false := by simpa using hi
        rw [hc] at he
        simp only [cond_false] at he
        subst he
        exact hse.mono hle hJ (fun b _ => rfl) (fun _ b hb h o => by rw [other b hb hi o]; exact h o)
  · obtain ⟨q1, q2, q3⟩ := S.fix.2.2.2 i e q hq
    refine ⟨q1, ?_, q3⟩
    dsimp only
    rw [frzH_get, q2]
    simp only [Option.map_some, Nat.zero_add, Option.some.injEq]
    by_cases hi : i ∈ ids
    · obtain ⟨x, hx, hl, _⟩ := hall i hi
      rw [q2] at hx; cases hx
      have hc : ids.contains i = true := by simpa using hi
      rw [hc]
      have : e.md = .froz := by
        cases hm : e.md with
        | own => exact absurd hm q1
        | lock => rw [hm] at hl; cases hl
        | froz => rfl
      rw [cond_true, ← this, Ent.setMd_md]
    · have hc : ids.contains i = false := by simpa using hi
      rw [hc]
      rfl
end
end Go.Proofs.YtgeefhjlfdidmaaGreatDoor.V


/- Memory made and written: what the condition says of it. No condition of its own. -/
namespace Go.Proofs.YtgeefhjlfdidmaaGreatDoor.V
open Go Go.RowKit
set_option linter.unusedVariables false
set_option linter.unusedSimpArgs false

section
variable {c : Cfg} {m0 : Mem} {w0 : World} {fx : Fx} {m : Mem} {bk : List Cn} {st : St} {a : Act} {w : World}

/-- Behind an operation: a value, a heap, of which K is so. -/
def Res (c : Cfg) (m0 : Mem) (w0 : World) (fx : Fx) (st : St) (a : Act) (K : EV → List Ent → Prop) (u : Value) (w' : World) : Prop :=
  ∃ e hp m bk, K e hp ∧ Sat c m0 w0 fx m bk { st with hp := hp } a w' ∧ Rep c.P m e (J hp bk) u

/-- What was there is as it was. -/
def Kept (w w' : World) : Prop := w.heap.size ≤ w'.heap.size ∧ ∀ b, b < w.heap.size → w'.heap[b]? = w.heap[b]?

theorem Kept.refl (w : World) : Kept w w := ⟨Nat.le_refl _, fun _ _ => rfl⟩
theorem Kept.trans {w w' w'' : World} (h : Kept w w') (k : Kept w' w'') : Kept w w'' := ⟨Nat.le_trans h.1 k.1, fun b hb => (k.2 b (by have := h.1; omega)).trans (h.2 b hb)⟩
theorem Kept.of_below {w w' : World} (h : Below w.heap.size w w') : Kept w w' := ⟨h.size, fun b hb => h.block b hb⟩
theorem Kept.of_alloc (w : World) (x : Obj) : Kept w (w.alloc x) := ⟨((Below.refl 0 w).alloc (Nat.zero_le _) x).size, fun b hb => heap_alloc_old w _ b hb⟩

def ResK (c : Cfg) (m0 : Mem) (w0 : World) (fx : Fx) (st : St) (a : Act) (w : World) (K : EV → List Ent → Prop) (u : Value) (w' : World) : Prop := Res c m0 w0 fx st a K u w' ∧ Kept w w'

theorem zeroC_length (s : Shape) : s.zeroC.length = s.size := by
  induction s <;> simp_all [Shape.zeroC, Shape.size]

/-- A shape's value is its cells. -/
theorem V_cells {P : Program} (s : Shape) (hs : s.size ≠ 0) {m : Mem} {x : s.Val} {u : Value} (h : (Reps P s).V m x u) : (Reps P s).C m x u.cells.toList := by
  cases s with
  | bool => rw [show u = .bool x from h]; exact ⟨_, rfl, rfl⟩
  | int k => rw [show u = .int k x from h]; exact ⟨_, rfl, rfl⟩
  | slice s => have h' := h; obtain ⟨b, q, e, _⟩ := h'; subst e; exact ⟨_, rfl, h⟩
  | st f => obtain ⟨cs, e, h⟩ := h; subst e; exact h
  | unit => exact h.elim
  | pair p q => exact h.elim
  | tup f => exact absurd rfl hs
  | func i o => have h' := h; rcases h' with ⟨e, _⟩ | ⟨f, p, q, e, _⟩ <;> subst e <;> exact ⟨_, rfl, h⟩
  | iface al =>
    cases x with
    | none => rw [show u = .nilIface from h]; exact ⟨_, rfl, rfl⟩
    | some y => have h' := h; obtain ⟨t, q, e, _⟩ := h'; subst e; exact ⟨_, rfl, h⟩
  | one t s => exact h.elim
  | alt t s r => exact h.elim

/-- Cells of a shape's values are one cell each. -/
theorem C_one {P : Program} (s : Shape) : ∀ {m : Mem} {x : s.Val} {us : List Value}, (Reps P s).C m x us → ∀ u ∈ us, u.oneCell' = true := by
  induction s with
  | bool => rintro m x us ⟨u, rfl, h⟩ v hv; simp at hv; subst hv; rw [show v = .bool x from h]; rfl
  | int k => rintro m x us ⟨u, rfl, h⟩ v hv; simp at hv; subst hv; rw [show v = .int k x from h]; rfl
  | slice s _ => rintro m x us ⟨u, rfl, b, q, e, _⟩ v hv; simp at hv; subst hv; rw [e]; rfl
  | st f ih => intro m x us h; exact ih h
  | unit => intro m x us h v hv; rw [show us = [] from h] at hv; cases hv
  | pair p q ihp ihq =>
    rintro m x us ⟨c, d, rfl, h1, h2⟩ v hv
    rcases List.mem_append.1 hv with h | h
    · exact ihp h1 v h
    · exact ihq h2 v h
  | tup f _ => intro m x us h; exact h.elim
  | func i o _ _ => rintro m x us ⟨u, rfl, h⟩ v hv; simp at hv; subst hv; rcases h with ⟨e, _⟩ | ⟨f, p, q, e, _⟩ <;> rw [e] <;> rfl
  | iface al _ =>
    rintro m x us ⟨u, rfl, h⟩ v hv
    simp at hv; subst hv
    cases x with
    | none => rw [show v = .nilIface from h]; rfl
    | some y => obtain ⟨t, q, e, _⟩ := h; rw [e]; rfl
  | one t s _ => intro m x us h; exact h.elim
  | alt t s r _ _ => intro m x us h; exact h.elim

theorem RowRep_one {P : Program} {m : Mem} {s : Shape} : ∀ {xs : List s.Val} {cs : List Value}, RowRep P m s xs cs → ∀ u ∈ cs, u.oneCell' = true
  | [], cs, h, u, hu => by rw [show cs = [] from h] at hu; cases hu
  | x :: xs, _, ⟨c, r, e, h1, h2⟩, u, hu => by
    subst e
    rcases List.mem_append.1 hu with h | h
    · exact C_one s h1 u h
    · exact RowRep_one h2 u h

/-- A slice's cells, as they lie in memory now. -/
theorem slK_cells (S : Sat c m0 w0 fx m bk st a w) {v : EV} {u : Value} {K : (s : Shape) → List s.Val → Prop} (h : Rep c.P m v (J st.hp bk) u) (k : slK st v K) :
    ∃ s xs base cap cs, K s xs ∧ u = .slice base xs.length cap ∧ RowRep c.P m s xs cs ∧ (xs = [] ∨ ∃ ad, base = some ad ∧ ∀ j v, cs[j]? = some v → w.cell? (ad.add j) = some v) := by
  unfold slK at k
  split at k
  · rename_i s xs
    obtain ⟨base, cap, hu, hc, hx⟩ := h
    rcases hx with hx | ⟨b, o, hb, hx⟩
    · subst hx; exact ⟨s, [], base, cap, [], k, hu, rfl, .inl rfl⟩
    · obtain ⟨cs, r1, r2⟩ := row_of_slice hx
      exact ⟨s, xs, base, cap, cs, k, hu, r1, .inr ⟨_, hb, fun j v hj => by rw [add_none]; exact S.hold _ _ _ (r2 j v hj)⟩⟩
  · rename_i s
    exact ⟨s, [], none, 0, [], k, h, rfl, .inl rfl⟩
  · rename_i id ver
    split at k
    · rename_i md v e s xs he
      obtain ⟨hb, k2⟩ := cond_true' k
      obtain ⟨_, cs, h1, ho⟩ := S.rowVal he (beq_eq hb) h
      rcases ho.2 with ⟨q1, q2⟩ | ⟨g, cap, cur, e1, e2, e3, e4, e5, e6, e7⟩
      · have hx := List.eq_nil_of_length_eq_zero q2
        subst hx
        exact ⟨s, [], none, 0, cs, k2, q1, h1, .inl rfl⟩
      · refine ⟨s, xs, _, cap, cs, k2, e1, h1, .inr ⟨_, rfl, fun j v hj => ?_⟩⟩
        rw [add_none, Nat.zero_add, cell_get e3]
        rw [← e7, List.getElem?_take] at hj
        split at hj
        · exact hj
        · cases hj
    · exact k.elim
  · exact k.elim

theorem Below.of_same {n : Nat} {w0 w w' : World} (h : Below n w0 w) (ho : w'.os = w.os) (ht : w'.tape = w.tape) (hp : w'.output = w.output) (hs : w.heap.size ≤ w'.heap.size) (hb : ∀ k, k < n → w'.heap[k]? = w.heap[k]?) : Below n w0 w' :=
  h.trans ⟨ho, ht, hp, hs, hb⟩

/-- A new variable. -/
theorem new_box (S : Sat c m0 w0 fx m bk st a w) (T : TypeId) (us : Array Value) (cs : List EV) (h : RepL c.P m cs (J st.hp bk) us.toList) {K : EV → List Ent → Prop} (k : K (.box st.hp.length 0) (st.hp ++ [.box .own cs])) :
    ResK c m0 w0 fx st a w K (.pointer (some ⟨w.heap.size, 0, none⟩)) (w.alloc (.cells us T)) := by
  refine ⟨?_, Kept.of_alloc _ _⟩
  have hsz := S.n0le
  have hJ : ∀ e u, J st.hp bk e u → J (st.hp ++ [Ent.box .own cs]) (bk ++ [Cn.box w.heap.size]) e u := fun e u h => J_append _ _ _ _ _ _ S.len h
  refine ⟨_, _, m, bk ++ [.box w.heap.size], k, S.push (S.below.alloc (by omega) _) (fun b hb => heap_alloc_old w _ b hb) (fun b hb => by cases hb; exact Nat.le_refl _) ?_, ?_⟩
  · refine ⟨us, T, heap_alloc_new w _, RepL_mono (Mem.le_refl m) cs hJ h, hsz, (fun q => by cases q), fun _ o => ?_⟩
    cases hq : m w.heap.size o with
    | none => rfl
    | some v => exact absurd (S.mem_lt hq) (by omega)
  · exact ⟨_, w.heap.size, List.getElem?_concat_length, rfl, by rw [← S.len, List.getElem?_concat_length], rfl⟩

/-- A new iterator over a string. -/
theorem new_iter (S : Sat c m0 w0 fx m bk st a w) (s : ByteArray) {K : EV → List Ent → Prop} (k : K (.box st.hp.length 0) (st.hp ++ [.iter .own s 0])) :
    ResK c m0 w0 fx st a w K (.pointer (some ⟨w.heap.size, 0, none⟩)) (w.alloc (.stringIter s 0)) := by
  refine ⟨?_, Kept.of_alloc _ _⟩
  have hsz := S.n0le
  refine ⟨_, _, m, bk ++ [.box w.heap.size], k, S.push (S.below.alloc (by omega) _) (fun b hb => heap_alloc_old w _ b hb) (fun b hb => by cases hb; exact Nat.le_refl _) ?_, ?_⟩
  · refine ⟨hsz, ⟨0, rfl, heap_alloc_new w _⟩, fun _ o => ?_⟩
    cases hq : m w.heap.size o with
    | none => rfl
    | some v => exact absurd (S.mem_lt hq) (by omega)
  · exact ⟨_, w.heap.size, List.getElem?_concat_length, rfl, by rw [← S.len, List.getElem?_concat_length], rfl⟩

/-- A new row, empty. -/
theorem new_row (S : Sat c m0 w0 fx m bk st a w) (e : TypeId) (s : Shape) {w' : World} {cv : Value} {xs : List s.Val} {cs : List Value} (hb : Below fx.n0 w0 w') (hsame : ∀ b, b < w.heap.size → w'.heap[b]? = w.heap[b]?) (hr : RowRep c.P m s xs cs) (ho : w'.ownsRow fx.n0 e s.size cv xs.length cs)
    (hnew : ∀ b, cv.ownBlock = some b → w.heap.size ≤ b) {K : EV → List Ent → Prop} (k : K (.row st.hp.length 0) (st.hp ++ [.row .own 0 e s xs])) (hsz : w.heap.size ≤ w'.heap.size) : ResK c m0 w0 fx st a w K cv w' := by
  refine ⟨?_, hsz, hsame⟩
  refine ⟨_, _, m, bk ++ [.row cv], k, S.push (k := .row cv) hb hsame hnew ?_, ?_⟩
  · refine ⟨cs, hr, ho, (fun q => by cases q), fun _ g hg o => ?_⟩
    cases hq : m g o with
    | none => rfl
    | some v => exact absurd (S.mem_lt hq) (by have := hnew g hg; omega)
  · exact ⟨.own, 0, e, s, xs, cv, by rw [List.getElem?_concat_length], by rw [← S.len, List.getElem?_concat_length], Nat.le_refl _, fun _ => rfl⟩

theorem J_set_bx {hp : List Ent} {bk : List Cn} {id b : Nat} {e0 e1 : Ent} (h0 : hp[id]? = some e0) (hb0 : e0.bx = true) (hb1 : e1.bx = true) (hk : bk[id]? = some (.box b)) (e : EV) (u : Value) (h : J hp bk e u) : J (hp.set id e1) (bk.set id (.box b)) e u := by
  have hid := (List.getElem?_eq_some_iff.1 h0).1
  have hid' := (List.getElem?_eq_some_iff.1 hk).1
  cases e <;> try exact h
  case box i off =>
    obtain ⟨q, b', h1, hb, h2, h3⟩ := h
    by_cases hi : i = id
    · subst hi
      rw [h0] at h1; cases h1
      rw [hk] at h2; cases h2
      exact ⟨e1, b, List.getElem?_set_self hid, hb1, List.getElem?_set_self hid', h3⟩
    · exact ⟨q, b', by rw [getElem?_set_ne' hi]; exact h1, hb, by rw [getElem?_set_ne' hi]; exact h2, h3⟩
  case rp i ver kk off =>
    obtain ⟨q, v, el, s, xs, cv, h1, h2, h3⟩ := h
    have hi : i ≠ id := fun e' => by subst e'; rw [h0] at h1; cases h1; cases hb0
    exact ⟨q, v, el, s, xs, cv, by rw [getElem?_set_ne' hi]; exact h1, by rw [getElem?_set_ne' hi]; exact h2, h3⟩
  case row i ver =>
    obtain ⟨q, v, el, s, xs, cv, h1, h2, h3⟩ := h
    have hi : i ≠ id := fun e' => by subst e'; rw [h0] at h1; cases h1; cases hb0
    exact ⟨q, v, el, s, xs, cv, by rw [getElem?_set_ne' hi]; exact h1, by rw [getElem?_set_ne' hi]; exact h2, h3⟩

theorem J_set_box {hp : List Ent} {bk : List Cn} {id b : Nat} {md md' : Md} {cs cs' : List EV} (h0 : hp[id]? = some (.box md cs)) (hk : bk[id]? = some (.box b)) (e : EV) (u : Value) (h : J hp bk e u) : J (hp.set id (.box md' cs')) (bk.set id (.box b)) e u :=
  J_set_bx h0 rfl rfl hk e u h

/-- A row is written in place: as long as it was, at the same version. -/
theorem J_set_row {hp : List Ent} {bk : List Cn} {id : Nat} {md md' : Md} {v : Nat} {el : TypeId} {s : Shape} {xs ys : List s.Val} {cv : Value} (h0 : hp[id]? = some (.row md v el s xs)) (hk : bk[id]? = some (.row cv)) (hl : ys.length = xs.length) (e : EV) (u : Value) (h : J hp bk e u) :
    J (hp.set id (.row md' v el s ys)) (bk.set id (.row cv)) e u := by
  have hid := (List.getElem?_eq_some_iff.1 h0).1
  have hid' := (List.getElem?_eq_some_iff.1 hk).1
  cases e <;> try exact h
  case box i off =>
    obtain ⟨q, b', h1, hb, h2, h3⟩ := h
    have hi : i ≠ id := fun e' => by subst e'; rw [h0] at h1; cases h1; cases hb
    exact ⟨q, b', by rw [getElem?_set_ne' hi]; exact h1, hb, by rw [getElem?_set_ne' hi]; exact h2, h3⟩
  case rp i ver kk off =>
    obtain ⟨q, v', el', s', xs', cv', h1, h2, h3, h4⟩ := h
    by_cases hi : i = id
    · subst hi
      rw [h0] at h1; cases h1
      rw [hk] at h2; cases h2
      exact ⟨md', v, el, s, ys, cv, List.getElem?_set_self hid, List.getElem?_set_self hid', h3, fun q => by rw [hl]; exact h4 q⟩
    · exact ⟨q, v', el', s', xs', cv', by rw [getElem?_set_ne' hi]; exact h1, by rw [getElem?_set_ne' hi]; exact h2, h3, h4⟩
  case row i ver =>
    obtain ⟨q, v', el', s', xs', cv', h1, h2, h3, h4⟩ := h
    by_cases hi : i = id
    · subst hi
      rw [h0] at h1; cases h1
      rw [hk] at h2; cases h2
      exact ⟨md', v, el, s, ys, cv, List.getElem?_set_self hid, List.getElem?_set_self hid', h3, h4⟩
    · exact ⟨q, v', el', s', xs', cv', by rw [getElem?_set_ne' hi]; exact h1, by rw [getElem?_set_ne' hi]; exact h2, h3, h4⟩

/-- A row's next version: all that is known of the elder ones is forgotten. -/
theorem J_next_row {hp : List Ent} {bk : List Cn} {id : Nat} {md md' : Md} {v : Nat} {el el' : TypeId} {s s' : Shape} {xs : List s.Val} {ys : List s'.Val} {cv cv' : Value} (h0 : hp[id]? = some (.row md v el s xs)) (hk : bk[id]? = some (.row cv)) (e : EV) (u : Value) (h : J hp bk e u) :
    J (hp.set id (.row md' (v + 1) el' s' ys)) (bk.set id (.row cv')) e u := by
  have hid := (List.getElem?_eq_some_iff.1 h0).1
  have hid' := (List.getElem?_eq_some_iff.1 hk).1
  cases e <;> try exact h
  case box i off =>
    obtain ⟨q, b', h1, hb, h2, h3⟩ := h
    have hi : i ≠ id := fun e' => by subst e'; rw [h0] at h1; cases h1; cases hb
    exact ⟨q, b', by rw [getElem?_set_ne' hi]; exact h1, hb, by rw [getElem?_set_ne' hi]; exact h2, h3⟩
  case rp i ver kk off =>
    obtain ⟨q, v', el1, s1, xs', cv1, h1, h2, h3, h4⟩ := h
    by_cases hi : i = id
    · subst hi
      rw [h0] at h1; cases h1
      exact ⟨md', v + 1, el', s', ys, cv', List.getElem?_set_self hid, List.getElem?_set_self hid', by omega, fun q => by omega⟩
    · exact ⟨q, v', el1, s1, xs', cv1, by rw [getElem?_set_ne' hi]; exact h1, by rw [getElem?_set_ne' hi]; exact h2, h3, h4⟩
  case row i ver =>
    obtain ⟨q, v', el1, s1, xs', cv1, h1, h2, h3, h4⟩ := h
    by_cases hi : i = id
    · subst hi
      rw [h0] at h1; cases h1
      exact ⟨md', v + 1, el', s', ys, cv', List.getElem?_set_self hid, List.getElem?_set_self hid', by omega, fun q => by omega⟩
    · exact ⟨q, v', el1, s1, xs', cv1, by rw [getElem?_set_ne' hi]; exact h1, by rw [getElem?_set_ne' hi]; exact h2, h3, h4⟩

theorem run_storeAt {P : Program} {t : TypeId} {w : World} {b o : Nat} {cur : Array Value} {T : TypeId} {u : Value} (hb : w.heap[b]? = some (.cells cur T (0, 0))) (hsz : P.cellsOf t = u.cells.size) (h0 : 1 ≤ u.cells.size) (hfit : o + u.cells.size ≤ cur.size) (h1 : ∀ v ∈ u.cells.toList, v.oneCell' = true) :
    (Instr.storeAt t (.pointer (some ⟨b, o, none⟩)) u).run P w = .ok () (w.setRow b (cur.toList.take o ++ u.cells.toList ++ cur.toList.drop (o + u.cells.toList.length)).toArray) := by
  obtain ⟨i, hi, hs⟩ := cellsOf_pos (P := P) (t := t) (by omega)
  have hne : ¬ (u.cells.size ≠ i.size) := by rw [hs, hsz]; simp
  have := run_storeCells_at P b o T u.cells.toList 0 cur w hb (by simpa using hfit) h1
  simp only [Nat.add_zero] at this
  simp [Instr.storeAt, Instr.sureAddr, storeVar, sizeOf, typeInfo, hi, hne, this]
end
end Go.Proofs.YtgeefhjlfdidmaaGreatDoor.V


/- Operations that make or write memory: the model does what the condition says. No condition of its own. -/
namespace Go.Proofs.YtgeefhjlfdidmaaGreatDoor.V
open Go Go.RowKit
set_option linter.unusedVariables false
set_option linter.unusedSimpArgs false

section
variable {c : Cfg} {m0 : Mem} {w0 : World} {fx : Fx} {m : Mem} {bk : List Cn} {st : St} {a : Act} {w : World}

theorem alloc_sound (S : Sat c m0 w0 fx m bk st a w) {t : TypeId} {s : Shape} (hz : c.zeroOK t s = true) {K : EV → List Ent → Prop} (k : K (.box st.hp.length 0) (st.hp ++ [.box .own s.zeroC])) :
    ∃ u w', (Instr.alloc t true (.tuple #[])).run c.P w = .ok u w' ∧ ResK c m0 w0 fx st a w K u w' := by
  obtain ⟨z, z1, z2, _⟩ := zeroOK_sound (m := m) (J st.hp bk) hz
  refine ⟨_, _, ?_, new_box S t z.cells _ z2 k⟩
  simp [Instr.alloc, run_zeroValue z1 w, newVar, newRow]

theorem alloc_raw_sound (S : Sat c m0 w0 fx m bk st a w) {t : TypeId} {zs : Array Value} (hz : (c.P.info? t).bind (·.zero) = some (.agg zs)) {K : EV → List Ent → Prop} (k : K (.box st.hp.length 0) (st.hp ++ [.box .own (zs.toList.map cst)])) :
    ∃ u w', (Instr.alloc t true (.tuple #[])).run c.P w = .ok u w' ∧ ResK c m0 w0 fx st a w K u w' := by
  refine ⟨_, _, ?_, new_box S t (Value.agg zs).cells _ (RepL_cst zs.toList) k⟩
  simp [Instr.alloc, run_zeroValue hz w, newVar, newRow]

theorem box_sound (S : Sat c m0 w0 fx m bk st a w) {t : TypeId} {v : EV} {u : Value} (hu : Rep c.P m v (J st.hp bk) u) (h1 : oneV st v = true) {K : EV → List Ent → Prop} (k : K (.box st.hp.length 0) (st.hp ++ [.box .own v.cells])) :
    ∃ u' w', (Instr.box t u).run c.P w = .ok u' w' ∧ ResK c m0 w0 fx st a w K u' w' := by
  refine ⟨_, _, ?_, new_box S t u.cells _ (cells_sound S hu h1).1 k⟩
  simp [Instr.box, newVar, newRow]

theorem all_one (S : Sat c m0 w0 fx m bk st a w) : ∀ {cs : List EV} {us : List Value}, RepL c.P m cs (J st.hp bk) us → cs.all (cellV st) = true → ∀ u ∈ us, u.oneCell' = true
  | [], us, h, _, u, hu => by rw [RepL_nil.1 h] at hu; cases hu
  | v :: r, us, h, k, u, hu => by
    obtain ⟨q, us', rfl, h1, h2⟩ := RepL_cons.1 h
    simp only [List.all_cons, Bool.and_eq_true] at k
    rcases List.mem_cons.1 hu with e | e
    · subst e
      refine (cells_sound S h1 ?_).2 k.1
      have := k.1
      simp only [cellV, Bool.and_eq_true] at this
      exact this.1
    · exact all_one S h2 k.2 u e

/-- An object is laid where another one lay. -/
def setO (w : World) (r : Nat) (o : Obj) : World := { w with heap := w.heap.setIfInBounds r o }

theorem setO_at (w : World) (r : Nat) (o : Obj) (h : r < w.heap.size) : (setO w r o).heap[r]? = some o := by
  show (w.heap.setIfInBounds r o)[r]? = _
  simp [h]

theorem setO_other (w : World) (r : Nat) (o : Obj) (c : Nat) (h : c ≠ r) : (setO w r o).heap[c]? = w.heap[c]? := by
  show (w.heap.setIfInBounds r o)[c]? = _
  rw [Array.getElem?_setIfInBounds_ne (fun e => h e.symm)]

theorem setO_size (w : World) (r : Nat) (o : Obj) : (setO w r o).heap.size = w.heap.size := by
  show (w.heap.setIfInBounds r o).size = _
  simp

theorem store_box_sound (S : Sat c m0 w0 fx m bk st a w) {t : TypeId} {id off : Nat} {cs : List EV} {v : EV} {p u : Value} (hp : Rep c.P m (.box id off) (J st.hp bk) p) (hu : Rep c.P m v (J st.hp bk) u) (he : st.hp[id]? = some (.box .own cs))
    (h1 : oneV st v = true) (h2 : v.cells.all (cellV st) = true) (h3 : v.cells.length = c.sizeOf t) (h4 : off + v.cells.length ≤ cs.length) (h5 : 1 ≤ v.cells.length) {K : EV → List Ent → Prop} (k : K .bot (st.hp.set id (.box .own (laid cs off v.cells)))) :
    ∃ w', (Instr.storeAt t p u).run c.P w = .ok () w' ∧ Res c m0 w0 fx st a K undef w' := by
  obtain ⟨_, b, q1, _, q2, q3⟩ := hp
  rw [he] at q1; cases q1
  subst q3
  obtain ⟨kk, k1, k2⟩ := S.ents id _ he
  rw [q2] at k1; cases k1
  obtain ⟨us, T, e1, e2, e3, e4, e5⟩ := k2
  obtain ⟨r1, _⟩ := cells_sound S hu h1
  have hlen : u.cells.size = v.cells.length := by rw [← RepL_length r1]; simp
  have hcs : us.size = cs.length := by rw [← RepL_length e2]; simp
  have hrun := run_storeAt (P := c.P) (t := t) (o := off) (u := u) e1 (by rw [hlen, h3]; rfl) (by omega) (by omega) (all_one S r1 h2)
  refine ⟨_, hrun, .bot, _, m, bk.set id (.box b), k, ?_, trivial⟩
  have hsame : ∀ b', b' < w.heap.size → (Cn.box b).blk ≠ some b' → (w.setRow b (us.toList.take off ++ u.cells.toList ++ us.toList.drop (off + u.cells.toList.length)).toArray).heap[b']? = w.heap[b']? :=
    fun b' _ hne => setRow_other w b b' _ (fun e => hne (by rw [e]; rfl))
  refine S.update he rfl q2 (Below.of_same S.below rfl rfl rfl (by simp) fun i hi => setRow_other w b i _ (by have := (S.blk_lt (i := id) (b := b) (by rw [q2]; rfl)).1; omega)) (by simp) hsame (fun b' h => .inl h) (fun e u => J_set_box he q2 e u) ?_
  refine ⟨_, T, setRow_heap w b us _ T _ e1, ?_, e3, (fun q => by cases q), fun q => e5 q⟩
  exact RepL_mono (Mem.le_refl m) _ (fun e u => J_set_box he q2 e u) (laid_sound e2 r1)

theorem getO_at {w : World} {b : Nat} {s : ByteArray} {n : Nat} (h : w.heap[b]? = some (.stringIter s n)) (P : Program) : (getObj b).run P w = .ok (.stringIter s n) w := by
  simp [getObj, Sem.run, h]

/-- An iterator over a string moves on. -/
theorem next_sound (S : Sat c m0 w0 fx m bk st a w) {id : Nat} {s : ByteArray} {pos : Int} {p : Value} {ty : TypeId} (hp : Rep c.P m (.box id 0) (J st.hp bk) p) (he : st.hp[id]? = some (.iter .own s pos)) {K : EV → List Ent → Prop}
    (k : strK s pos (fun r q => K (.tup [.p .bool true, .p (.int .i64) pos, .p (.int .i32) r]) (st.hp.set id (.iter .own s q))) (K (.tup [.p .bool false]) st.hp)) :
    ∃ u w', (Instr.next p true ty).run c.P w = .ok u w' ∧ Res c m0 w0 fx st a K u w' := by
  obtain ⟨_, b, q1, _, q2, q3⟩ := hp
  rw [he] at q1; cases q1
  subst q3
  obtain ⟨kk, k1, k2⟩ := S.ents id _ he
  rw [q2] at k1; cases k1
  obtain ⟨e1, ⟨n, rfl, e2⟩, e3⟩ := k2
  have hget := getO_at e2 c.P
  have hlt : b < w.heap.size := by
    rcases Nat.lt_or_ge b w.heap.size with q | q
    · exact q
    · simp [Array.getElem?_eq_none q] at e2
  unfold strK at k
  rw [Int.toNat_natCast] at k
  split at k
  · rename_i hpos
    refine ⟨.tuple #[.bool true, .int .i64 (n : Int), .int .i32 ((Utf8.decode s n).1 : Int)], setO w b (.stringIter s (n + (Utf8.decode s n).2)), ?_, _, _, m, bk.set id (.box b), k, ?_, ?_⟩
    · simp only [Instr.next, Sem.run_bind, hget, Result.andThen_ok, if_pos hpos]
      simp [setObj, Sem.run, e2, setO, goInt]
    · refine S.update he rfl q2 (Below.of_same S.below rfl rfl rfl (by rw [setO_size]; exact Nat.le_refl _) fun i hi => setO_other w b _ i (by have := (S.blk_lt (i := id) (b := b) (by rw [q2]; rfl)).1; omega)) (by rw [setO_size]; exact Nat.le_refl _)
        (fun b' _ hne => setO_other w b _ b' (fun e => hne (by rw [e]; rfl))) (fun b' h => .inl h) (fun e u => J_set_bx he rfl rfl q2 e u) ?_
      exact ⟨e1, ⟨n + (Utf8.decode s n).2, by simp, setO_at w b _ hlt⟩, e3⟩
    · exact ⟨_, rfl, RepL_cons.2 ⟨_, _, rfl, rfl, RepL_cons.2 ⟨_, _, rfl, rfl, RepL_cons.2 ⟨_, _, rfl, rfl, RepL_nil.2 rfl⟩⟩⟩⟩
  · rename_i hpos
    refine ⟨.tuple #[.bool false], w, ?_, _, _, m, bk, k, S, ⟨_, rfl, RepL_cons.2 ⟨_, _, rfl, rfl, RepL_nil.2 rfl⟩⟩⟩
    simp only [Instr.next, Sem.run_bind, hget, Result.andThen_ok, if_neg hpos, Sem.run_pure]

theorem splice {α : Type} (P D Q u : List α) (off : Nat) (h : off + u.length ≤ D.length) :
    (P ++ D ++ Q).take (P.length + off) ++ u ++ (P ++ D ++ Q).drop (P.length + off + u.length) = P ++ (D.take off ++ u ++ D.drop (off + u.length)) ++ Q := by
  rw [List.append_assoc P D Q, List.take_length_add_append, Nat.add_assoc, List.drop_length_add_append, List.take_append_of_le_length (by omega), List.drop_append_of_le_length h]
  simp

theorem frz_none (S : Sat c m0 w0 fx m bk st a w) : FrzOK c.P m m st.hp bk (fun _ => False) := fun _ h => h.elim

theorem store_row_sound (S : Sat c m0 w0 fx m bk st a w) {t : TypeId} {id ver vv kk off : Nat} {e : TypeId} {s : Shape} {xs : List s.Val} {v : EV} {p u : Value} (hp : Rep c.P m (.rp id ver kk off) (J st.hp bk) p) (hu : Rep c.P m v (J st.hp bk) u) (he : st.hp[id]? = some (.row .own vv e s xs)) (hv : vv = ver)
    (h1 : oneV st v = true) (h2 : v.cells.all (cellV st) = true) (h3 : v.cells.length = c.sizeOf t) (h4 : off + v.cells.length ≤ s.size) (h5 : 1 ≤ v.cells.length) (h6 : noIds (EV.idsL (laid (s.cellsE (rd s xs kk)) off v.cells)) = true) {K : EV → List Ent → Prop}
    (k : decC c st s (laid (s.cellsE (rd s xs kk)) off v.cells) fun y r => match r with
      | [] => K .bot (st.hp.set id (.row .own vv e s (xs.set kk y)))
      | _ => False) :
    ∃ w', (Instr.storeAt t p u).run c.P w = .ok () w' ∧ Res c m0 w0 fx st a K undef w' := by
  obtain ⟨md, v', e', s', xs', cv, q1, q2, q3, q4⟩ := hp
  rw [he] at q1; cases q1
  obtain ⟨g, n, cap, rfl, rfl, q5⟩ := q4 hv.symm
  obtain ⟨kq, k1, k2⟩ := S.ents id _ he
  rw [q2] at k1; cases k1
  obtain ⟨cs, r1, r2, r3, r4⟩ := k2
  rcases r2.2 with ⟨q6, _⟩ | ⟨g', cap', cur, e1, e2, e3, e4, e5, e6, e7⟩
  · cases q6
  simp only [Value.slice.injEq, Option.some.injEq, Addr.mk.injEq, and_true, true_and] at e1
  obtain ⟨rfl, rfl, rfl⟩ := e1
  obtain ⟨d, d1, d2⟩ := RowRep_get r1 (rd_get q5)
  obtain ⟨c1, _⟩ := cells_sound S hu h1
  have hlen : u.cells.size = v.cells.length := by rw [← RepL_length c1]; simp
  have hlen' : u.cells.toList.length = v.cells.length := by simpa using hlen
  have hl := laid_sound (off := off) (RepL_cells s (J st.hp bk) d1) c1
  have hno : ∀ i ∈ EV.idsL (laid (s.cellsE (rd s xs kk)) off v.cells), False := by
    intro i hi
    unfold noIds at h6
    split at h6
    · rename_i hh; rw [hh] at hi; cases hi
    · cases h6
  obtain ⟨y, r, us1, us2, y1, y2, y3, y4, _⟩ := (dec_sound (frz_none S) (Mem.le_refl m) S.tab s).2.1 _ _ _ hl hno k
  split at y1
  · rw [RepL_nil.1 y4, List.append_nil] at y2
    subst y2
    have hcl := RowRep_length r1
    have hd := Reps.C_length s d1
    have hk1 : (kk + 1) * s.size ≤ xs.length * s.size := Nat.mul_le_mul_right _ (by omega)
    have hk2 : (kk + 1) * s.size = kk * s.size + s.size := Nat.succ_mul _ _
    have hxc : xs.length * s.size ≤ cap * s.size := Nat.mul_le_mul_right _ e4
    have hrun := run_storeAt (P := c.P) (t := t) (o := kk * s.size + off) (u := u) e3 (by rw [hlen, h3]; rfl) (by omega) (by rw [e6]; omega) (all_one S c1 h2)
    refine ⟨_, hrun, .bot, _, m, bk.set id (.row (.slice (some ⟨g, 0, none⟩) xs.length cap)), y1, ?_, trivial⟩
    have hsame : ∀ b', b' < w.heap.size → (Cn.row (.slice (some ⟨g, 0, none⟩) xs.length cap)).blk ≠ some b' →
        (w.setRow g (cur.toList.take (kk * s.size + off) ++ u.cells.toList ++ cur.toList.drop (kk * s.size + off + u.cells.toList.length)).toArray).heap[b']? = w.heap[b']? :=
      fun b' _ hne => setRow_other w g b' _ (fun e => hne (by rw [e]; rfl))
    refine S.update he rfl q2 (Below.of_same S.below rfl rfl rfl (by simp) fun i hi => setRow_other w g i _ (by omega)) (by simp) hsame (fun b' h => .inl h) (fun e u => J_set_row he q2 (by simp) e u) ?_
    refine ⟨cs.take (kk * s.size) ++ (d.take off ++ u.cells.toList ++ d.drop (off + u.cells.toList.length)) ++ cs.drop (kk * s.size + s.size), RowRep_set r1 q5 y3, ⟨?_, .inr ⟨g, cap, _, by simp, e2, setRow_heap w g cur _ e _ e3, by simpa using e4, e5, ?_, ?_⟩⟩, (fun q => by cases q), r4⟩
    · have := RowRep_length (RowRep_set r1 q5 y3)
      exact this
    · simp only [List.size_toArray, List.length_append, List.length_take, List.length_drop, Array.length_toList, e6]
      omega
    · simp only [List.length_set]
      have hcur : cur.toList = cs.take (kk * s.size) ++ d ++ (cs.drop (kk * s.size + s.size) ++ cur.toList.drop (xs.length * s.size)) := by
        have h1 : cs = cs.take (kk * s.size) ++ d ++ cs.drop (kk * s.size + s.size) := by
          rw [← d2, ← List.drop_drop, List.append_assoc, List.take_append_drop, List.take_append_drop]
        rw [← List.append_assoc, ← h1, ← e7, List.take_append_drop]
      have hP : (cs.take (kk * s.size)).length = kk * s.size := by rw [List.length_take]; omega
      rw [hcur]
      have := splice (cs.take (kk * s.size)) d (cs.drop (kk * s.size + s.size) ++ cur.toList.drop (xs.length * s.size)) u.cells.toList off (by omega)
      rw [hP] at this
      rw [this, ← List.append_assoc]
      refine List.take_left' ?_
      simp only [List.length_append, List.length_take, List.length_drop]
      omega
  · exact y1.elim

theorem zero_info {e : TypeId} {s : Shape} (hz : c.zeroOK e s = true) : ∃ i z, c.P.info? e = some i ∧ i.zero = some z ∧ z.cells.size = s.size := by
  obtain ⟨z, z1, z2, _⟩ := zeroOK_sound (c := c) (m := fun _ _ => none) (fun _ _ => False) hz
  cases hi : c.P.info? e with
  | none => rw [hi] at z1; cases z1
  | some i =>
    rw [hi] at z1
    exact ⟨i, z, rfl, z1, by rw [← zeroC_length s, ← RepL_length z2]; simp⟩

theorem run_append_nothing (w : World) (base : Nat) (t ty e : TypeId) (i : TypeInfo) (size : Nat) (ht : c.P.underlying t = some (.slice e)) (hi : c.P.info? e = some i) (v : Value) (n cap : Nat) (xs : List Value) (hown : w.ownsRow base e size v n xs) :
    (Builtin.append_ #[t, t] ty #[v, .slice none 0 cap]).run c.P w = .ok v w := by
  rcases hown.2 with ⟨rfl, rfl⟩ | ⟨g, cap', cur, rfl, _, _, hnc, _⟩
  · simp [Builtin.append_, run_underlying ht, sizeOf, typeInfo, hi, Builtin.lenOf, Builtin.firstCells]
  · simp [Builtin.append_, run_underlying ht, sizeOf, typeInfo, hi, Builtin.lenOf, Builtin.firstCells, hnc, storeCells]

/-- The library's law of append, and where the result lies. -/
theorem run_append_own' {P : Program} (w : World) (base : Nat) (t ty e : TypeId) (i : TypeInfo) (z : Value) (size bytes : Nat) (ht : P.underlying t = some (.slice e)) (hi : P.info? e = some i) (hz : i.zero = some z)
    (hsize : i.size = size) (hby : i.bytes = bytes) (hzs : z.cells.size = size) (hsz : 0 < size) (v : Value) (n : Nat) (xs : List Value) (hown : w.ownsRow base e size v n xs)
    (ad : Addr) (k cp : Nat) (news : List Value) (hl : news.length = k * size) (hnews : ∀ j u, news[j]? = some u → w.cell? (ad.add j) = some u) (h1 : ∀ u ∈ news, u.oneCell' = true)
    (h63 : n + k ≤ maxLen) (hbytes : (n + k) * bytes ≤ 140737488355328) (hbase : base ≤ w.heap.size) :
    ∃ v' w', (Builtin.append_ #[t, t] ty #[v, .slice (some ad) k cp]).run P w = .ok v' w' ∧ w'.ownsRow base e size v' (n + k) (xs ++ news) ∧ w.grownBy w' v.ownBlock ∧ (∀ b, v'.ownBlock = some b → v.ownBlock = some b ∨ w.heap.size ≤ b) := by
  obtain ⟨v', w', r1, r2, r3, _⟩ := run_append_own (P := P) w base t ty e i z size bytes ht hi hz hsize hby hzs hsz v n xs hown ad k cp news hl hnews h1 h63 hbytes hbase
  refine ⟨v', w', r1, r2, r3, ?_⟩
  subst hsize
  subst hby
  have hsmall : n + k ≤ 9223372036854775807 := by simp only [maxLen] at h63; omega
  rcases hown.2 with ⟨rfl, rfl⟩ | ⟨g, cap, cur, rfl, hbg, hg, hnc, hcm, hcs, htake⟩
  · by_cases hk : k = 0
    · subst hk
      have hn : news = [] := List.eq_nil_of_length_eq_zero (by simpa using hl)
      subst hn
      have hr : (Builtin.append_ #[t, t] ty #[.slice none 0 0, .slice (some ad) 0 cp]).run P w = .ok (.slice none 0 0) w := by
        simp [Builtin.append_, run_underlying ht, sizeOf, typeInfo, hi, Builtin.lenOf, Builtin.firstCells, loadCells, loadCellsFrom]
      rw [hr] at r1; cases r1
      intro b hb; cases hb
    · have hr := run_append_nil (P := P) w t ty e i z ht hi hz ad k cp news hl hnews (by omega) (by omega) (by have hb := hbytes; simp only [Nat.zero_add] at hb; omega)
      rw [hr] at r1; cases r1
      intro b hb; cases hb
      exact .inr (Nat.le_refl _)
  · by_cases hroom : n + k ≤ cap
    · have hfit : n * i.size + news.length ≤ cur.size := by rw [hl, hcs, ← Nat.add_mul]; exact Nat.mul_le_mul_right _ hroom
      have hr := run_append_room (P := P) w t ty e i ht hi g n cap cur hg ad k cp news hl hnews h1 hroom hfit
      rw [hr] at r1; cases r1
      intro b hb; exact .inl hb
    · have holds : ∀ j u, xs[j]? = some u → w.cell? ((⟨g, 0, none⟩ : Addr).add j) = some u := hown.cells (g := g) rfl
      have hr := run_append_grow (P := P) w t ty e i z ht hi hz ⟨g, 0, none⟩ n cap xs hown.1 holds ad k cp news hl hnews (by omega) (by omega) (growslice_fits (by omega) hbytes)
      rw [hr] at r1; cases r1
      intro b hb; cases hb
      exact .inr (Nat.le_refl _)

theorem append_run (w : World) {n0 : Nat} {t ty e : TypeId} {s : Shape} (ht : c.P.underlying t = some (.slice e)) (hz : c.zeroOK e s = true) (hsz : c.sizeOf e = s.size) (hpos : 1 ≤ s.size) (hby : 1 ≤ c.P.bytesOf e) {cv : Value} {xs ys : List s.Val} {cs ds : List Value}
    (ho : w.ownsRow n0 e s.size cv xs.length cs) (hn0 : n0 ≤ w.heap.size) {base : Option Addr} {cap : Nat} (hy : RowRep c.P m s ys ds) (hd : ys = [] ∨ ∃ ad, base = some ad ∧ ∀ j v, ds[j]? = some v → w.cell? (ad.add j) = some v)
    (hb : (xs.length + ys.length) * c.P.bytesOf e ≤ 140737488355328) :
    ∃ v' w', (Builtin.append_ #[t, t] ty #[cv, .slice base ys.length cap]).run c.P w = .ok v' w' ∧ w'.ownsRow n0 e s.size v' (xs.length + ys.length) (cs ++ ds) ∧ w.grownBy w' cv.ownBlock ∧ (∀ b, v'.ownBlock = some b → cv.ownBlock = some b ∨ w.heap.size ≤ b) := by
  obtain ⟨i, z, hi, hz1, hz2⟩ := zero_info hz
  have hisz : i.size = s.size := by rw [← hsz]; simp [Cfg.sizeOf, Program.cellsOf, hi]
  have hiby : i.bytes = c.P.bytesOf e := by simp [Program.bytesOf, hi]
  have hmx : xs.length + ys.length ≤ maxLen := by
    have : (xs.length + ys.length) * 1 ≤ (xs.length + ys.length) * c.P.bytesOf e := Nat.mul_le_mul_left _ hby
    unfold maxLen; omega
  rcases hd with hd | ⟨ad, rfl, hd⟩
  · subst hd
    have hds : ds = [] := hy
    subst hds
    cases base with
    | none =>
      refine ⟨cv, w, run_append_nothing w n0 t ty e i s.size ht hi cv xs.length cap cs ho, by simpa using ho, ⟨rfl, rfl, rfl, Nat.le_refl _, fun _ _ _ => rfl⟩, fun b hb => .inl hb⟩
    | some ad =>
      obtain ⟨v', w', h1, h2, h3, h4⟩ := run_append_own' (P := c.P) w n0 t ty e i z s.size i.bytes ht hi hz1 hisz rfl hz2 hpos cv xs.length cs ho ad 0 cap [] (by simp) (fun j u h => by simp at h) (fun u h => by cases h) (by simpa using hmx) (by rw [hiby]; simpa using hb) hn0
      exact ⟨v', w', h1, h2, h3, h4⟩
  · obtain ⟨v', w', h1, h2, h3, h4⟩ := run_append_own' (P := c.P) w n0 t ty e i z s.size i.bytes ht hi hz1 hisz rfl hz2 hpos cv xs.length cs ho ad ys.length cap ds (RowRep_length hy) hd (RowRep_one hy) hmx (by rw [hiby]; exact hb) hn0
    exact ⟨v', w', h1, h2, h3, h4⟩

theorem append_row_sound (S : Sat c m0 w0 fx m bk st a w) {t ty e : TypeId} {id ver v : Nat} {s : Shape} {xs ys : List s.Val} {p : Value} {ds : List Value} {base : Option Addr} {cap : Nat} (hp : Rep c.P m (.row id ver) (J st.hp bk) p) (he : st.hp[id]? = some (.row .own v e s xs)) (hv : v = ver)
    (ht : c.P.underlying t = some (.slice e)) (hz : c.zeroOK e s = true) (hsz : c.sizeOf e = s.size) (hpos : 1 ≤ s.size) (hby : 1 ≤ c.P.bytesOf e) (hy : RowRep c.P m s ys ds) (hd : ys = [] ∨ ∃ ad, base = some ad ∧ ∀ j v, ds[j]? = some v → w.cell? (ad.add j) = some v)
    (hb : (xs.length + ys.length) * c.P.bytesOf e ≤ 140737488355328) {K : EV → List Ent → Prop} (k : K (.row id (ver + 1)) (st.hp.set id (.row .own (ver + 1) e s (xs ++ ys)))) :
    ∃ u w', (Builtin.append_ #[t, t] ty #[p, .slice base ys.length cap]).run c.P w = .ok u w' ∧ Res c m0 w0 fx st a K u w' := by
  subst hv
  obtain ⟨hk, _⟩ := S.rowVal he rfl hp
  obtain ⟨kq, k1, k2⟩ := S.ents id _ he
  rw [hk] at k1; cases k1
  obtain ⟨cs, r1, r2, r3, r4⟩ := k2
  have hid := (List.getElem?_eq_some_iff.1 he).1
  have hid' := (List.getElem?_eq_some_iff.1 hk).1
  obtain ⟨v', w', h1, h2, h3, h4⟩ := append_run (m := m) w (ty := ty) ht hz hsz hpos hby r2 S.n0le (cap := cap) hy hd hb
  have hJ : ∀ e' u, J st.hp bk e' u → J (st.hp.set id (.row .own (v + 1) e s (xs ++ ys))) (bk.set id (.row v')) e' u := fun e' u => J_next_row he hk e' u
  refine ⟨v', w', h1, _, _, m, bk.set id (.row v'), k, ?_, ?_⟩
  · refine S.update he rfl hk (Below.of_same S.below h3.os h3.tape h3.output h3.size fun i hi => h3.block i (by have := S.n0le; omega) (fun e' => ?_)) h3.size (fun b hb hne => h3.block b hb fun e' => hne e'.symm) h4 hJ ?_
    · have := (S.blk_lt (i := id) (b := i) (by rw [hk]; exact e'.symm)).1
      omega
    · refine ⟨cs ++ ds, RowRep_append r1 hy, by rw [List.length_append]; exact h2, (fun q => by cases q), fun _ g hg o => ?_⟩
      rcases h4 g hg with q | q
      · exact r4 (by intro q; cases q) g q o
      · cases hq : m g o with
        | none => rfl
        | some x => exact absurd (S.mem_lt hq) (by omega)
  · exact ⟨.own, v + 1, e, s, xs ++ ys, v', List.getElem?_set_self hid, List.getElem?_set_self hid', Nat.le_refl _, fun _ => rfl⟩

theorem append_nil_sound (S : Sat c m0 w0 fx m bk st a w) {t ty e : TypeId} {s : Shape} {ys : List s.Val} {ds : List Value} {base : Option Addr} {cap : Nat}
    (ht : c.P.underlying t = some (.slice e)) (hz : c.zeroOK e s = true) (hsz : c.sizeOf e = s.size) (hpos : 1 ≤ s.size) (hby : 1 ≤ c.P.bytesOf e) (hy : RowRep c.P m s ys ds) (hd : ys = [] ∨ ∃ ad, base = some ad ∧ ∀ j v, ds[j]? = some v → w.cell? (ad.add j) = some v)
    (hb : ys.length * c.P.bytesOf e ≤ 140737488355328) {K : EV → List Ent → Prop} (k : K (.row st.hp.length 0) (st.hp ++ [.row .own 0 e s ys])) :
    ∃ u w', (Builtin.append_ #[t, t] ty #[.slice none 0 0, .slice base ys.length cap]).run c.P w = .ok u w' ∧ Res c m0 w0 fx st a K u w' := by
  obtain ⟨v', w', h1, h2, h3, h4⟩ := append_run (m := m) (xs := ([] : List s.Val)) w (ty := ty) ht hz hsz hpos hby (World.ownsRow_nil w fx.n0 e s.size) S.n0le (cap := cap) hy hd (by simpa using hb)
  simp only [List.length_nil, Nat.zero_add, List.nil_append] at h2
  have hnew : ∀ b, v'.ownBlock = some b → w.heap.size ≤ b := fun b hb => by
    rcases h4 b hb with q | q
    · cases q
    · exact q
  have hsame : ∀ b, b < w.heap.size → w'.heap[b]? = w.heap[b]? := fun b hb => h3.block b hb (by intro q; cases q)
  exact ⟨v', w', h1, (new_row S e s (Below.of_same S.below h3.os h3.tape h3.output h3.size fun i hi => hsame i (by have := S.n0le; omega)) hsame hy h2 hnew k h3.size).1⟩
end
end Go.Proofs.YtgeefhjlfdidmaaGreatDoor.V


/- Calls, and slices that are written out: the model does what the condition says. No condition of its own. -/
namespace Go.Proofs.YtgeefhjlfdidmaaGreatDoor.V
open Go Go.RowKit
set_option linter.unusedVariables false
set_option linter.unusedSimpArgs false

section
variable {c : Cfg} {m0 : Mem} {w0 : World} {fx : Fx} {m : Mem} {bk : List Cn} {st : St} {a : Act} {w : World}

/-- Behind a call: of what was there nothing has turned. -/
theorem Sat.world (S : Sat c m0 w0 fx m bk st a w) {m' : Mem} {w' : World} (he : Mem.ext w.heap.size m m') (hh : Holds w' m') (hb : Below w.heap.size w w') : Sat c m0 w0 fx m' bk st a w' := by
  have hsz := S.n0le
  refine { S with hold := hh, tab := S.tab.mono he.1, ext := Mem.ext_trans S.ext (Mem.ext_mono he hsz), below := S.below.trans (hb.mono hsz), keep := fun b hb' => ⟨(S.keep b hb').1, (hb.block b (Nat.lt_of_lt_of_le (S.keep b hb').1 S.below.size)).trans (S.keep b hb').2.1, (S.keep b hb').2.2⟩, ents := fun i e q => ?_, env := fun i => Rep_mono he.1 _ (fun _ _ q => q) (S.env i) }
  obtain ⟨k, h1, h2⟩ := S.ents i e q
  exact ⟨k, h1, h2.mono he.1 (fun _ _ q => q) (fun b hb' => hb.block b (h2.lt hb').2) (fun _ b hb' hn o => by rw [he.2 b o (h2.lt hb').2]; exact hn o)⟩

theorem Sat.holds_below (S : Sat c m0 w0 fx m bk st a w) {w' : World} (hb : Below w.heap.size w w') : Holds w' m := by
  intro b o v h
  rw [← S.hold b o v h]
  exact World.cell?_of_block (hb.block b (S.mem_lt h))

mutual
theorem ids_ok {P : Program} {hp : List Ent} : ∀ (v : EV) {u : Value}, Rep P m v (J hp bk) u → ∀ i ∈ v.ids, ∃ x, hp[i]? = some x
  | .bot, _, _, i, hi => by simp [EV.ids] at hi
  | .p _ _, _, _, i, hi => by simp [EV.ids] at hi
  | .raw _, _, _, i, hi => by simp [EV.ids] at hi
  | .nil _, _, _, i, hi => by simp [EV.ids] at hi
  | .ip _ _, _, _, i, hi => by simp [EV.ids] at hi
  | .box id off, _, k, i, hi => by
    simp only [EV.ids, List.mem_singleton] at hi
    subst hi
    obtain ⟨e, b, h1, _⟩ := k
    exact ⟨_, h1⟩
  | .rp id _ _ _, _, k, i, hi => by
    simp only [EV.ids, List.mem_singleton] at hi
    subst hi
    obtain ⟨md, v, e, s, xs, cv, h1, _⟩ := k
    exact ⟨_, h1⟩
  | .row id _, _, k, i, hi => by
    simp only [EV.ids, List.mem_singleton] at hi
    subst hi
    obtain ⟨md, v, e, s, xs, cv, h1, _⟩ := k
    exact ⟨_, h1⟩
  | .agg cs, _, k, i, hi => by obtain ⟨us, _, e2⟩ := k; exact idsL_ok cs e2 i hi
  | .tup cs, _, k, i, hi => by obtain ⟨us, _, e2⟩ := k; exact idsL_ok cs e2 i hi
  | .clo _ a b, _, k, i, hi => by
    obtain ⟨xs, ys, _, e2, e3⟩ := k
    simp only [EV.ids, List.mem_append] at hi
    rcases hi with hi | hi
    · exact idsL_ok a e2 i hi
    · exact idsL_ok b e3 i hi
  | .ifc _ v, _, k, i, hi => by obtain ⟨x, _, e2⟩ := k; exact ids_ok v e2 i hi
theorem idsL_ok {P : Program} {hp : List Ent} : ∀ (cs : List EV) {us : List Value}, RepL P m cs (J hp bk) us → ∀ i ∈ EV.idsL cs, ∃ x, hp[i]? = some x
  | [], _, _, i, hi => by simp [EV.idsL] at hi
  | c :: r, _, k, i, hi => by
    obtain ⟨u, us', _, e2, e3⟩ := RepL_cons.1 k
    simp only [EV.idsL, List.mem_append] at hi
    rcases hi with hi | hi
    · exact ids_ok c e2 i hi
    · exact idsL_ok r e3 i hi
end

/-- All blocks, frozen for the while of a call. -/
theorem frz_all (S : Sat c m0 w0 fx m bk st a w) : FrzOK c.P m (frzM m w (blks bk fun i => ∃ x, st.hp[i]? = some x)) st.hp bk (fun i => ∃ x, st.hp[i]? = some x) := by
  refine frz_ok S _ fun i ⟨x, hx⟩ => ⟨x, hx, fun j hj => ?_⟩
  obtain ⟨k, h1, h2⟩ := S.ents i x hx
  cases x with
  | row md v e s xs => simp [Ent.ids] at hj
  | iter md s pos => simp [Ent.ids] at hj
  | box md cs =>
    cases k with
    | row v => exact h2.elim
    | box b => obtain ⟨us, T, _, r, _⟩ := h2; exact idsL_ok cs r j hj

theorem frz_shut (S : Sat c m0 w0 fx m bk st a w) {ids : List Nat} (hs : shutIds st.hp ids = true) : FrzOK c.P m (frzM m w (blks bk (· ∈ ids))) st.hp bk (· ∈ ids) := by
  refine frz_ok S _ fun i hi => ?_
  have := List.all_eq_true.1 hs i hi
  split at this
  · rename_i x hx
    simp only [Bool.and_eq_true, List.all_eq_true] at this
    exact ⟨x, hx, fun j hj => by simpa using this.2 j hj⟩
  · cases this

theorem closeIds_mem {hp : List Ent} {l : List Nat} {i : Nat} (h : i ∈ l) : i ∈ closeIds hp l := by simp [closeIds, h]

/-- A value without slices, functions and interfaces asks nothing of memory. -/
theorem flat_V {P : Program} (s : Shape) : s.flat = true → ∀ {m m' : Mem}, (∀ x us, (Reps P s).C m x us → (Reps P s).C m' x us) ∧ (∀ x us, (Reps P s).A m x us → (Reps P s).A m' x us) ∧ (∀ x u, (Reps P s).V m x u → (Reps P s).V m' x u) := by
  induction s with
  | bool => intro _ m m'; exact ⟨fun _ _ k => k, fun _ _ k => k, fun _ _ k => k⟩
  | int k => intro _ m m'; exact ⟨fun _ _ k => k, fun _ _ k => k, fun _ _ k => k⟩
  | slice s _ => intro h; cases h
  | st f ih =>
    intro h m m'
    exact ⟨(ih h).1, fun x us ⟨cs, e1, e2⟩ => ⟨cs, e1, (ih h).1 _ _ e2⟩, fun x u ⟨cs, e1, e2⟩ => ⟨cs, e1, (ih h).1 _ _ e2⟩⟩
  | unit => intro _ m m'; exact ⟨fun _ _ k => k, fun _ _ k => k, fun _ _ k => k⟩
  | pair p q ihp ihq =>
    intro h m m'
    simp only [Shape.flat, Bool.and_eq_true] at h
    exact ⟨fun x us ⟨c, d, e1, e2, e3⟩ => ⟨c, d, e1, (ihp h.1).1 _ _ e2, (ihq h.2).1 _ _ e3⟩, fun x us ⟨c, d, e1, e2, e3⟩ => ⟨c, d, e1, (ihp h.1).2.2 _ _ e2, (ihq h.2).2.1 _ _ e3⟩, fun _ _ k => k⟩
  | tup f ih => intro h m m'; exact ⟨fun _ _ k => k, fun _ _ k => k, fun x u ⟨us, e1, e2⟩ => ⟨us, e1, (ih h).2.1 _ _ e2⟩⟩
  | func i o _ _ => intro h; cases h
  | iface a _ => intro h; cases h
  | one t s _ => intro h; cases h
  | alt t s r _ _ => intro h; cases h

theorem run_callFunc {P : Program} {f : FuncId} (h : Callable P f) (args : Array Value) (w : World) : (callFunc f args).run P w = .ok (.enter f args) w := by
  obtain ⟨fn, b, h1, h2, h3⟩ := h
  have h4 : ¬ fn.name = "runtime.NumGoroutine" := by simpa using h3
  simp [callFunc, run_program, h1, h2, h4]

/-- What a call comes to, whatever tells of it: an answer r of which R is so, over memory as it was known. -/
theorem after_sound (S : Sat c m0 w0 fx m bk st a w) {f : FuncId} {out : Shape} {args : List EV} {us : List Value} {ins : Shape} {K : EV → List Ent → Prop} {X : ins.Val → (out.Val → Prop) → Prop} {vs : Array Value}
    (hargs : RepL c.P m args (J st.hp bk) us)
    (hX : ∀ (m' : Mem) x K', m.le m' → Holds w m' → (Reps c.P ins).A m' x us → X x K' → ∃ R : out.Val → Prop, (∀ r, R r → K' r) ∧ Calls c.P f vs w (PostOf (fun m v => ∃ r, R r ∧ (Reps c.P out).V m r v) m' w))
    (k : decS c st ins args fun x => afterK out args st.hp fun hp => X x fun r => K (out.enc r) hp) : Calls c.P f vs w (fun e w' => ∃ u, e = .returned u ∧ ResK c m0 w0 fx st a w K u w') := by
  cases hfl : out.flat
  · -- what came in is written no more
    have hk : ∃ x, afterK out args st.hp (fun hp => X x fun r => K (out.enc r) hp) := by
      obtain ⟨x, h, _⟩ := decS_sound (frz_all S) (frzM_le S _) (S.tab.mono (frzM_le S _)) ins args us _ hargs (idsL_ok args hargs) k
      exact ⟨x, h⟩
    obtain ⟨x0, hk⟩ := hk
    unfold afterK at hk
    rw [hfl] at hk
    obtain ⟨hs, _⟩ := cond_true' (by simpa using hk)
    obtain ⟨x, h1, h2⟩ := decS_sound (frz_shut S hs) (frzM_le S _) (S.tab.mono (frzM_le S _)) ins args us _ hargs (fun i hi => closeIds_mem hi) k
    unfold afterK at h1
    rw [hfl, hs] at h1
    simp only [cond_false, cond_true] at h1
    have S1 := S.freeze hs
    obtain ⟨R, hR, hC⟩ := hX _ x _ (frzM_le S _) S1.hold h2 h1
    refine hC.mono fun e w' ⟨v, m'', e1, e2, e3, e4, r, q1, q2⟩ => ?_
    have S2 := S1.world e2 e3 e4
    exact ⟨v, e1, ⟨_, _, m'', bk, hR r q1, S2, Rep_enc out _ q2⟩, .of_below e4⟩
  · obtain ⟨x, h1, h2⟩ := decS_sound (frz_all S) (frzM_le S _) (S.tab.mono (frzM_le S _)) ins args us _ hargs (idsL_ok args hargs) k
    unfold afterK at h1
    rw [hfl] at h1
    simp only [cond_true] at h1
    obtain ⟨R, hR, hC⟩ := hX _ x _ (frzM_le S _) (frzM_holds S _) h2 h1
    refine hC.mono fun e w' ⟨v, m'', e1, e2, e3, e4, r, q1, q2⟩ => ?_
    have S2 := S.world (Mem.ext_refl _ m) (S.holds_below e4) e4
    exact ⟨v, e1, ⟨_, _, m, bk, hR r q1, S2, Rep_enc out _ ((flat_V out hfl).2.2 _ _ q2)⟩, .of_below e4⟩

theorem callK_sound (S : Sat c m0 w0 fx m bk st a w) {f : FuncId} {args : List EV} {us : List Value} {K : EV → List Ent → Prop} (hargs : RepL c.P m args (J st.hp bk) us) (k : c.callK st f args K) :
    Calls c.P f us.toArray w (fun e w' => ∃ u, e = .returned u ∧ ResK c m0 w0 fx st a w K u w') := by
  unfold Cfg.callK at k
  split at k
  · rename_i fn hf
    split at k
    · rename_i ins outs hi ho
      obtain ⟨hb, k⟩ := cond_true' k
      refine after_sound S (X := fun x K' => callP c.toBase f (seqS ins) (outS outs) x K') hargs (fun m' x K' hm hh hA hX => ?_) k
      obtain ⟨R, ⟨_, hF⟩, hR⟩ := hX
      exact ⟨R, hR, hF m' w us (S.tab.mono hm) hh (RepL_comps _ pureJ hA)⟩
    · exact k.elim
  · exact k.elim

theorem decS_some (S : Sat c m0 w0 fx m bk st a w) {ins : Shape} {args : List EV} {us : List Value} {K : ins.Val → Prop} (hargs : RepL c.P m args (J st.hp bk) us) (k : decS c st ins args K) : ∃ x, K x := by
  obtain ⟨x, h, _⟩ := decS_sound (frz_all S) (frzM_le S _) (S.tab.mono (frzM_le S _)) ins args us _ hargs (idsL_ok args hargs) k
  exact ⟨x, h⟩

theorem after_some {out : Shape} {args : List EV} {hp : List Ent} {K : List Ent → Prop} (k : afterK out args hp K) : ∃ hp', K hp' := by
  unfold afterK at k
  rcases cond_spec k with ⟨_, k⟩ | ⟨_, k⟩
  · exact ⟨_, k⟩
  · obtain ⟨_, k⟩ := cond_true' k; exact ⟨_, k⟩

theorem callK_callable (S : Sat c m0 w0 fx m bk st a w) {f : FuncId} {args : List EV} {us : List Value} {K : EV → List Ent → Prop} (hargs : RepL c.P m args (J st.hp bk) us) (k : c.callK st f args K) : Callable c.P f := by
  unfold Cfg.callK at k
  split at k
  · split at k
    · obtain ⟨hb, k⟩ := cond_true' k
      obtain ⟨x, k⟩ := decS_some S hargs k
      obtain ⟨hp, R, ⟨h, _⟩, _⟩ := after_some k
      exact h
    · exact k.elim
  · exact k.elim

/-- A method of a type's values. -/
theorem method_sound {t : TypeId} {name : String} {f : FuncId} (h : c.method t name = some f) (v : Value) (n : Nat) (w : World) : (method (n + 1) t v name).run c.P w = .ok (f, v) w := by
  unfold Cfg.method at h
  split at h
  · rename_i i hi
    split at h
    · cases h
    · rename_i mt d hp hfind hu
      split at h
      · rename_i g hfn hpath
        simp only [Option.some.injEq] at h
        subst h
        have hfind' : i.methods.find? (fun x => x.name == name) = some mt := by rw [← Array.find?_toList]; exact hfind
        have hpe : mt.path = #[] := by
          have := congrArg List.toArray hpath
          simpa using this
        have hrec : ∀ wr, (receiverAt t (.val v) false wr).run c.P w = .ok v w := by
          intro wr
          simp only [receiverAt, Sem.run_bind, run_underlying hu, Result.andThen_ok]
          cases d <;> first | exact absurd rfl (hp _) | rfl
        simp [method, typeInfo, hi, hfind', hpe, follow, hfn, hrec]
      · cases h
    · cases h
    · cases h
  · cases h

/-! ### Slices that are written out -/

/-- Memory, and a block more that nobody writes. -/
def addM (m : Mem) (b : Nat) (us : List Value) : Mem := fun b' o => if b' = b then us[o]? else m b' o

theorem addM_le (S : Sat c m0 w0 fx m bk st a w) (us : List Value) : m.le (addM m w.heap.size us) := by
  intro b o v h
  unfold addM
  rw [if_neg (by have := S.mem_lt h; omega)]
  exact h

theorem Sat.addM (S : Sat c m0 w0 fx m bk st a w) (us : Array Value) (T : TypeId) : Sat c m0 w0 fx (addM m w.heap.size us.toList) bk st a (w.alloc (.cells us T)) := by
  have hsz := S.n0le
  refine { S with hold := fun b o v h => ?_, tab := S.tab.mono (addM_le S _), ext := Mem.ext_trans S.ext ⟨addM_le S _, fun b o hb => ?_⟩, below := S.below.alloc hsz _, keep := fun b hb => ⟨(S.keep b hb).1, (heap_alloc_old w _ b (Nat.lt_of_lt_of_le (S.keep b hb).1 S.below.size)).trans (S.keep b hb).2.1, (S.keep b hb).2.2⟩, ents := fun i e q => ?_, env := fun i => Rep_mono (addM_le S _) _ (fun _ _ q => q) (S.env i) }
  · unfold V.addM at h
    split at h
    · rename_i e
      subst e
      rw [cell_get (heap_alloc_new w _)]
      exact h
    · rw [← S.hold b o v h]
      exact World.cell?_of_block (heap_alloc_old w _ b (S.mem_lt h))
  · unfold V.addM
    rw [if_neg (by omega)]
  · obtain ⟨k, h1, h2⟩ := S.ents i e q
    refine ⟨k, h1, h2.mono (addM_le S _) (fun _ _ q => q) (fun b hb => heap_alloc_old w _ b (h2.lt hb).2) (fun _ b hb hn o => ?_)⟩
    unfold V.addM
    rw [if_neg (by have := (h2.lt hb).2; omega)]
    exact hn o

/-- Parts given in order fill a row. -/
theorem fill_order {size : Nat} : ∀ (vals : List (Nat × Value)) (k : Nat) (cells : Array Value), (∀ (j i : Nat) (u : Value), vals[j]? = some (i, u) → i = k + j ∧ u.cells.size = size) → (k + vals.length) * size ≤ cells.size →
    ∃ cells', Instr.fill (fun i => some (i * size, size)) cells vals = some cells' ∧ cells'.size = cells.size ∧ cells'.toList = cells.toList.take (k * size) ++ (vals.flatMap fun q => q.2.cells.toList) ++ cells.toList.drop ((k + vals.length) * size)
  | [], k, cells, _, _ => ⟨cells, rfl, rfl, by simp⟩
  | (i, u) :: vals, k, cells, hv, hl => by
    obtain ⟨hi, hsz⟩ := hv 0 i u rfl
    have hi' : k = i := by omega
    subst hi'
    simp only [List.length_cons] at hl ⊢
    have h1 : (k + 1) * size ≤ (k + (vals.length + 1)) * size := Nat.mul_le_mul_right _ (by omega)
    have h2 : (k + 1) * size = k * size + size := Nat.succ_mul _ _
    have hf := foldl_laid u.cells.toList cells (k * size) 0 (by simp [hsz]; omega)
    have hlist : (u.cells.zipIdx.foldl (fun cs (q : Value × Nat) => cs.setIfInBounds (k * size + q.2) q.1) cells).toList = cells.toList.take (k * size) ++ u.cells.toList ++ cells.toList.drop (k * size + size) := by
      rw [← Array.foldl_toList, Array.toList_zipIdx, hf]
      simp [hsz]
    have hsize : (u.cells.zipIdx.foldl (fun cs (q : Value × Nat) => cs.setIfInBounds (k * size + q.2) q.1) cells).size = cells.size := by
      rw [← Array.length_toList, hlist]
      simp [hsz]
      omega
    obtain ⟨cells', e1, e2, e3⟩ := fill_order vals (k + 1) (u.cells.zipIdx.foldl (fun cs (q : Value × Nat) => cs.setIfInBounds (k * size + q.2) q.1) cells) (fun j i' u' hj => by
      obtain ⟨q1, q2⟩ := hv (j + 1) i' u' (by simpa using hj)
      exact ⟨by omega, q2⟩) (by rw [hsize, show k + 1 + vals.length = k + (vals.length + 1) by omega]; exact hl)
    refine ⟨cells', ?_, by rw [e2, hsize], ?_⟩
    · simp only [Instr.fill]
      rw [if_neg (by simp [hsz]; omega)]
      exact e1
    · have hk : (cells.toList.take (k * size) ++ u.cells.toList).length = (k + 1) * size := by simp [hsz]; omega
      rw [e3, hlist, List.take_left' hk]
      have hN : (k + 1) * size ≤ (k + 1 + vals.length) * size := Nat.mul_le_mul_right _ (by omega)
      have hdrop : ((cells.toList.take (k * size) ++ u.cells.toList) ++ cells.toList.drop (k * size + size)).drop ((k + 1 + vals.length) * size) = cells.toList.drop ((k + (vals.length + 1)) * size) := by
        rw [List.drop_append, hk, List.drop_eq_nil_of_le (by rw [hk]; exact hN), List.nil_append, List.drop_drop]
        congr 1
        rw [show k + (vals.length + 1) = k + 1 + vals.length by omega]
        omega
      rw [hdrop]
      simp [List.flatMap_cons, List.append_assoc]
end
end Go.Proofs.YtgeefhjlfdidmaaGreatDoor.V


/- A row of one's own, cut. No condition of its own. -/
namespace Go.Proofs.YtgeefhjlfdidmaaGreatDoor.V
open Go Go.RowKit
set_option linter.unusedVariables false
set_option linter.unusedSimpArgs false

section
variable {c : Cfg} {m0 : Mem} {w0 : World} {fx : Fx} {m : Mem} {bk : List Cn} {st : St} {a : Act} {w : World}

theorem slice_row_sound (S : Sat c m0 w0 fx m bk st a w) {t e : TypeId} {id ver v : Nat} {s : Shape} {xs : List s.Val} {p : Value} {n : Int} {ki : IntKind} (hp : Rep c.P m (.row id ver) (J st.hp bk) p) (he : st.hp[id]? = some (.row .own v e s xs)) (hv : v = ver)
    (ht : c.P.underlying t = some (.slice e)) (hsz : c.sizeOf e = s.size) (hpos : 1 ≤ s.size) (h0 : 0 ≤ n) (h1 : n ≤ (xs.length : Int)) {K : EV → List Ent → Prop} (k : K (.row id (ver + 1)) (st.hp.set id (.row .own (ver + 1) e s (xs.take n.toNat)))) :
    ∃ u w', (Instr.sliceAt t p none (some (.int ki n)) none).run c.P w = .ok u w' ∧ ResK c m0 w0 fx st a w K u w' := by
  subst hv
  obtain ⟨hk, _⟩ := S.rowVal he rfl hp
  obtain ⟨kq, k1, k2⟩ := S.ents id _ he
  rw [hk] at k1; cases k1
  obtain ⟨cs, r1, r2, r3, r4⟩ := k2
  have hid := (List.getElem?_eq_some_iff.1 he).1
  have hid' := (List.getElem?_eq_some_iff.1 hk).1
  have hel : c.P.elem t = e := by simp [Program.elem, ht]
  have ht' : c.P.underlying t = some (.slice (c.P.elem t)) := by rw [hel]; exact ht
  obtain ⟨q, rfl⟩ := Int.eq_ofNat_of_zero_le h0
  have hq : q ≤ xs.length := by omega
  have hrun : ∃ v', (Instr.sliceAt t p none (some (.int ki (q : Int))) none).run c.P w = .ok v' w ∧ w.ownsRow fx.n0 e s.size v' q (cs.take (q * s.size)) ∧ (∀ b, v'.ownBlock = some b → p.ownBlock = some b) := by
    obtain ⟨l1, l2⟩ := r2
    have hl : (cs.take (q * s.size)).length = q * s.size := by
      rw [List.length_take, l1]
      exact Nat.min_eq_left (Nat.mul_le_mul_right _ hq)
    have hs := run_sizeOf' (P := c.P) (t := e) w (show 1 ≤ c.P.cellsOf e by have : c.P.cellsOf e = s.size := hsz; omega)
    rcases l2 with ⟨rfl, hn⟩ | ⟨g, cap, cur, rfl, l3, l4, l5, l6, l7, l8⟩
    · have : q = 0 := by omega
      subst this
      refine ⟨.slice none 0 0, ?_, ⟨hl, .inl ⟨rfl, rfl⟩⟩, fun b hb => hb⟩
      rw [run_sliceAt_slice w t _ _ _ _ ht', run_slice_h w t none 0 0 ht' ki _ (by omega) (by omega), hel, hs]
      rfl
    · refine ⟨.slice (some ⟨g, 0, none⟩) q cap, ?_, ⟨hl, .inr ⟨g, cap, cur, rfl, l3, l4, by omega, l6, l7, ?_⟩⟩, fun b hb => hb⟩
      · rw [run_sliceAt_slice w t _ _ _ _ ht', run_slice_h w t _ _ cap ht' ki _ (by omega) (by omega), hel, hs]
        simp [Result.andThen, sliced, Addr.add]
      · rw [← l8, List.take_take, Nat.min_eq_left (Nat.mul_le_mul_right _ hq)]
  obtain ⟨v', h1', h2, h4⟩ := hrun
  have hJ : ∀ e' u, J st.hp bk e' u → J (st.hp.set id (.row .own (v + 1) e s (xs.take q))) (bk.set id (.row v')) e' u := fun e' u => J_next_row he hk e' u
  refine ⟨v', w, h1', ⟨_, _, m, bk.set id (.row v'), k, ?_, ?_⟩, Kept.refl w⟩
  · refine S.update he rfl hk (Below.of_same S.below rfl rfl rfl (Nat.le_refl _) fun i hi => rfl) (Nat.le_refl _) (fun b hb hne => rfl) (fun b hb => .inl (h4 b hb)) hJ ?_
    refine ⟨cs.take (q * s.size), RowRep_take q r1, ?_, (fun q => by cases q), fun _ g hg o => r4 (by intro q; cases q) g (h4 g hg) o⟩
    rw [List.length_take, Int.toNat_natCast, Nat.min_eq_left hq]
    exact h2
  · exact ⟨.own, v + 1, e, s, xs.take q, v', List.getElem?_set_self hid, List.getElem?_set_self hid', Nat.le_refl _, fun _ => rfl⟩

theorem run_slice_opts {P : Program} {w : World} {t e : TypeId} {base : Option Addr} {len cap : Nat} {lo hi : Option Value} {A B : Int} (ht : P.underlying t = some (.slice e)) (hpos : 1 ≤ P.cellsOf e)
    (hA : (lo = none ∧ A = 0) ∨ ∃ k, lo = some (.int k A)) (hB : (hi = none ∧ B = (len : Int)) ∨ ∃ k, hi = some (.int k B)) (h0 : 0 ≤ A) (h1 : A ≤ B) (h2 : B ≤ (len : Int)) (hc : len ≤ cap) :
    (Instr.sliceAt t (.slice base len cap) lo hi none).run P w = .ok (sliced base A.toNat B.toNat cap (P.cellsOf e)) w := by
  have hel : P.elem t = e := by simp [Program.elem, ht]
  have ht' : P.underlying t = some (.slice (P.elem t)) := by rw [hel]; exact ht
  have hs := run_sizeOf' (P := P) (t := e) w hpos
  rcases hA with ⟨rfl, rfl⟩ | ⟨k, rfl⟩ <;> rcases hB with ⟨rfl, rfl⟩ | ⟨k2, rfl⟩
  · rw [run_sliceAt_slice w t _ _ _ _ ht', run_slice_all w t base len cap ht', hel, hs]
    simp [Result.andThen]
  · rw [run_sliceAt_slice w t _ _ _ _ ht', run_slice_h w t base len cap ht' k2 B (by omega) (by omega), hel, hs]
    simp [Result.andThen]
  · rw [run_sliceAt_slice w t _ _ _ _ ht', run_slice_l w t base len cap ht' k A h0 h1, hel, hs]
    simp [Result.andThen]
  · rw [run_sliceAt_slice w t _ _ _ _ ht', run_slice_lh w t base len cap ht' k k2 A B h0 h1 (by omega), hel, hs]
    simp [Result.andThen]

/-- A part of a slice's value is a slice's value. -/
theorem slice_part {P : Program} {m : Mem} {s : Shape} {xs : List s.Val} {base : Option Addr} {cap a b : Nat} (h : (Reps P (.slice s)).V m xs (.slice base xs.length cap)) (h1 : a ≤ b) (h2 : b ≤ xs.length) (hpos : 1 ≤ s.size) :
    (Reps P (.slice s)).V m ((xs.take b).drop a) (sliced base a b cap s.size) := by
  obtain ⟨base', cap', e, hc, hx⟩ := h
  cases e
  have hl : ((xs.take b).drop a).length = b - a := by rw [List.length_drop, List.length_take]; omega
  refine ⟨_, _, by rw [hl]; rfl, by rw [hl]; omega, ?_⟩
  by_cases hca : cap = a
  · exact .inl (List.length_eq_zero_iff.1 (by omega))
  rw [if_neg hca]
  rcases hx with rfl | ⟨g, o, rfl, hx⟩
  · exact .inl (by simp)
  · refine .inr ⟨g, o + a * s.size, by simp only [Option.map_some, Addr.add]; split <;> simp_all, fun i x hi => ?_⟩
    rw [List.getElem?_drop, List.getElem?_take] at hi
    split at hi
    · obtain ⟨us, q1, q2⟩ := hx (a + i) x hi
      refine ⟨us, q1, fun j u hj => ?_⟩
      have := q2 j u hj
      rw [Nat.add_mul] at this
      rw [show o + a * s.size + i * s.size + j = o + (a * s.size + i * s.size) + j by omega]
      exact this
    · cases hi

theorem slice_val_sound (S : Sat c m0 w0 fx m bk st a w) {t e : TypeId} {s : Shape} {xs : List s.Val} {p : Value} {lo hi : Option Value} {A B : Int} (hx : Rep c.P m (.p (.slice s) xs) (J st.hp bk) p)
    (ht : c.P.underlying t = some (.slice e)) (hsz : c.sizeOf e = s.size) (hpos : 1 ≤ s.size)
    (hA : (lo = none ∧ A = 0) ∨ ∃ k, lo = some (.int k A)) (hB : (hi = none ∧ B = (xs.length : Int)) ∨ ∃ k, hi = some (.int k B)) (h0 : 0 ≤ A) (h1 : A ≤ B) (h2 : B ≤ (xs.length : Int))
    {K : EV → List Ent → Prop} (k : K (.p (.slice s) ((xs.take B.toNat).drop A.toNat)) st.hp) :
    ∃ u w', (Instr.sliceAt t p lo hi none).run c.P w = .ok u w' ∧ ResK c m0 w0 fx st a w K u w' := by
  have hx' : (Reps c.P (.slice s)).V m xs p := hx
  obtain ⟨base, cap, rfl, hc, hx2⟩ := hx
  have hsz' : c.P.cellsOf e = s.size := hsz
  refine ⟨_, w, run_slice_opts ht (by omega) hA hB h0 h1 h2 hc, ⟨_, st.hp, m, bk, k, S, ?_⟩, Kept.refl w⟩
  rw [hsz']
  exact slice_part hx' (by omega) (by omega) hpos

theorem bnd_sound (S : Sat c m0 w0 fx m bk st a w) {o : Option Operand} {d : Int} {K : Int → Prop} (k : c.bndK st o d K) : ∃ n, K n ∧ ((o.map a.eval = none ∧ n = d) ∨ ∃ ki, o.map a.eval = some (.int ki n)) := by
  unfold Cfg.bndK at k
  split at k
  · exact ⟨d, k, .inl ⟨rfl, rfl⟩⟩
  · rename_i x
    have hx := ev_sound S x
    split at k
    · rename_i ki n he
      rw [he] at hx
      have hx : a.eval x = .int ki n := hx
      exact ⟨n, k, .inr ⟨ki, by rw [Option.map_some, hx]⟩⟩
    · exact k.elim
end
end Go.Proofs.YtgeefhjlfdidmaaGreatDoor.V


/- Every operation: the model does what the condition says. No condition of its own. -/
namespace Go.Proofs.YtgeefhjlfdidmaaGreatDoor.V
open Go Go.RowKit
set_option linter.unusedVariables false
set_option linter.unusedSimpArgs false

section
variable {c : Cfg} {m0 : Mem} {w0 : World} {fx : Fx} {m : Mem} {bk : List Cn} {st : St} {a : Act} {w : World}

theorem RowRep_of_V {P : Program} {s : Shape} (hs : s.size ≠ 0) {m : Mem} : ∀ {xs : List s.Val} {us : List Value}, xs.length = us.length → (∀ (i : Nat) x, xs[i]? = some x → ∃ u, us[i]? = some u ∧ (Reps P s).V m x u) → RowRep P m s xs (us.flatMap fun u => u.cells.toList)
  | [], [], _, _ => rfl
  | [], _ :: _, h, _ => by simp at h
  | _ :: _, [], h, _ => by simp at h
  | x :: xs, u :: us, h, k => by
    obtain ⟨u', h1, h2⟩ := k 0 x rfl
    simp only [List.getElem?_cons_zero, Option.some.injEq] at h1
    subst h1
    exact ⟨_, _, rfl, V_cells s hs h2, RowRep_of_V hs (by simpa using h) fun i y hy => by simpa using k (i + 1) y (by simpa using hy)⟩

theorem inOrder_spec : ∀ {l : List (Nat × EV)} {n j i : Nat} {v : EV}, inOrder n l = true → l[j]? = some (i, v) → i = n + j
  | [], _, _, _, _, _, h => by simp at h
  | (i', v') :: r, n, 0, i, v, h, k => by
    simp only [inOrder, Bool.and_eq_true] at h
    simp only [List.getElem?_cons_zero, Option.some.injEq, Prod.mk.injEq] at k
    rw [← k.1, beq_eq h.1]; rfl
  | (i', v') :: r, n, j + 1, i, v, h, k => by
    simp only [inOrder, Bool.and_eq_true] at h
    have := inOrder_spec h.2 (by simpa using k : r[j]? = some (i, v))
    omega

theorem V_size {P : Program} {s : Shape} (hs : s.size ≠ 0) {m : Mem} {x : s.Val} {u : Value} (h : (Reps P s).V m x u) : u.cells.size = s.size := by
  rw [← Array.length_toList]
  exact Reps.C_length s (V_cells s hs h)

theorem buildSlice_sound (S : Sat c m0 w0 fx m bk st a w) {t e : TypeId} {n : Nat} {parts : Array (Nat × Operand)} {s : Shape} {K : EV → List Ent → Prop} (ht : c.P.underlying t = some (.slice e)) (hz : c.zeroOK e s = true) (hsz : c.sizeOf e = s.size) (hpos : 1 ≤ s.size)
    (ho : inOrder 0 (parts.toList.map fun q => (q.1, c.ev st q.2)) = true) (hp : parts.size = n) (hn : n ≠ 0) (hlim : n * s.size ≤ 10000)
    (k : decE c st s (parts.toList.map fun q => c.ev st q.2) fun xs => afterK (.slice s) (parts.toList.map fun q => c.ev st q.2) st.hp fun hp => K (.p (.slice s) xs) hp) :
    ∃ u w', (Instr.buildSlice t n (parts.map fun q => (q.1, a.eval q.2))).run c.P w = .ok u w' ∧ ResK c m0 w0 fx st a w K u w' := by
  have hargs : RepL c.P m (parts.toList.map fun q => c.ev st q.2) (J st.hp bk) (parts.toList.map fun q => a.eval q.2) := by
    have := evs_sound S (parts.toList.map (·.2))
    simpa [List.map_map, Function.comp_def] using this
  obtain ⟨i, z, hi, hz1, hz2⟩ := zero_info hz
  have hisz : i.size = s.size := by rw [← hsz]; simp [Cfg.sizeOf, Program.cellsOf, hi]
  have hs0 : s.size ≠ 0 := by omega
  obtain ⟨xs0, hk, _⟩ := decE_sound (frz_all S) (frzM_le S _) (S.tab.mono (frzM_le S _)) s _ _ _ hargs (idsL_ok _ hargs) k
  unfold afterK at hk
  simp only [Shape.flat, cond_false] at hk
  obtain ⟨hs, _⟩ := cond_true' hk
  obtain ⟨xs, h1, h2, h3⟩ := decE_sound (frz_shut S hs) (frzM_le S _) (S.tab.mono (frzM_le S _)) s _ _ _ hargs (fun i hi => closeIds_mem hi) k
  unfold afterK at h1
  simp only [Shape.flat, cond_false, hs, cond_true] at h1
  have S1 := S.freeze hs
  have hlen : xs.length = n := by rw [h2]; simp [hp]
  have hvals : ∀ (j i : Nat) (u : Value), (parts.toList.map fun q => (q.1, a.eval q.2))[j]? = some (i, u) → i = 0 + j ∧ u.cells.size = s.size := by
    intro j i u hj
    rw [List.getElem?_map] at hj
    cases hq : parts.toList[j]? with
    | none => rw [hq] at hj; cases hj
    | some q =>
      rw [hq] at hj
      simp only [Option.map_some, Option.some.injEq, Prod.mk.injEq] at hj
      obtain ⟨rfl, rfl⟩ := hj
      refine ⟨inOrder_spec (v := c.ev st q.2) ho (by rw [List.getElem?_map, hq]; rfl), ?_⟩
      have hjl : j < parts.toList.length := (List.getElem?_eq_some_iff.1 hq).1
      have hjx : j < xs.length := by rw [hlen, ← hp]; simpa using hjl
      obtain ⟨u, q1, q2⟩ := h3 j _ (List.getElem?_eq_getElem hjx)
      rw [List.getElem?_map, hq] at q1
      simp only [Option.map_some, Option.some.injEq] at q1
      subst q1
      exact V_size hs0 q2
  have hmap : (parts.map fun q => (q.1, a.eval q.2)).toList = parts.toList.map fun q => (q.1, a.eval q.2) := by simp
  have hzl : ((Array.range (n * s.size)).map (fun j => z.cells[j % z.cells.size]!)).size = n * s.size := by simp
  have hpl : (parts.toList.map fun q => (q.1, a.eval q.2)).length = n := by simp [hp]
  obtain ⟨cells, f1, f2, f3⟩ := fill_order (size := s.size) (parts.toList.map fun q => (q.1, a.eval q.2)) 0 ((Array.range (n * s.size)).map (fun j => z.cells[j % z.cells.size]!)) hvals (by rw [hzl, hpl, Nat.zero_add]; exact Nat.le_refl _)
  have hcells : cells.toList = (parts.toList.map fun q => a.eval q.2).flatMap fun u => u.cells.toList := by
    rw [f3, hpl, Nat.zero_mul, List.take_zero, List.nil_append, Nat.zero_add, List.drop_eq_nil_of_le (by rw [Array.length_toList, hzl]; exact Nat.le_refl _), List.append_nil]
    rw [List.flatMap_map, List.flatMap_map]
  have hne : ¬ n * s.size = 0 := by
    intro q
    rcases Nat.mul_eq_zero.1 q with q | q <;> omega
  refine ⟨.slice (some ⟨w.heap.size, 0, none⟩) n n, w.alloc (.cells cells e), ?_, ⟨.p (.slice s) xs, _, _, bk, h1, S1.addM cells e, ?_⟩, .of_alloc _ _⟩
  · have hzv : (zeroValue e).run c.P w = .ok z w := run_zeroValue (by rw [hi]; exact hz1) w
    have hsr : (sizeOf e).run c.P w = .ok s.size w := by simp [sizeOf, typeInfo, hi, hisz]
    simp only [Instr.buildSlice, Sem.run_bind, run_underlying ht, Result.andThen_ok, hsr, hmap]
    rw [if_neg (by omega)]
    simp only [Sem.run_pure, Result.andThen_ok, if_neg hne, Sem.run_bind, hzv, f1, newRow, run_newObj]
    rfl
  · rw [← hlen]
    refine slice_of_row (cs := cells.toList) (Nat.le_refl _) ?_ fun j u hj => ?_
    · rw [hcells]
      refine RowRep_of_V hs0 h2 fun i x hx => ?_
      obtain ⟨u, q1, q2⟩ := h3 i x hx
      exact ⟨u, q1, Reps.V_mono (addM_le S1 _) q2⟩
    · unfold addM
      rw [if_pos rfl, Nat.zero_add]
      exact hj

/-- What is told of calls otherwise than by contracts over values is so. -/
structure HanOK (c : Cfg) : Prop where
  f : ∀ {f : FuncId} {h : List EV → List Ent → (EV → List Ent → Prop) → Prop}, c.han f = some h → ∀ {m0 : Mem} {w0 : World} {fx : Fx} {m : Mem} {bk : List Cn} {st : St} {a : Act} {w : World}, Sat c m0 w0 fx m bk st a w →
    ∀ {args : List EV} {us : List Value} {K : EV → List Ent → Prop}, RepL c.P m args (J st.hp bk) us → h args st.hp K → Callable c.P f ∧ Calls c.P f us.toArray w (fun e w' => ∃ u, e = .returned u ∧ Res c m0 w0 fx st a K u w')
  i : ∀ {name : String} {h : EV → List EV → List Ent → (EV → List Ent → Prop) → Prop}, c.hni name = some h → ∀ {m0 : Mem} {w0 : World} {fx : Fx} {m : Mem} {bk : List Cn} {st : St} {a : Act} {w : World}, Sat c m0 w0 fx m bk st a w →
    ∀ {r : EV} {ur : Value} {args : List EV} {us : List Value} {K : EV → List Ent → Prop}, Rep c.P m r (J st.hp bk) ur → RepL c.P m args (J st.hp bk) us → h r args st.hp K →
      ∃ (f : FuncId) (vs : Array Value), (callMethod ur name us.toArray).run c.P w = .ok (.enter f vs) w ∧ Calls c.P f vs w (fun e w' => ∃ u, e = .returned u ∧ Res c m0 w0 fx st a K u w')

theorem HanOK.none {c : Cfg} (h1 : c.han = fun _ => Option.none) (h2 : c.hni = fun _ => Option.none) : HanOK c :=
  ⟨fun {f h} e => (by rw [h1] at e; cases e), fun {f h} e => (by rw [h2] at e; cases e)⟩

/-- An operation that makes or writes memory, or calls. -/
theorem loud_sound (H : HanOK c) (S : Sat c m0 w0 fx m bk st a w) (o : Oper) {K : EV → List Ent → Prop} (k : c.loud o st K) {next : Act → World → Prop} {Q : Exit → Act → World → Prop}
    (hn : ∀ u w', Res c m0 w0 fx st a K u w' → (c.isWriter o.op = false → Kept w w') → next (a.put o.dst u) w') : o.wp c.P a w next Q := by
  obtain ⟨dst, op, type, pos, after, guard⟩ := o
  dsimp only at hn
  unfold Cfg.loud at k
  dsimp only at k
  have val : ∀ {s : Sem Value}, (∃ u w', s.run c.P w = .ok u w' ∧ ResK c m0 w0 fx st a w K u w') → (do pure (.value (← s)) : Sem Next) = execOp a.eval ⟨dst, op, type, pos, after, guard⟩ → Oper.wp c.P ⟨dst, op, type, pos, after, guard⟩ a w next Q := by
    intro s ⟨u, w', h1, h2⟩ he
    unfold Oper.wp
    rw [← he]
    simp only [Sem.run_bind, h1, Result.andThen_ok, Sem.run_pure, Oper.upon_value]
    exact hn u w' h2.1 (fun _ => h2.2)
  have call : ∀ {f : FuncId} {args : Array Value}, Callable c.P f → Calls c.P f args w (fun e w' => ∃ u, e = .returned u ∧ ResK c m0 w0 fx st a w K u w') → (execOp a.eval ⟨dst, op, type, pos, after, guard⟩).run c.P w = .ok (.enter f args) w → Oper.wp c.P ⟨dst, op, type, pos, after, guard⟩ a w next Q := by
    intro f args hc hC he
    unfold Oper.wp
    rw [he, Oper.upon_enter]
    refine hC.mono fun e w' ⟨u, h1, h2⟩ => ?_
    subst h1
    exact hn u w' h2.1 (fun _ => h2.2)
  split at k
  · rename_i t
    split at k
    · rename_i s hs
      replace k := cond_true' k
      obtain ⟨hz, k⟩ := k
      exact val (alloc_sound S hz k) rfl
    · split at k
      · rename_i zs hz
        exact val (alloc_raw_sound S hz k) rfl
      · exact k.elim
  · rename_i t x
    replace k := cond_true' k
    obtain ⟨hb, k⟩ := k
    simp only [Bool.and_eq_true] at hb
    exact val (box_sound S (ev_sound S x) hb.1 k) rfl
  · rename_i t n parts
    split at k
    · rename_i e ht
      split at k
      · rename_i s hs
        replace k := cond_true' k
        obtain ⟨hb, k⟩ := k
        simp only [Bool.and_eq_true] at hb
        cases n with
        | zero =>
          replace k := cond_true' k
          obtain ⟨hp, k⟩ := k
          have hp0 : parts = #[] := by
            have := beq_eq hp
            cases parts with
            | mk l => cases l <;> simp_all
          subst hp0
          have hsr : (sizeOf e).run c.P w = .ok (c.P.cellsOf e) w := run_sizeOf' w (by have := beq_eq hb.1.2; have := ble_le hb.2; unfold Cfg.sizeOf at *; omega)
          have ho := World.ownsRow_lit (base := fx.n0) (e := e) (size := s.size) w #[] 0 S.n0le (by unfold maxLen; omega) (by simp)
          refine val ⟨.slice (some ⟨w.heap.size, 0, none⟩) 0 0, w.alloc (.cells #[] e), ?_, new_row (xs := []) (cs := []) S e s (S.below.alloc S.n0le _) (fun b hb => heap_alloc_old w _ b hb) rfl ho (fun b hb => by cases hb; exact Nat.le_refl _) k (Kept.of_alloc _ _).1⟩ rfl
          simp only [Instr.buildSlice, Sem.run_bind, run_underlying ht, Result.andThen_ok, hsr]
          simp [newRow, Instr.fill]
          exact congrArg (fun x => w.alloc (.cells x e)) (Array.eq_empty_of_size_eq_zero (xs := Array.map (fun _ => (default : Value)) (Array.range 0)) (by rw [Array.size_map, Array.size_range]))
        | succ n =>
          replace k := cond_true' k
          obtain ⟨hb2, k⟩ := k
          simp only [Bool.and_eq_true] at hb2
          exact val (buildSlice_sound S ht hb.1.1 (beq_eq hb.1.2) (ble_le hb.2) hb2.1.1 (beq_eq hb2.1.2) (by omega) (ble_le hb2.2) k) rfl
      · exact k.elim
    · exact k.elim
  · rename_i t x y
    have hx := ev_sound S x
    have store : (∃ w', (Instr.storeAt t (a.eval x) (a.eval y)).run c.P w = .ok () w' ∧ Res c m0 w0 fx st a K undef w') → Oper.wp c.P ⟨dst, .store t x y, type, pos, after, guard⟩ a w next Q := by
      intro ⟨w', h1, h2⟩
      unfold Oper.wp
      simp only [execOp, Sem.run_bind, h1, Result.andThen_ok, Sem.run_pure, Oper.upon_skip]
      exact hn undef w' h2 (fun q => by cases q)
    split at k
    · rename_i id off he
      rw [he] at hx
      split at k
      · rename_i cs hh
        replace k := cond_true' k
        obtain ⟨hb, k⟩ := k
        simp only [Bool.and_eq_true] at hb
        exact store (store_box_sound S hx (ev_sound S y) hh hb.1.1.1.1 hb.1.1.1.2 (beq_eq hb.1.2) (ble_le hb.2) (by rw [beq_eq hb.1.2]; exact ble_le hb.1.1.2) k)
      · exact k.elim
    · rename_i id ver kk off he
      rw [he] at hx
      split at k
      · rename_i v e s xs hh
        replace k := cond_true' k
        obtain ⟨hb, k⟩ := k
        simp only [Bool.and_eq_true] at hb
        exact store (store_row_sound S hx (ev_sound S y) hh (beq_eq hb.1.1.1.1.1.1) hb.1.1.1.1.1.2 hb.1.1.1.1.2 (beq_eq hb.1.1.2) (ble_le hb.1.2) (by rw [beq_eq hb.1.1.2]; exact ble_le hb.1.1.1.2) hb.2 k)
      · exact k.elim
    · exact k.elim
  · rename_i t x
    have hx := ev_sound S x
    split at k
    · rename_i b ht he
      rw [he] at hx
      have hx : a.eval x = .string b := hx
      refine val (s := Instr.range t (a.eval x)) ⟨.pointer (some ⟨w.heap.size, 0, none⟩), w.alloc (.stringIter b 0), ?_, new_iter S b k⟩ rfl
      simp [Instr.range, run_underlying ht, hx]
    · exact k.elim
  · rename_i x
    have hx := ev_sound S x
    split at k
    · rename_i id he
      rw [he] at hx
      split at k
      · rename_i s p hh
        obtain ⟨u, w', h1, h2⟩ := next_sound (ty := type) S hx hh k
        unfold Oper.wp
        rw [show (execOp a.eval ⟨dst, .next x true, type, pos, after, guard⟩).run c.P w = .ok (.value u) w' by
          simp only [execOp, Sem.run_bind, h1, Result.andThen_ok, Sem.run_pure], Oper.upon_value]
        exact hn u w' h2 (fun q => by cases q)
      · exact k.elim
    · exact k.elim
  · rename_i t x lo hi
    have hx := ev_sound S x
    split at k
    · rename_i id ver he1
      rw [he1] at hx
      split at k
      · rename_i hi'
        have hh := ev_sound S hi'
        split at k
        · rename_i ki n he2
          rw [he2] at hh
          have hn' : a.eval hi' = .int ki n := hh
          split at k
          · rename_i v e s xs hp
            obtain ⟨hb, k⟩ := cond_true' k
            obtain ⟨⟨h0, h1⟩, k⟩ := k
            simp only [Bool.and_eq_true] at hb
            have ht : c.P.underlying t = some (.slice e) := by
              have q := hb.1.1.2
              unfold Base.isSliceOf at q
              split at q
              · rename_i e' he; rw [he, beq_eq q]
              · cases q
            refine val (s := Instr.sliceAt t (a.eval x) none (some (a.eval hi')) none) ?_ rfl
            rw [hn']
            have hv := beq_eq hb.1.1.1
            subst hv
            exact slice_row_sound S hx hp rfl ht (beq_eq hb.1.2) (ble_le hb.2) h0 h1 k
          · exact k.elim
        · exact k.elim
      · exact k.elim
    · rename_i s xs he1
      rw [he1] at hx
      split at k
      · rename_i e ht
        obtain ⟨hb, k⟩ := cond_true' k
        simp only [Bool.and_eq_true] at hb
        obtain ⟨A, k, hA⟩ := bnd_sound S k
        obtain ⟨B, k, hB⟩ := bnd_sound S k
        obtain ⟨⟨h0, h1, h2⟩, k⟩ := k
        refine val (s := Instr.sliceAt t (a.eval x) (lo.map a.eval) (hi.map a.eval) none) ?_ rfl
        exact slice_val_sound S hx ht (beq_eq hb.1) (ble_le hb.2) hA hB h0 h1 h2 k
      · exact k.elim
    · exact k.elim
  · rename_i args argTypes
    have hargs := evs_sound S args.toList
    split at k
    · rename_i d x t t' he1 he2
      rw [he1] at hargs
      obtain ⟨ud, us1, e1, rd, r1⟩ := RepL_cons.1 hargs
      obtain ⟨ux, us2, e2, rx, r2⟩ := RepL_cons.1 r1
      rw [RepL_nil.1 r2] at e2
      subst e2
      replace k := cond_true' k
      obtain ⟨hb, k⟩ := k
      have htt := beq_eq hb
      subst htt
      have hat : argTypes = #[t, t] := by
        have := congrArg List.toArray he2
        simpa using this
      have hmap : args.map a.eval = #[ud, ux] := by rw [map_toArray, e1]
      have fin : (∃ u w', (Builtin.append_ #[t, t] type #[ud, ux]).run c.P w = .ok u w' ∧ Res c m0 w0 fx st a K u w') → Oper.wp c.P ⟨dst, .call { callee := .builtin .append, args, argTypes }, type, pos, after, guard⟩ a w next Q := by
        intro ⟨u, w', h1, h2⟩
        unfold Oper.wp
        simp only [execOp, resolve, invoke, builtin, Sem.run_bind, Sem.run_pure, Result.andThen_ok, hmap, hat, h1, Oper.upon_value]
        exact hn u w' h2 (fun q => by cases q)
      split at k
      · rename_i e ht
        split at k
        · rename_i id ver
          split at k
          · rename_i v e' s xs hh
            replace k := cond_true' k
            obtain ⟨hb, k⟩ := k
            simp only [Bool.and_eq_true] at hb
            obtain ⟨s', ys', base, cap, ds, k1, hu, q1, q2⟩ := slK_cells S rx k
            obtain ⟨hcast, hbound, k3⟩ := castK_spec k1
            cases hcast
            subst hu
            have hee := beq_eq hb.1.1.1.1.2
            subst hee
            have hvv := beq_eq hb.1.1.1.1.1
            exact fin (append_row_sound S rd hh hvv ht hb.1.1.1.2 (beq_eq hb.1.1.2) (ble_le hb.1.2) (ble_le hb.2) q1 q2 hbound k3)
          · exact k.elim
        · rename_i hnr
          replace k := cond_true' k
          obtain ⟨hnil, k⟩ := k
          split at k
          · rename_i s hs
            replace k := cond_true' k
            obtain ⟨hb, k⟩ := k
            simp only [Bool.and_eq_true] at hb
            obtain ⟨s', ys', base, cap, ds, k1, hu, q1, q2⟩ := slK_cells S rx k
            obtain ⟨hcast, hbound, k3⟩ := castK_spec k1
            cases hcast
            subst hu
            have := isNil_spec rd hnil
            subst this
            exact fin (append_nil_sound S ht hb.1.1.1 (beq_eq hb.1.1.2) (ble_le hb.1.2) (ble_le hb.2) q1 q2 hbound k3)
          · exact k.elim
      · exact k.elim
    · exact k.elim
  · rename_i f args argTypes
    have hf := ev_sound S f
    have hargs := evs_sound S args.toList
    split at k
    · rename_i h hh
      cases f with
      | func f =>
        obtain ⟨hc, hC⟩ := H.f (show c.han f = some h from hh) S hargs k
        unfold Oper.wp
        rw [show (execOp a.eval ⟨dst, .call { callee := .value (.func f), args, argTypes }, type, pos, after, guard⟩).run c.P w = .ok (.enter f (args.toList.map a.eval).toArray) w by
          simp only [execOp, resolve, Sem.run_bind, Act.eval, Deferred.ofValue, Sem.run_pure, Result.andThen_ok, invoke]
          rw [run_callFunc hc]
          simp [map_toArray], Oper.upon_enter]
        refine hC.mono fun e w' ⟨u, h1, h2⟩ => ?_
        subst h1
        exact hn u w' h2 (fun q => by simp only [Cfg.isWriter, hh] at q; cases q)
      | _ => cases hh
    · rename_i hh
      split at k
      · rename_i g he
        rw [he] at hf
        obtain ⟨xs, ys, e1, e2, e3⟩ := hf
        rw [RepL_nil.1 e2, RepL_nil.1 e3] at e1
        refine call (callK_callable S hargs k) (callK_sound S hargs k) ?_
        simp only [execOp, resolve, Sem.run_bind, e1, Deferred.ofValue, Sem.run_pure, Result.andThen_ok, invoke]
        rw [run_callFunc (callK_callable S hargs k)]
        simp [map_toArray]
      · rename_i i out g he
        rw [he] at hf
        rcases hf with ⟨e1, e2⟩ | ⟨f', fa, fb, e1, e2, e3⟩
        · obtain ⟨x, k⟩ := decS_some S hargs k
          obtain ⟨hp, r, hr, _⟩ := after_some k
          rw [e2 x] at hr; cases hr
        · refine call (f := f') (args := fa ++ (args.toList.map a.eval).toArray ++ fb) e2 (after_sound S (X := fun x K' => gcall g x K') hargs (fun m' x K' hm hh hA hX => ?_) k) ?_
          · obtain ⟨r, hr, hK⟩ := hX
            exact ⟨fun r' => r' = r, fun r' e => by subst e; exact hK, (e3 m' w x _ r hm hh hA hr).mono fun e w' q => q.mono fun mm v hv => ⟨r, rfl, hv⟩⟩
          · simp only [execOp, resolve, Sem.run_bind, e1, Deferred.ofValue, Sem.run_pure, Result.andThen_ok, invoke]
            rw [run_callFunc e2, map_toArray]
      · exact k.elim
  · rename_i r name args argTypes
    have hr := ev_sound S r
    have hargs := evs_sound S args.toList
    have inv : ∀ {t : TypeId} {v : Value} {f : FuncId}, a.eval r = .iface t v → c.method t name = some f → Callable c.P f → (execOp a.eval ⟨dst, .call { callee := .invoke r name, args, argTypes }, type, pos, after, guard⟩).run c.P w = .ok (.enter f (v :: args.toList.map a.eval).toArray) w := by
      intro t v f he hm hc
      have hms := method_sound hm v
      simp only [execOp, resolve, Sem.run_bind, Sem.run_pure, Result.andThen_ok, invoke, he, callMethod]
      have hd : c.P.types.size + Made.depth = c.P.types.size + (Made.depth - 1) + 1 := rfl
      have h0 : (#[Value.iface t v] ++ args.map a.eval)[0]? = some (Value.iface t v) := by rw [Array.getElem?_append_left (Nat.zero_lt_one)]; rfl
      rw [h0]
      simp only [Sem.run_bind, run_program, Result.andThen_ok, hd, hms, run_callFunc hc]
      congr 2
      simp [map_toArray, List.take_of_length_le]
    split at k
    · rename_i h hh
      obtain ⟨f, vs, h1, hC⟩ := H.i hh S hr hargs k
      unfold Oper.wp
      rw [show (execOp a.eval ⟨dst, .call { callee := .invoke r name, args, argTypes }, type, pos, after, guard⟩).run c.P w = .ok (.enter f vs) w by
        simp only [execOp, resolve, Sem.run_bind, Sem.run_pure, Result.andThen_ok, invoke]
        have h0 : (#[a.eval r] ++ args.map a.eval)[0]? = some (a.eval r) := by rw [Array.getElem?_append_left (Nat.zero_lt_one)]; rfl
        rw [h0]
        have he : (#[a.eval r] ++ args.map a.eval).extract 1 (#[a.eval r] ++ args.map a.eval).size = (args.toList.map a.eval).toArray := by simp [map_toArray, List.take_of_length_le]
        simp only [he, h1], Oper.upon_enter]
      refine hC.mono fun e w' ⟨u, h1, h2⟩ => ?_
      subst h1
      exact hn u w' h2 (fun q => by simp only [Cfg.isWriter, hh] at q; cases q)
    · rename_i hh
      split at k
      · rename_i al y he
        rw [he] at hr
        cases y with
        | none => exact k.elim
        | some y =>
          obtain ⟨t, v, e1, hI⟩ := hr
          have go : ∀ (s : Shape) (x : s.Val), (Reps c.P s).I m t x v → c.invK st name (args.toList.map (c.ev st)) K s x → ∃ (f : FuncId) (s' : Shape) (x' : s'.Val), c.method t name = some f ∧ (Reps c.P s').V m x' v ∧ c.callK st f (s'.enc0 x' :: args.toList.map (c.ev st)) K := by
            intro s
            induction s with
            | one t' s' _ =>
              intro x hI k
              obtain ⟨rfl, hV⟩ := hI
              simp only [Cfg.invK] at k
              split at k
              · rename_i f hm; exact ⟨f, s', x, hm, hV, k⟩
              · exact k.elim
            | alt t' s' r' _ ih =>
              intro x hI k
              simp only [Cfg.invK] at k
              cases x with
              | inl y =>
                obtain ⟨rfl, hV⟩ := hI
                simp only [sumK] at k
                split at k
                · rename_i f hm; exact ⟨f, s', y, hm, hV, k⟩
                · exact k.elim
              | inr y => exact ih y hI k
            | _ => intro x hI k; simp [Cfg.invK] at k
          obtain ⟨f, s', x', hm, hV, k⟩ := go al y hI k
          have hargs' : RepL c.P m (s'.enc0 x' :: args.toList.map (c.ev st)) (J st.hp bk) (v :: args.toList.map a.eval) := RepL_cons.2 ⟨_, _, rfl, Rep_enc0 s' _ hV, hargs⟩
          exact call (callK_callable S hargs' k) (callK_sound S hargs' k) (inv e1 hm (callK_callable S hargs' k))
      · rename_i t v he
        rw [he] at hr
        obtain ⟨u, e1, hu⟩ := hr
        split at k
        · rename_i f hm
          have hargs' : RepL c.P m (v :: args.toList.map (c.ev st)) (J st.hp bk) (u :: args.toList.map a.eval) := RepL_cons.2 ⟨_, _, rfl, hu, hargs⟩
          exact call (callK_callable S hargs' k) (callK_sound S hargs' k) (inv e1 hm (callK_callable S hargs' k))
        · exact k.elim
      · exact k.elim
  · exact k.elim
end
end Go.Proofs.YtgeefhjlfdidmaaGreatDoor.V

