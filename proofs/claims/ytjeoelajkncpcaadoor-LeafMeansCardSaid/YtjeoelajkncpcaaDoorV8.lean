/- Operations on values: what the condition says of them they do. No condition of its own. -/
import Derived.Test.YtjeoelajkncpcaaDoorV7
import Derived.WideLaws
namespace Go.Proofs.YtjeoelajkncpcaaDoor.V
open Go Go.RowKit
set_option linter.unusedVariables false
set_option linter.unusedSimpArgs false

section
variable {P : Program} {m : Mem} {JJ : EV → Value → Prop}

theorem run_eqGuard_int (op : BinOp) (t : TypeId) (x y : Operand) (k k' : IntKind) (p q : Int) (w : World) : (eqGuard op t x y (.int k p) (.int k' q)).run P w = .ok () w := by
  cases op <;> simp [eqGuard]

theorem run_eqGuard_bool (op : BinOp) (t : TypeId) (x y : Operand) (p q : Bool) (w : World) : (eqGuard op t x y (.bool p) (.bool q)).run P w = .ok () w := by
  cases op <;> simp [eqGuard]

theorem beq_int (a b : Int) : (a == b) = decide (a = b) := rfl
theorem bne_int (a b : Int) : (a != b) = !decide (a = b) := rfl
theorem beq_bool (a b : Bool) : (a == b) = decide (a = b) := by cases a <;> cases b <;> rfl

theorem shift_min (n : Nat) (b : Nat) (h : (n : Int) < (b : Int)) : min n b = n := by omega

/-- Two numbers. -/
theorem binInt_sound {c : Cfg} {op : BinOp} {t : TypeId} {k k' : IntKind} {p q : Int} {yc : Bool} {K : EV → Prop} (h : c.binK op t (.p (.int k) p) (.p (.int k') q) yc K) :
    ∃ v u, K v ∧ Rep c.P m v JJ u ∧ ∀ w : World, (binOp op t (.int k p) (.int k' q)).run c.P w = .ok u w := by
  have hk : ∀ {A : Prop}, (if k = k' then A else False) → k = k' ∧ A := fun h => by split at h <;> simp_all
  simp only [Cfg.binK] at h
  cases op <;> dsimp only at h
  case shl =>
    obtain ⟨⟨h1, h2⟩, h⟩ := h
    have h1' : (0 : Int) ≤ q := h1
    have h2' : q < (k.bits : Int) := h2
    have hm : min q.toNat k.bits = q.toNat := by omega
    exact ⟨_, _, h, rfl, fun w => by simp [binOp, Op.shift, Int.not_lt.2 h1', hm]⟩
  case shr =>
    obtain ⟨⟨h1, h2⟩, h⟩ := h
    have h1' : (0 : Int) ≤ q := h1
    have h2' : q < (k.bits : Int) := h2
    have hm : min q.toNat k.bits = q.toNat := by omega
    exact ⟨_, _, h, rfl, fun w => by simp [binOp, Op.shift, Int.not_lt.2 h1', hm]⟩
  case quo =>
    obtain ⟨rfl, hb, h2⟩ := hk h
    exact ⟨_, _, h2, rfl, fun w => by simp [binOp, Op.intDiv, hb]⟩
  case rem =>
    obtain ⟨rfl, hb, h2⟩ := hk h
    exact ⟨_, _, h2, rfl, fun w => by simp [binOp, Op.intDiv, hb]⟩
  all_goals
    obtain ⟨rfl, h2⟩ := hk h
    refine ⟨_, _, h2, rfl, fun w => ?_⟩
    first
      | (simp [binOp, Op.intArith]; done)
      | (simp [binOp, Op.intBits]; done)
      | (simp [binOp, Op.intCmp, beq_int, bne_int]; done)
      | (simp only [binOp, Op.intCmp]; simp)

theorem binBool_sound {c : Cfg} {op : BinOp} {t : TypeId} {p q : Bool} {yc : Bool} {K : EV → Prop} (h : c.binK op t (.p .bool p) (.p .bool q) yc K) :
    ∃ v u, K v ∧ Rep c.P m v JJ u ∧ ∀ w : World, (binOp op t (.bool p) (.bool q)).run c.P w = .ok u w := by
  simp only [Cfg.binK] at h
  split at h
  · rename_i hu
    exact ⟨_, _, h, rfl, fun w => by simp [binOp, Op.equal, Op.maxDepth, run_equalIn_bool w _ t p q hu, beq_bool]⟩
  · rename_i hu
    exact ⟨_, _, h, rfl, fun w => by simp [binOp, Op.equal, Op.maxDepth, run_equalIn_bool w _ t p q hu, beq_bool]⟩
  · exact h.elim

/-! ### Structs of numbers and bools -/

theorem kindOK_bool {d : Option TypeDesc} {x : Bool} (h : kindOK d (.p .bool x) = true) : d = some .bool := by
  cases d with
  | none => simp [kindOK] at h
  | some d => cases d <;> simp [kindOK] at h; rfl

theorem kindOK_int {d : Option TypeDesc} {k : IntKind} {x : Int} (h : kindOK d (.p (.int k) x) = true) : ∃ k', d = some (.int k') := by
  cases d with
  | none => simp [kindOK] at h
  | some d => cases d <;> simp [kindOK] at h; exact ⟨_, rfl⟩

/-- One cell against another. -/
theorem eqK_sound {c : Base} {f : Field} {a b : EV} {u v : Value} {K : Bool → Prop} (h : eqK a b K) (ha : Rep c.P m a JJ u) (hb : Rep c.P m b JJ v)
    (ht : kindOK (c.P.underlying f.type) a = true) :
    ∃ r, K r ∧ ∀ (d : Nat) (w : World), (Op.equalIn (d + 1) f.type u v).run c.P w = .ok r w ∧ (isAgg f.type).run c.P w = .ok false w := by
  unfold eqK at h
  split at h
  · rename_i x y
    obtain rfl : u = .bool x := ha
    obtain rfl : v = .bool y := hb
    have hu := kindOK_bool ht
    exact ⟨_, h, fun d w => ⟨by rw [run_equalIn_bool w d _ x y hu, beq_bool], by simp [isAgg, run_underlying hu]⟩⟩
  · rename_i k x k' y
    split at h
    · rename_i e
      subst e
      obtain rfl : u = .int k x := ha
      obtain rfl : v = .int k y := hb
      obtain ⟨k2, hu⟩ := kindOK_int ht
      exact ⟨_, h, fun d w => ⟨by rw [run_equalIn_int w d _ k k2 x y hu]; rfl, by simp [isAgg, run_underlying hu]⟩⟩
    · exact h.elim
  · exact h.elim

theorem run_part {P : Program} {e : TypeId} {w : World} (h : (isAgg e).run P w = .ok false w) {xs : Array Value} {off : Nat} {v : Value} (hx : xs[off]? = some v) : (part e xs off).run P w = .ok v w := by
  simp [part, h, hx]

theorem eqL_sound {c : Base} {us vs : List Value} : ∀ (fs : List Field) (o : Nat) (cs ds : List EV) (K : Bool → Prop), c.fieldEV fs o cs = true → RepL c.P m cs JJ (us.drop o) → RepL c.P m ds JJ (vs.drop o) → eqLK cs ds K →
    ∃ r, K r ∧ ∀ (d : Nat) (w : World), (Op.eqFields (d + 1) us.toArray vs.toArray fs).run c.P w = .ok r w
  | [], o, cs, ds, K, hf, h1, h2, h => by
    cases cs with
    | nil =>
      cases ds with
      | nil => exact ⟨true, h, fun d w => by simp [Op.eqFields]⟩
      | cons _ _ => exact h.elim
    | cons _ _ => simp [Base.fieldEV] at hf
  | f :: fs, o, cs, ds, K, hf, h1, h2, h => by
    cases cs with
    | nil => simp [Base.fieldEV] at hf
    | cons a cs =>
      simp only [Base.fieldEV, Bool.and_eq_true] at hf
      obtain ⟨⟨⟨hn, ho⟩, ht⟩, hf⟩ := hf
      have ho' := Nat.eq_of_beq_eq_true ho
      have hn' : f.name ≠ "_" := by simpa using hn
      cases ds with
      | nil => cases cs <;> exact h.elim
      | cons b ds =>
        obtain ⟨u, us', e1, r1, r2⟩ := RepL_cons.1 h1
        obtain ⟨v, vs', e2, q1, q2⟩ := RepL_cons.1 h2
        have hu : us.toArray[f.offset]? = some u := by
          rw [ho']
          have : (us.drop o)[0]? = some u := by rw [e1]; rfl
          simpa using this
        have hv : vs.toArray[f.offset]? = some v := by
          rw [ho']
          have : (vs.drop o)[0]? = some v := by rw [e2]; rfl
          simpa using this
        have d1 : us.drop (o + 1) = us' := by rw [← List.drop_drop, e1]; rfl
        have d2 : vs.drop (o + 1) = vs' := by rw [← List.drop_drop, e2]; rfl
        have step : ∀ (r q : Bool), (∀ (d : Nat) (w : World), (Op.equalIn (d + 1) f.type u v).run c.P w = .ok r w ∧ (isAgg f.type).run c.P w = .ok false w) → (∀ (d : Nat) (w : World), (Op.eqFields (d + 1) us.toArray vs.toArray fs).run c.P w = .ok q w) →
            ∀ (d : Nat) (w : World), (Op.eqFields (d + 1) us.toArray vs.toArray (f :: fs)).run c.P w = .ok (r && q) w := by
          intro r q hr hq d w
          obtain ⟨x1, x2⟩ := hr d w
          simp only [Op.eqFields, if_pos hn', Sem.run_bind, run_part x2 hu, run_part x2 hv, Result.andThen_ok, x1]
          cases r <;> simp [hq d w]
        cases cs with
        | nil =>
          cases ds with
          | nil =>
            simp only [eqLK] at h
            obtain ⟨r, k1, k2⟩ := eqK_sound h r1 q1 ht
            cases fs with
            | nil =>
              have := step r true k2 (fun d w => by simp [Op.eqFields])
              exact ⟨r, k1, fun d w => by simpa using this d w⟩
            | cons _ _ => simp [Base.fieldEV] at hf
          | cons _ _ =>
            simp only [eqLK] at h
            obtain ⟨r, k1, k2⟩ := eqK_sound h r1 q1 ht
            exact k1.elim
        | cons a' cs =>
          have h' : eqK a b fun x => eqLK (a' :: cs) ds fun y => K (x && y) := by
            cases ds <;> exact h
          obtain ⟨r, k1, k2⟩ := eqK_sound h' r1 q1 ht
          obtain ⟨q, l1, l2⟩ := eqL_sound fs (o + 1) (a' :: cs) ds _ hf (by rw [d1]; exact r2) (by rw [d2]; exact q2) k1
          exact ⟨r && q, l1, step r q k2 l2⟩

theorem binAgg_sound {c : Cfg} {op : BinOp} {t : TypeId} {xs ys : List EV} {us vs : List Value} {yc : Bool} {K : EV → Prop} (h : c.binK op t (.agg xs) (.agg ys) yc K) (h1 : RepL c.P m xs JJ us) (h2 : RepL c.P m ys JJ vs) (ox oy : Operand) :
    ∃ v u, K v ∧ Rep c.P m v JJ u ∧ ∀ w : World, (do eqGuard op t ox oy (.agg us.toArray) (.agg vs.toArray); binOp op t (.agg us.toArray) (.agg vs.toArray)).run c.P w = .ok u w := by
  simp only [Cfg.binK] at h
  obtain ⟨hp, h⟩ := cond_true' h
  unfold Base.plainEq at hp
  split at hp
  · rename_i fs hu
    simp only [Bool.and_eq_true, Bool.not_eq_true'] at hp
    obtain ⟨⟨hs, hg⟩, hf⟩ := hp
    have hfs : c.P.fieldsOf t = fs := by simp [Program.fieldsOf, hu]
    have run : ∀ r, (∀ (d : Nat) (w : World), (Op.eqFields (d + 1) us.toArray vs.toArray fs.toList).run c.P w = .ok r w) → ∀ w : World, (Op.equalIn 10000 t (.agg us.toArray) (.agg vs.toArray)).run c.P w = .ok r w := by
      intro r hr w
      rw [run_equalIn_struct w 9999 t _ _ (by rw [hfs]; exact hu) hs, hfs]
      exact hr 9998 w
    split at h
    · obtain ⟨r, k1, k2⟩ := eqL_sound fs.toList 0 xs ys _ hf h1 h2 h
      exact ⟨_, _, k1, rfl, fun w => by simp only [Sem.run_bind, run_eqGuard_agg w _ t ox oy _ _ hg, Result.andThen_ok, run_eql_struct, run r k2 w]⟩
    · obtain ⟨r, k1, k2⟩ := eqL_sound fs.toList 0 xs ys _ hf h1 h2 h
      exact ⟨_, _, k1, rfl, fun w => by simp only [Sem.run_bind, run_eqGuard_agg w _ t ox oy _ _ hg, Result.andThen_ok, run_neq_struct, run r k2 w]⟩
    · exact h.elim
  · cases hp

/-- Any two values. -/
theorem bin_sound {c : Cfg} {op : BinOp} {t : TypeId} {x y : EV} {u v : Value} {oy : Operand} {K : EV → Prop} (h : c.binK op t x y (isConst oy) K) (hx : Rep c.P m x JJ u) (hy : Rep c.P m y JJ v) (ox : Operand) :
    ∃ e q, K e ∧ Rep c.P m e JJ q ∧ ∀ w : World, (do eqGuard op t ox oy u v; binOp op t u v).run c.P w = .ok q w := by
  unfold Cfg.binK at h
  split at h
  · rename_i k p k' q
    obtain rfl : u = .int k p := hx
    obtain rfl : v = .int k' q := hy
    obtain ⟨e, r, h1, h2, h3⟩ := binInt_sound (c := c) (m := m) (JJ := JJ) (t := t) (yc := isConst oy) (op := op) (K := K) (by unfold Cfg.binK; exact h)
    exact ⟨e, r, h1, h2, fun w => by simp only [Sem.run_bind, run_eqGuard_int, Result.andThen_ok, h3 w]⟩
  · rename_i p q
    obtain rfl : u = .bool p := hx
    obtain rfl : v = .bool q := hy
    obtain ⟨e, r, h1, h2, h3⟩ := binBool_sound (c := c) (m := m) (JJ := JJ) (t := t) (yc := isConst oy) (op := op) (K := K) (by unfold Cfg.binK; exact h)
    exact ⟨e, r, h1, h2, fun w => by simp only [Sem.run_bind, run_eqGuard_bool, Result.andThen_ok, h3 w]⟩
  · rename_i xs ys
    obtain ⟨us, rfl, h1⟩ := hx
    obtain ⟨vs, rfl, h2⟩ := hy
    exact binAgg_sound (c := c) (op := op) (t := t) (yc := isConst oy) (by unfold Cfg.binK; exact h) h1 h2 ox oy
  · rename_i al p
    obtain ⟨hc, h⟩ := cond_true' h
    obtain rfl : v = .nilIface := hy
    have hg : ∀ w, (eqGuard op t ox oy u .nilIface).run c.P w = .ok () w := by
      intro w
      cases oy <;> simp only [isConst, Bool.false_eq_true] at hc
      unfold eqGuard
      cases op <;> cases u <;> simp
    have run : ∀ ms, c.P.underlying t = some (.interface ms) → ∀ w, (Op.equal t u .nilIface).run c.P w = .ok p.isNone w := by
      intro ms hu w
      have hu2 : c.P.underlying t = some (.interface (c.P.methodsAt t)) := by rw [hu]; simp [Program.methodsAt, hu]
      cases p with
      | none =>
        obtain rfl : u = .nilIface := hx
        exact run_equalIn_nil_nil w 9999 t hu2
      | some y =>
        obtain ⟨t', v', rfl, _⟩ := hx
        exact run_equalIn_held_nil w 9999 t t' v' hu2
    have hu' : u = .nilIface ∨ ∃ t' v', u = .iface t' v' := by
      cases p with
      | none => exact .inl hx
      | some y => obtain ⟨t', v', q, _⟩ := hx; exact .inr ⟨t', v', q⟩
    split at h
    · rename_i ms hu hh
      refine ⟨_, _, h, rfl, fun w => ?_⟩
      simp only [Sem.run_bind, hg w, Result.andThen_ok]
      rcases hu' with rfl | ⟨t', v', rfl⟩ <;> simp only [binOp, Sem.run_bind, run ms hu w, Result.andThen_ok, Sem.run_pure]
    · rename_i ms hu hh
      refine ⟨_, _, h, rfl, fun w => ?_⟩
      simp only [Sem.run_bind, hg w, Result.andThen_ok]
      rcases hu' with rfl | ⟨t', v', rfl⟩ <;> simp only [binOp, Sem.run_bind, run ms hu w, Result.andThen_ok, Sem.run_pure]
    · exact h.elim
  · exact h.elim
end
end Go.Proofs.YtjeoelajkncpcaaDoor.V
