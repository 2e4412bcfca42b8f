/- Every region: the model does what the condition says. No condition of its own. -/
import Derived.Test.YtjeoelajkncpcaaDoorV16
namespace Go.Proofs.YtjeoelajkncpcaaDoor.V
open Go Go.RowKit
set_option linter.unusedVariables false
set_option linter.unusedSimpArgs false

/-- The condition's exits, as the model's. -/
def Post (c : Cfg) (m0 : Mem) (w0 : World) (fx : Fx) (K : Ex → St → Prop) : Exit → Act → World → Prop
  | .normal, a, w => Reach c m0 w0 fx (K .normal) a w
  | .ret, a, w => Reach c m0 w0 fx (K .ret) a w
  | .exit id, a, w => Reach c m0 w0 fx (K (.exit id)) a w
  | _, _, _ => False

section
variable {c : Cfg} {m0 : Mem} {w0 : World} {fx : Fx} {m : Mem} {bk : List Cn} {st : St} {a : Act} {w : World}

theorem rowOf_spec {o : Oper} {e : TypeId} {s : Shape} (h : c.rowOf o = some (e, s)) : o.op = .assign (.const (.slice none 0 0)) := by
  unfold Cfg.rowOf at h
  split at h
  · rename_i d hd he
    exact he
  · cases h

theorem nilOf_spec {o : Oper} {s : Shape} (h : c.nilOf o = some s) : o.op = .assign (.const (.slice none 0 0)) ∨ o.op = .move (.const (.slice none 0 0)) := by
  unfold Cfg.nilOf at h
  split at h
  · rename_i he; exact .inl he
  · rename_i he; exact .inr he
  · cases h

theorem run_sound (S : Sat c m0 w0 fx m bk st a w) (o : Oper) {K : St → Prop} (k : c.runK o st K) (hd : okDst fx.W o.dst = true) {next : Act → World → Prop} {Q : Exit → Act → World → Prop}
    (hn : ∀ a' w', Reach c m0 w0 fx K a' w' → (isWriter o.op = false → Kept w w') → next a' w') : o.wp c.P a w next Q := by
  unfold Cfg.runK at k
  split at k
  · rename_i e s hr
    have he := rowOf_spec hr
    have hpush := S.push (x := .row .own 0 e s []) (k := .row (.slice none 0 0)) (w' := w) S.below (fun _ _ => rfl) (fun b h => by cases h)
      ⟨[], rfl, World.ownsRow_nil _ _ _ _, (fun q => by cases q), (fun _ g hg => by cases hg)⟩
    unfold Oper.wp
    rw [show (execOp a.eval o).run c.P w = .ok (.value (.slice none 0 0)) w by rw [execOp, he]; rfl, Oper.upon_value]
    refine hn _ _ ⟨_, m, _, k, hpush.put hd ?_⟩ (fun _ => .refl w)
    refine ⟨.own, 0, e, s, [], .slice none 0 0, ?_, ?_, Nat.le_refl _, fun _ => rfl⟩
    · exact List.getElem?_concat_length
    · rw [← S.len]; exact List.getElem?_concat_length
  · split at k
    · rename_i s hs
      unfold Oper.wp
      rcases nilOf_spec hs with he | he
      · rw [show (execOp a.eval o).run c.P w = .ok (.value (.slice none 0 0)) w by rw [execOp, he]; rfl, Oper.upon_value]
        exact hn _ _ ⟨_, m, bk, k, S.put hd rfl⟩ (fun _ => .refl w)
      · rw [show (execOp a.eval o).run c.P w = .ok (.value (.slice none 0 0)) w by rw [execOp, he]; rfl, Oper.upon_value]
        exact hn _ _ ⟨_, m, bk, k, S.put hd rfl⟩ (fun _ => .refl w)
    · cases hq : isQuiet o.op with
      | true =>
        rw [hq] at k
        simp only [cond_true] at k
        obtain ⟨v, u, k1, k2, k3⟩ := quiet_sound S o k
        unfold Oper.wp
        rw [k3 w (fun _ => ⟨fun _ _ _ => rfl, S.hold⟩), Oper.upon_value]
        exact hn _ _ ⟨_, m, bk, k1, S.put hd k2⟩ (fun _ => .refl w)
      | false =>
        rw [hq] at k
        simp only [cond_false] at k
        exact loud_sound S o k fun u w' ⟨e, hp, m', bk', h1, h2, h3⟩ hk => hn _ _ ⟨_, m', bk', h1, h2.put hd h3⟩ hk

/-- More is known of a temporary. -/
theorem Sat.refine (S : Sat c m0 w0 fx m bk st a w) {d : Nat} {v : EV} (h : Rep c.P m v (J st.hp bk) (a.tmps.getD d undef)) : Sat c m0 w0 fx m bk (st.put (some d) v) a w := by
  refine { S with env := fun i => ?_ }
  show Rep c.P m (cond (Nat.beq i d) v (st.env i)) (J st.hp bk) (a.tmps.getD i undef)
  cases hb : Nat.beq i d with
  | true => rw [beq_eq hb]; exact h
  | false => exact S.env i

/-- What a region's operation comes to. -/
def OpWp (P : Program) (ops : Array Oper) (o : Oper) (a : Act) (w : World) (next : Act → World → Prop) (Q : Exit → Act → World → Prop) : Prop :=
  (Region.wanted o (yielded ops a.tmps) = true ∧ o.wp P a w next Q) ∨ (Region.wanted o (yielded ops a.tmps) = false ∧ next (a.put o.dst undef) w)

/-- An operation's guard: how the condition goes on. -/
theorem guard_sound (S : Sat c m0 w0 fx m bk st a w) {ops : Array Oper} {o : Oper} {K : St → Prop} (k : c.opK fx.W ops o st K) : okDst fx.W o.dst = true ∧
    ((Region.wanted o (yielded ops a.tmps) = true ∧ ∃ st', Sat c m0 w0 fx m bk st' a w ∧ c.runK o st' K) ∨ (Region.wanted o (yielded ops a.tmps) = false ∧ ∃ st', Sat c m0 w0 fx m bk st' a w ∧ K (st'.put o.dst (.raw undef)))) := by
  unfold Cfg.opK at k
  obtain ⟨hd, k⟩ := cond_true' k
  refine ⟨hd, ?_⟩
  unfold Region.wanted
  split at k
  · rename_i hg
    rw [hg]
    exact .inl ⟨rfl, st, S, k⟩
  · rename_i j want hg
    rw [hg]
    dsimp only
    split at k
    · rename_i d hj
      obtain ⟨hd2, k⟩ := cond_true' k
      have hdW : d ∈ fx.W := by simpa [okDst] using hd2
      have hlt : d < a.tmps.size := by rw [S.fix.1]; exact S.fix.2.2.1 d hdW
      have henv := S.env d
      have hget : a.tmps[d]? = some (a.tmps.getD d undef) := by
        simp [hlt]
      split at k
      · rename_i x he
        rw [he] at henv
        have hv : a.tmps.getD d undef = .bool x := henv
        have hy : yielded ops a.tmps j = some x := by
          unfold yielded
          rw [hj]
          simp only [Option.bind_some, hget, hv]
        rw [hy]
        have hS : ∀ y, x = y → Sat c m0 w0 fx m bk (st.put (some d) (.p .bool y)) a w := fun y e => S.refine (by subst e; exact hv)
        cases x <;> cases want <;> simp only [cond_true, cond_false] at k
        · exact .inl ⟨rfl, _, hS _ rfl, k⟩
        · exact .inr ⟨rfl, _, hS _ rfl, k⟩
        · exact .inr ⟨rfl, _, hS _ rfl, k⟩
        · exact .inl ⟨rfl, _, hS _ rfl, k⟩
      · rename_i q he
        rw [he] at henv
        have hv : a.tmps.getD d undef = .tuple q := henv
        have hy : yielded ops a.tmps j = none := by
          unfold yielded
          rw [hj]
          simp only [Option.bind_some, hget, hv]
        rw [hy]
        exact .inr ⟨rfl, st, S, k⟩
      · exact k.elim
    · exact k.elim

theorem op_sound (S : Sat c m0 w0 fx m bk st a w) {ops : Array Oper} {o : Oper} {K : St → Prop} (k : c.opK fx.W ops o st K) {next : Act → World → Prop} {Q : Exit → Act → World → Prop}
    (hn : ∀ a' w', Reach c m0 w0 fx K a' w' → (isWriter o.op = false → Kept w w') → next a' w') : OpWp c.P ops o a w next Q := by
  obtain ⟨hd, h⟩ := guard_sound S k
  rcases h with ⟨h1, st', S', k⟩ | ⟨h1, st', S', k⟩
  · exact .inl ⟨h1, run_sound S' o k hd hn⟩
  · exact .inr ⟨h1, hn _ _ ⟨_, m, bk, k, S'.put hd rfl⟩ (fun _ => .refl w)⟩

theorem seq_sound {ops : Array Oper} {K : Ex → St → Prop} : ∀ (l : List Oper) {m : Mem} {bk : List Cn} {st : St} {a : Act} {w : World}, Sat c m0 w0 fx m bk st a w → c.seqK fx.W ops l st (K .normal) → wpList c.P ops (Post c m0 w0 fx K) l a w
  | [], m, bk, st, a, w, S, k => ⟨st, m, bk, k, S⟩
  | o :: r, m, bk, st, a, w, S, k => by
    unfold wpList
    rcases op_sound (Q := Post c m0 w0 fx K) S (o := o) k (fun a' w' ⟨st', m', bk', k', S'⟩ _ => seq_sound r S' k') with ⟨h1, h2⟩ | ⟨h1, h2⟩
    · rw [if_pos h1]; exact .inl h2
    · rw [if_neg (by rw [h1]; exact Bool.false_ne_true)]; exact h2

theorem region_sound (S : Sat c m0 w0 fx m bk st a w) {ops : Array Oper} {id : Nat} {K : Ex → St → Prop} (k : c.seqK fx.W ops ops.toList st (K .normal)) : (Code.region id ops false).wp c.P (Post c m0 w0 fx K) a w :=
  wp_region_list (seq_sound _ S k)
end
end Go.Proofs.YtjeoelajkncpcaaDoor.V
