/- The calculus of the program's functions and their contracts, part 3. No condition of its own. -/
import Derived.Test.YtgeefhjlfdidmaaGreatDoorM2
import Derived.Scope
import Derived.Carry
import Derived.ChangeArms
import Derived.OpenShut
import Derived.DataElems
import Derived.Lib.LaidTab
import Derived.FnData
import Derived.TacticsIn
import Derived.RangeFuncNested
import Derived.RangeFuncLeaves


/- Every region: the model does what the condition says. No condition of its own. -/
namespace Go.Proofs.YtgeefhjlfdidmaaGreatDoor.V
open Go Go.RowKit
set_option linter.unusedVariables false
set_option linter.unusedSimpArgs false

/-- The condition's exits, as the model's. -/
def Post (c : Cfg) (m0 : Mem) (w0 : World) (fx : Fx) (K : Ex → St → Prop) : Exit → Act → World → Prop
  | .normal, a, w => Reach c m0 w0 fx (K .normal) a w
  | .ret, a, w => Reach c m0 w0 fx (K .ret) a w
  | .exit id, a, w => Reach c m0 w0 fx (K (.exit id)) a w
  | _, _, _ => False

section
variable {c : Cfg} {m0 : Mem} {w0 : World} {fx : Fx} {m : Mem} {bk : List Cn} {st : St} {a : Act} {w : World}

theorem rowOf_spec {o : Oper} {e : TypeId} {s : Shape} (h : c.rowOf o = some (e, s)) : o.op = .assign (.const (.slice none 0 0)) := by
  unfold Cfg.rowOf at h
  split at h
  · rename_i d hd he
    exact he
  · cases h

theorem boxOf_spec {o : Oper} {e : TypeId} {s : Shape} (h : c.boxOf o = some (e, s)) : ∃ t, o.op = .alloc t ∧ c.zeroOK t (.slice s) = true := by
  unfold Cfg.boxOf at h
  split at h
  · rename_i d t hd he
    cases hc : c.rows.contains d with
    | false => rw [hc] at h; cases h
    | true =>
      rw [hc] at h
      simp only [cond_true] at h
      split at h
      · split at h
        · rename_i s' hs
          cases hz : c.zeroOK t (.slice s') with
          | false => rw [hz] at h; cases h
          | true => rw [hz] at h; cases h; exact ⟨t, he, hz⟩
        · cases h
      · cases h
  · cases h

theorem srowOf_spec {o : Oper} {e : TypeId} {s : Shape} {r : List EV} (h : c.srowOf o = some (e, s, r)) : ∃ t s1, o.op = .alloc t ∧ c.zeroOK t s1 = true ∧ s1.zeroC = .nil s :: r := by
  unfold Cfg.srowOf at h
  split at h
  · rename_i d t hd he
    split at h
    · split at h
      · rename_i s1 hs
        cases hz : c.zeroOK t s1 with
        | false => rw [hz] at h; cases h
        | true =>
          rw [hz] at h
          simp only [cond_true] at h
          split at h
          · rename_i s0 r0 hc
            cases h
            exact ⟨t, s1, he, hz, hc⟩
          · cases h
      · cases h
    · cases h
  · cases h

theorem nilOf_spec {o : Oper} {s : Shape} (h : c.nilOf o = some s) : o.op = .assign (.const (.slice none 0 0)) ∨ o.op = .move (.const (.slice none 0 0)) := by
  unfold Cfg.nilOf at h
  split at h
  · rename_i he; exact .inl he
  · rename_i he; exact .inr he
  · cases h

theorem run_sound0 (H : HanOK c) (S : Sat c m0 w0 fx m bk st a w) (o : Oper) {K : St → Prop} (k : c.runK0 o st K) (hd : okDst fx.W o.dst = true) {next : Act → World → Prop} {Q : Exit → Act → World → Prop}
    (hn : ∀ a' w', Reach c m0 w0 fx K a' w' → (c.isWriter o.op = false → Kept w w') → next a' w') : o.wp c.P a w next Q := by
  unfold Cfg.runK0 at k
  split at k
  · rename_i e s hr
    have he := rowOf_spec hr
    have hpush := S.push (x := .row .own 0 e s []) (k := .row (.slice none 0 0)) (w' := w) S.below (fun _ _ => rfl) (fun b h => by cases h)
      ⟨[], rfl, World.ownsRow_nil _ _ _ _, (fun q => by cases q), (fun _ g hg => by cases hg)⟩
    unfold Oper.wp
    rw [show (execOp a.eval o).run c.P w = .ok (.value (.slice none 0 0)) w by rw [execOp, he]; rfl, Oper.upon_value]
    refine hn _ _ ⟨_, m, _, k, hpush.put hd ?_⟩ (fun _ => .refl w)
    refine ⟨.own, 0, e, s, [], .slice none 0 0, ?_, ?_, Nat.le_refl _, fun _ => rfl⟩
    · exact List.getElem?_concat_length
    · rw [← S.len]; exact List.getElem?_concat_length
  · split at k
    · rename_i e s hr
      obtain ⟨t, he, hz⟩ := boxOf_spec hr
      have hpush := S.push (x := .row .own 0 e s []) (k := .row (.slice none 0 0)) (w' := w) S.below (fun _ _ => rfl) (fun b h => by cases h)
        ⟨[], rfl, World.ownsRow_nil _ _ _ _, (fun q => by cases q), (fun _ g hg => by cases hg)⟩
      obtain ⟨z, z1, z2, _⟩ := zeroOK_sound (m := m) (J (st.hp ++ [Ent.row .own 0 e s []]) (bk ++ [Cn.row (.slice none 0 0)])) hz
      have z3 : z.cells.toList = [.slice none 0 0] := by
        obtain ⟨u, us, e1, e2, e3⟩ := RepL_cons.1 z2
        rw [RepL_nil.1 e3] at e1
        rw [e1, show u = .slice none 0 0 from e2]
      have hrow : RepL c.P m [.row st.hp.length 0] (J (st.hp ++ [Ent.row .own 0 e s []]) (bk ++ [Cn.row (.slice none 0 0)])) z.cells.toList := by
        rw [z3]
        refine RepL_cons.2 ⟨_, _, rfl, ?_, RepL_nil.2 rfl⟩
        refine ⟨.own, 0, e, s, [], .slice none 0 0, ?_, ?_, Nat.le_refl _, fun _ => rfl⟩
        · exact List.getElem?_concat_length
        · rw [← S.len]; exact List.getElem?_concat_length
      have hb := new_box hpush t z.cells _ hrow (K := fun v hp => K (St.put { st with hp := hp } o.dst v)) (by
        have : (st.hp ++ [Ent.row .own 0 e s []]).length = st.hp.length + 1 := by simp
        rw [this]; exact k)
      obtain ⟨⟨v, hp, m', bk', h1, h2, h3⟩, hk⟩ := hb
      unfold Oper.wp
      rw [show (execOp a.eval o).run c.P w = .ok (.value (.pointer (some ⟨w.heap.size, 0, none⟩))) (w.alloc (.cells z.cells t)) by
        simp [execOp, he, Instr.alloc, run_zeroValue z1 w, newVar, newRow], Oper.upon_value]
      exact hn _ _ ⟨_, m', bk', h1, h2.put hd h3⟩ (fun _ => hk)
    · split at k
      · rename_i e s r hr
        obtain ⟨t, s1, he, hz, hc⟩ := srowOf_spec hr
        have hpush := S.push (x := .row .own 0 e s []) (k := .row (.slice none 0 0)) (w' := w) S.below (fun _ _ => rfl) (fun b h => by cases h)
          ⟨[], rfl, World.ownsRow_nil _ _ _ _, (fun q => by cases q), (fun _ g hg => by cases hg)⟩
        obtain ⟨z, z1, z2, _⟩ := zeroOK_sound (m := m) (J (st.hp ++ [Ent.row .own 0 e s []]) (bk ++ [Cn.row (.slice none 0 0)])) hz
        rw [hc] at z2
        obtain ⟨u, us, e1, e2, e3⟩ := RepL_cons.1 z2
        have e2 : u = .slice none 0 0 := e2
        subst e2
        have hrow : RepL c.P m (.row st.hp.length 0 :: r) (J (st.hp ++ [Ent.row .own 0 e s []]) (bk ++ [Cn.row (.slice none 0 0)])) z.cells.toList := by
          rw [e1]
          refine RepL_cons.2 ⟨_, _, rfl, ?_, e3⟩
          refine ⟨.own, 0, e, s, [], .slice none 0 0, ?_, ?_, Nat.le_refl _, fun _ => rfl⟩
          · exact List.getElem?_concat_length
          · rw [← S.len]; exact List.getElem?_concat_length
        have hb := new_box hpush t z.cells _ hrow (K := fun v hp => K (St.put { st with hp := hp } o.dst v)) (by
          have : (st.hp ++ [Ent.row .own 0 e s []]).length = st.hp.length + 1 := by simp
          rw [this]; exact k)
        obtain ⟨⟨v, hp, m', bk', h1, h2, h3⟩, hk⟩ := hb
        unfold Oper.wp
        rw [show (execOp a.eval o).run c.P w = .ok (.value (.pointer (some ⟨w.heap.size, 0, none⟩))) (w.alloc (.cells z.cells t)) by
          simp [execOp, he, Instr.alloc, run_zeroValue z1 w, newVar, newRow], Oper.upon_value]
        exact hn _ _ ⟨_, m', bk', h1, h2.put hd h3⟩ (fun _ => hk)
      · split at k
        · rename_i s hs
          unfold Oper.wp
          rcases nilOf_spec hs with he | he
          · rw [show (execOp a.eval o).run c.P w = .ok (.value (.slice none 0 0)) w by rw [execOp, he]; rfl, Oper.upon_value]
            exact hn _ _ ⟨_, m, bk, k, S.put hd rfl⟩ (fun _ => .refl w)
          · rw [show (execOp a.eval o).run c.P w = .ok (.value (.slice none 0 0)) w by rw [execOp, he]; rfl, Oper.upon_value]
            exact hn _ _ ⟨_, m, bk, k, S.put hd rfl⟩ (fun _ => .refl w)
        · cases hq : isQuiet o.op with
          | true =>
            rw [hq] at k
            simp only [cond_true] at k
            obtain ⟨v, u, k1, k2, k3⟩ := quiet_sound S o k
            unfold Oper.wp
            rw [k3 w (fun _ => ⟨fun _ _ _ => rfl, S.hold⟩), Oper.upon_value]
            exact hn _ _ ⟨_, m, bk, k1, S.put hd k2⟩ (fun _ => .refl w)
          | false =>
            rw [hq] at k
            simp only [cond_false] at k
            exact loud_sound H S o k fun u w' ⟨e, hp, m', bk', h1, h2, h3⟩ hk => hn _ _ ⟨_, m', bk', h1, h2.put hd h3⟩ hk

theorem frzOf_spec {o : Oper} {id ver : Nat} (h : c.frzOf o st = some (id, ver)) : ∃ x, o.op = .assign x ∧ c.ev st x = .row id ver := by
  unfold Cfg.frzOf at h
  split at h
  · rename_i x he
    cases hz : c.frzAt o with
    | false => rw [hz] at h; cases h
    | true =>
      rw [hz] at h
      simp only [cond_true] at h
      split at h
      · rename_i i v hev
        cases h
        exact ⟨x, he, hev⟩
      · cases h
  · cases h

theorem frzOf_none {o : Oper} (h : c.frzAt o = false) : c.frzOf o st = none := by
  unfold Cfg.frzOf
  split
  · rw [h]; rfl
  · rfl

theorem run_sound (H : HanOK c) (S : Sat c m0 w0 fx m bk st a w) (o : Oper) {K : St → Prop} (k : c.runK o st K) (hd : okDst fx.W o.dst = true) {next : Act → World → Prop} {Q : Exit → Act → World → Prop}
    (hn : ∀ a' w', Reach c m0 w0 fx K a' w' → (c.isWriter o.op = false → Kept w w') → next a' w') : o.wp c.P a w next Q := by
  unfold Cfg.runK at k
  split at k
  · rename_i id ver hz
    obtain ⟨x, he, hev⟩ := frzOf_spec hz
    split at k
    · rename_i v e s xs hp
      obtain ⟨hb, k⟩ := cond_true' k
      simp only [Bool.and_eq_true] at hb
      have hv := beq_eq hb.1
      have hx := ev_sound S x
      rw [hev] at hx
      have hF := frz_shut S hb.2
      have hrep := hF.row (frzM_le S _) (List.mem_singleton.2 rfl) hp hv.symm hx
      have S2 := S.freeze hb.2
      unfold Oper.wp
      rw [show (execOp a.eval o).run c.P w = .ok (.value (a.eval x)) w by rw [execOp, he]; rfl, Oper.upon_value]
      exact hn _ _ ⟨_, _, bk, k, S2.put hd hrep⟩ (fun _ => .refl w)
    · exact k.elim
  · exact run_sound0 H S o k hd hn

/-- More is known of a temporary. -/
theorem Sat.refine (S : Sat c m0 w0 fx m bk st a w) {d : Nat} {v : EV} (h : Rep c.P m v (J st.hp bk) (a.tmps.getD d undef)) : Sat c m0 w0 fx m bk (st.put (some d) v) a w := by
  refine { S with env := fun i => ?_ }
  show Rep c.P m (cond (Nat.beq i d) v (st.env i)) (J st.hp bk) (a.tmps.getD i undef)
  cases hb : Nat.beq i d with
  | true => rw [beq_eq hb]; exact h
  | false => exact S.env i

/-- What a region's operation comes to. -/
def OpWp (P : Program) (ops : Array Oper) (o : Oper) (a : Act) (w : World) (next : Act → World → Prop) (Q : Exit → Act → World → Prop) : Prop :=
  (Region.wanted o (yielded ops a.tmps) = true ∧ o.wp P a w next Q) ∨ (Region.wanted o (yielded ops a.tmps) = false ∧ next (a.put o.dst undef) w)

/-- An operation's guard: how the condition goes on. -/
theorem guard_sound (S : Sat c m0 w0 fx m bk st a w) {ops : Array Oper} {o : Oper} {K : St → Prop} (k : c.opK fx.W ops o st K) : okDst fx.W o.dst = true ∧
    ((Region.wanted o (yielded ops a.tmps) = true ∧ ∃ st', Sat c m0 w0 fx m bk st' a w ∧ c.runK o st' K) ∨ (Region.wanted o (yielded ops a.tmps) = false ∧ ∃ st', Sat c m0 w0 fx m bk st' a w ∧ K (st'.put o.dst (.raw undef)))) := by
  unfold Cfg.opK at k
  obtain ⟨hd, k⟩ := cond_true' k
  refine ⟨hd, ?_⟩
  unfold Region.wanted
  split at k
  · rename_i hg
    rw [hg]
    exact .inl ⟨rfl, st, S, k⟩
  · rename_i j want hg
    rw [hg]
    dsimp only
    split at k
    · rename_i d hj
      obtain ⟨hd2, k⟩ := cond_true' k
      have hdW : d ∈ fx.W := by simpa [okDst] using hd2
      have hlt : d < a.tmps.size := by rw [S.fix.1]; exact S.fix.2.2.1 d hdW
      have henv := S.env d
      have hget : a.tmps[d]? = some (a.tmps.getD d undef) := by
        simp [hlt]
      split at k
      · rename_i x he
        rw [he] at henv
        have hv : a.tmps.getD d undef = .bool x := henv
        have hy : yielded ops a.tmps j = some x := by
          unfold yielded
          rw [hj]
          simp only [Option.bind_some, hget, hv]
        rw [hy]
        have hS : ∀ y, x = y → Sat c m0 w0 fx m bk (st.put (some d) (.p .bool y)) a w := fun y e => S.refine (by subst e; exact hv)
        cases x <;> cases want <;> simp only [cond_true, cond_false] at k
        · exact .inl ⟨rfl, _, hS _ rfl, k⟩
        · exact .inr ⟨rfl, _, hS _ rfl, k⟩
        · exact .inr ⟨rfl, _, hS _ rfl, k⟩
        · exact .inl ⟨rfl, _, hS _ rfl, k⟩
      · rename_i q he
        rw [he] at henv
        have hv : a.tmps.getD d undef = .tuple q := henv
        have hy : yielded ops a.tmps j = none := by
          unfold yielded
          rw [hj]
          simp only [Option.bind_some, hget, hv]
        rw [hy]
        exact .inr ⟨rfl, st, S, k⟩
      · exact k.elim
    · exact k.elim

theorem op_sound (H : HanOK c) (S : Sat c m0 w0 fx m bk st a w) {ops : Array Oper} {o : Oper} {K : St → Prop} (k : c.opK fx.W ops o st K) {next : Act → World → Prop} {Q : Exit → Act → World → Prop}
    (hn : ∀ a' w', Reach c m0 w0 fx K a' w' → (c.isWriter o.op = false → Kept w w') → next a' w') : OpWp c.P ops o a w next Q := by
  obtain ⟨hd, h⟩ := guard_sound S k
  rcases h with ⟨h1, st', S', k⟩ | ⟨h1, st', S', k⟩
  · exact .inl ⟨h1, run_sound H S' o k hd hn⟩
  · exact .inr ⟨h1, hn _ _ ⟨_, m, bk, k, S'.put hd rfl⟩ (fun _ => .refl w)⟩

theorem seq_sound (H : HanOK c) {ops : Array Oper} {K : Ex → St → Prop} : ∀ (l : List Oper) {m : Mem} {bk : List Cn} {st : St} {a : Act} {w : World}, Sat c m0 w0 fx m bk st a w → c.seqK fx.W ops l st (K .normal) → wpList c.P ops (Post c m0 w0 fx K) l a w
  | [], m, bk, st, a, w, S, k => ⟨st, m, bk, k, S⟩
  | o :: r, m, bk, st, a, w, S, k => by
    unfold wpList
    rcases op_sound (Q := Post c m0 w0 fx K) H S (o := o) k (fun a' w' ⟨st', m', bk', k', S'⟩ _ => seq_sound H r S' k') with ⟨h1, h2⟩ | ⟨h1, h2⟩
    · rw [if_pos h1]; exact .inl h2
    · rw [if_neg (by rw [h1]; exact Bool.false_ne_true)]; exact h2

theorem region_sound (H : HanOK c) (S : Sat c m0 w0 fx m bk st a w) {ops : Array Oper} {id : Nat} {K : Ex → St → Prop} (k : c.seqK fx.W ops ops.toList st (K .normal)) : (Code.region id ops false).wp c.P (Post c m0 w0 fx K) a w :=
  wp_region_list (seq_sound H _ S k)
end
end Go.Proofs.YtgeefhjlfdidmaaGreatDoor.V


/- Regions that draw their order. No condition of its own. -/
namespace Go.Proofs.YtgeefhjlfdidmaaGreatDoor.V
open Go Go.RowKit
set_option linter.unusedVariables false
set_option linter.unusedSimpArgs false

/-- What a listed operation waits for is listed. -/
def DC (ops : Array Oper) (listed : Array Bool) : Prop := ∀ (k : Nat) (o : Oper), ops[k]? = some o → listed.getD k false = true → ∀ e ∈ o.after, Region.binds .any e = true → listed.getD e.on false = true

theorem DC_init (ops : Array Oper) (n : Nat) : DC ops (Array.replicate n false) := by
  intro k o _ h
  rw [Array.getD_eq_getD_getElem?, Array.getElem?_replicate] at h
  split at h <;> cases h

theorem unlisted {ops : Array Oper} {listed : Array Bool} {i : Nat} (h : i ∈ Region.ready .any ops listed) : listed.getD i false = false := by
  have h0 := (mem_ready.1 h).1
  rcases Nat.lt_or_ge i listed.size with q | q
  · simp [q] at h0 ⊢; exact h0
  · simp [Array.getElem?_eq_none q] at h0

theorem DC.set {ops : Array Oper} {listed : Array Bool} (h : DC ops listed) {j : Nat} (hj : j ∈ Region.ready .any ops listed) : DC ops (listed.setIfInBounds j true) := by
  intro k o ho hk e he hb
  by_cases hjk : j = k
  · subst hjk
    obtain ⟨_, o', ho', hall⟩ := mem_ready.1 hj
    rw [ho] at ho'; cases ho'
    exact getD_set_true (hall e he hb)
  · rw [getD_set_ne false hjk] at hk
    exact getD_set_true (h k o ho hk e he hb)

theorem waits_mem {ops : Array Oper} {k i : Nat} (h : i ∈ waits ops k) : ∃ o e, ops[k]? = some o ∧ e ∈ o.after ∧ Region.binds .any e = true ∧ e.on = i := by
  unfold waits at h
  split at h
  · rename_i o ho
    obtain ⟨e, he, hi⟩ := List.mem_map.1 h
    obtain ⟨h1, h2⟩ := List.mem_filter.1 he
    exact ⟨o, e, ho, Array.mem_toList_iff.1 h1, h2, hi⟩
  · cases h

theorem down_listed {ops : Array Oper} {listed : Array Bool} (h : DC ops listed) {j : Nat} (hj : j ∈ Region.ready .any ops listed) : ∀ (n : Nat) (l : List Nat), (∀ k ∈ l, k = j ∨ listed.getD k false = true) → ∀ k ∈ down ops n l, k = j ∨ listed.getD k false = true
  | 0, l, hl => hl
  | n + 1, l, hl => by
    unfold down
    cases hc : l.contains n with
    | false => exact down_listed h hj n l hl
    | true =>
      simp only [cond_true]
      refine down_listed h hj n _ fun k hk => ?_
      rcases List.mem_append.1 hk with hk | hk
      · obtain ⟨o, e, ho, he, hb, rfl⟩ := waits_mem hk
        right
        rcases hl n (by simpa using hc) with q | q
        · subst q
          obtain ⟨_, o', ho', hall⟩ := mem_ready.1 hj
          rw [ho] at ho'; cases ho'
          exact hall e he hb
        · exact h n o ho q e he hb
      · exact hl k hk

theorem opAt_some {ops : Array Oper} {i : Nat} {p : Op → Bool} (h : opAt ops i p = true) : ∃ o, ops[i]? = some o ∧ p o.op = true := by
  unfold opAt at h
  split at h
  · rename_i o ho; exact ⟨o, ho, h⟩
  · cases h

theorem writer_load {c : Cfg} {o : Op} (h1 : c.isWriter o = true) (h2 : isLoad o = true) : False := by
  unfold isLoad at h2
  split at h2
  · cases h1
  · cases h2

/-- When a writer may come up every load has come up. -/
theorem loads_listed {c : Cfg} {ops : Array Oper} {listed : Array Bool} (hw : c.writersOK ops = true) (h : DC ops listed) {j : Nat} (hj : j ∈ Region.ready .any ops listed) (hjw : opAt ops j c.isWriter = true) {i : Nat} (hi : opAt ops i isLoad = true) : listed.getD i false = true := by
  have hlt : ∀ {k : Nat} {p : Op → Bool}, opAt ops k p = true → k < ops.size := fun hk => by
    obtain ⟨o, ho, _⟩ := opAt_some hk
    exact (Array.getElem?_eq_some_iff.1 ho).1
  have h1 := List.all_eq_true.1 hw j (List.mem_range.2 (hlt hjw))
  rw [hjw] at h1
  simp only [Bool.not_true, Bool.false_or] at h1
  have h2 := List.all_eq_true.1 h1 i (List.mem_range.2 (hlt hi))
  rw [hi] at h2
  simp only [Bool.not_true, Bool.false_or] at h2
  have h3 := down_listed h hj ops.size [j] (fun k hk => .inl (by simpa using hk)) i (by simpa using h2)
  rcases h3 with q | q
  · subst q
    obtain ⟨o, ho, h4⟩ := opAt_some hjw
    obtain ⟨o', ho', h5⟩ := opAt_some hi
    rw [ho] at ho'; cases ho'
    exact (writer_load h4 h5).elim
  · exact q

section
variable {c : Cfg} {P : Program} {ops : Array Oper} {Q : Exit → Act → World → Prop}

/-- Whatever order is picked: S holds behind every operation up to the first writer. -/
def wpG (c : Cfg) (P : Program) (ops : Array Oper) (Q : Exit → Act → World → Prop) (S : World → Prop) : Nat → Array Bool → Act → World → Prop
  | 0, listed, a, w => Region.ready .any ops listed = [] ∧ Q .normal a w
  | fuel + 1, listed, a, w =>
    (Region.ready .any ops listed = [] → Q .normal a w) ∧
    ∀ i ∈ Region.ready .any ops listed, wpOp P ops Q i (fun a' w' => (opAt ops i c.isWriter = true ∧ wpAny P .any ops Q fuel (listed.setIfInBounds i true) a' w') ∨ (opAt ops i c.isWriter = false ∧ S w' ∧ wpG c P ops Q S fuel (listed.setIfInBounds i true) a' w')) a w

theorem wpAny_of_G {S : World → Prop} : ∀ (fuel : Nat) (listed : Array Bool) (a : Act) (w : World), wpG c P ops Q S fuel listed a w → wpAny P .any ops Q fuel listed a w
  | 0, _, _, _, h => h
  | fuel + 1, _, _, _, h => ⟨h.1, fun i hi => wpOp_mono (fun a' w' h' => by
      rcases h' with ⟨_, h'⟩ | ⟨_, _, h'⟩
      · exact h'
      · exact wpAny_of_G fuel _ a' w' h') (h.2 i hi)⟩

theorem wpG_mono {S S' : World → Prop} (hS : ∀ w, S w → S' w) : ∀ (fuel : Nat) (listed : Array Bool) (a : Act) (w : World), wpG c P ops Q S fuel listed a w → wpG c P ops Q S' fuel listed a w
  | 0, _, _, _, h => h
  | fuel + 1, _, _, _, h => ⟨h.1, fun i hi => wpOp_mono (fun a' w' h' => h'.imp id fun ⟨h1, h2, h3⟩ => ⟨h1, hS _ h2, wpG_mono hS fuel _ a' w' h3⟩) (h.2 i hi)⟩

theorem wpG_first {S : World → Prop} {i : Nat} {oi : Oper} {v : Value} (hi : ops[i]? = some oi) (hsel : ∀ (j : Nat) (o : Oper) cs b, ops[j]? = some o → o.op ≠ .select cs b)
    (hQ : ∀ c a w, Q (.panic c) (a.put oi.dst v) w → Q (.panic c) a w) (hw : c.writersOK ops = true) (hnw : c.isWriter oi.op = false) :
    ∀ (fuel : Nat) (listed : Array Bool) (a : Act) (w : World), DC ops listed →
      (∀ j oj, ops[j]? = some oj → j ≠ i → listed.getD j true = false → (∀ e ∈ oj.after, Region.binds .any e = true → e.on ≠ i) → oi.apart ops oj = true) →
      i ∈ Region.ready .any ops listed → YieldsIf P ops (fun w => isLoad oi.op = true → S w) oi v a → S w →
      wpG c P ops Q S fuel (listed.setIfInBounds i true) (a.put oi.dst v) w → wpG c P ops Q S (fuel + 1) listed a w := by
  have hwi : opAt ops i c.isWriter = false := by unfold opAt; rw [hi]; exact hnw
  intro fuel
  induction fuel with
  | zero =>
    intro listed a w _ _ hr hy hS H
    refine ⟨fun h => (by rw [h] at hr; cases hr), fun j hj => ?_⟩
    by_cases hji : j = i
    · subst hji; exact hy.wpOp hi (fun _ => hS) (.inr ⟨hwi, hS, H⟩)
    · have := ready_mono hj hji
      rw [H.1] at this
      cases this
  | succ fuel ih =>
    intro listed a w hD hfree hr hy hS H
    refine ⟨fun h => (by rw [h] at hr; cases hr), fun j hj => ?_⟩
    by_cases hji : j = i
    · subst hji; exact hy.wpOp hi (fun _ => hS) (.inr ⟨hwi, hS, H⟩)
    · have h1 := H.2 j (ready_mono hj hji)
      obtain ⟨hjun, oj, hoj, hall⟩ := mem_ready.1 hj
      have hnot : ∀ e ∈ oj.after, Region.binds .any e = true → e.on ≠ i := fun e he hb heq => by
        have h1 := hall e he hb
        have h0 := (mem_ready.1 hr).1
        rw [heq] at h1
        rcases Nat.lt_or_ge i listed.size with h' | h'
        · simp [h'] at h0 h1; rw [h0] at h1; cases h1
        · simp [Array.getElem?_eq_none h'] at h1
      have h2 := wpOp_putIf hoj (hfree j oj hoj hji hjun hnot) (fun cs b => hsel i oi cs b hi) (fun cs b => hsel j oj cs b hoj) hQ hy h1
      have hfree' : ∀ k ok, ops[k]? = some ok → k ≠ i → (listed.setIfInBounds j true).getD k true = false →
          (∀ e ∈ ok.after, Region.binds .any e = true → e.on ≠ i) → oi.apart ops ok = true := fun k ok hk hki hun hno => by
        refine hfree k ok hk hki ?_ hno
        by_cases hjk : j = k
        · subst hjk; exact hjun
        · rw [getD_set_ne true hjk] at hun; exact hun
      refine wpOp_mono (fun a' w' h3 => ?_) h2
      obtain ⟨hy', h3⟩ := h3
      rcases h3 with ⟨hjw, h3⟩ | ⟨hjw, h3, h4⟩
      · refine .inl ⟨hjw, ?_⟩
        rw [Array.setIfInBounds_comm _ _ (Ne.symm hji)] at h3
        have hnl : isLoad oi.op = false := by
          cases hl : isLoad oi.op with
          | false => rfl
          | true =>
            have h5 := loads_listed hw hD hj hjw (i := i) (by unfold opAt; rw [hi]; exact hl)
            rw [unlisted hr] at h5
            cases h5
        refine wpAny_first hi hsel hQ fuel _ a' w' hfree' (ready_mono hr (Ne.symm hji)) ?_ h3
        exact hy'.imp (fun ⟨p, q⟩ => ⟨p, fun w => q w (fun e => by rw [hnl] at e; cases e)⟩) id
      · refine .inr ⟨hjw, h3, ih (listed.setIfInBounds j true) a' w' (hD.set hj) hfree' (ready_mono hr (Ne.symm hji)) hy' h3 ?_⟩
        rw [Array.setIfInBounds_comm _ _ hji]
        exact h4
end

section
variable {c : Cfg} {m0 : Mem} {w0 : World} {fx : Fx}

/-- A quiet operation of a region: what it yields, and how the condition goes on. -/
theorem quiet_at {m : Mem} {bk : List Cn} {st : St} {a : Act} {w : World} (S : Sat c m0 w0 fx m bk st a w) {ops : Array Oper} {o : Oper} (hq : isQuiet o.op = true) (hr : (c.rowOf o).isNone = true) (hz : c.frzAt o = false) {K : St → Prop} (k : c.opK fx.W ops o st K) :
    ∃ v st', K st' ∧ Sat c m0 w0 fx m bk st' (a.put o.dst v) w ∧ YieldsIf c.P ops (fun w' => isLoad o.op = true → Same bk w w' ∧ Holds w' m) o v a := by
  obtain ⟨hd, h⟩ := guard_sound S k
  rcases h with ⟨h1, st', S', k⟩ | ⟨h1, st', S', k⟩
  · unfold Cfg.runK at k
    rw [frzOf_none hz] at k
    dsimp only at k
    unfold Cfg.runK0 at k
    split at k
    · rename_i e s he; rw [he] at hr; cases hr
    · split at k
      · rename_i e s he
        obtain ⟨t, he, _⟩ := boxOf_spec he
        rw [he] at hq; cases hq
      · split at k
        · rename_i e s r he
          obtain ⟨t, _, he, _⟩ := srowOf_spec he
          rw [he] at hq; cases hq
        · split at k
          · rename_i s hs
            refine ⟨.slice none 0 0, _, k, S'.put hd rfl, .inl ⟨h1, fun w' _ => ?_⟩⟩
            rcases nilOf_spec hs with he | he <;> rw [execOp, he] <;> rfl
          · rw [hq] at k
            simp only [cond_true] at k
            obtain ⟨v, u, k1, k2, k3⟩ := quiet_sound S' o k
            exact ⟨u, _, k1, S'.put hd k2, .inl ⟨h1, k3⟩⟩
  · exact ⟨undef, _, k, S'.put hd rfl, .inr ⟨h1, rfl⟩⟩

theorem quietAt_spec {ops : Array Oper} {i : Nat} (h : c.quietAt ops i = true) : ∃ o, ops[i]? = some o ∧ isQuiet o.op = true ∧ (c.rowOf o).isNone = true ∧ c.frzAt o = false := by
  unfold Cfg.quietAt at h
  split at h
  · rename_i o ho
    simp only [Bool.and_eq_true, Bool.not_eq_true'] at h
    exact ⟨o, ho, h.1.1, h.1.2, h.2⟩
  · cases h

theorem quiet_writer {o : Op} (h : isQuiet o = true) : c.isWriter o = false := by
  unfold Cfg.isWriter
  split
  · cases h
  · cases h
  · cases h
  · cases h
  · cases h
  · rfl

theorem allK_mem {F : Nat → Prop} : ∀ {l : List Nat}, allK F l → ∀ i ∈ l, F i
  | [], _, _, h => by cases h
  | [j], h, i, hi => by simp at hi; subst hi; exact h
  | j :: k :: r, h, i, hi => by
    rcases List.mem_cons.1 hi with q | q
    · subst q; exact h.1
    · exact allK_mem (l := k :: r) h.2 i q

variable {ops : Array Oper} {K : Ex → St → Prop}

theorem wpOp_of {P : Program} {i : Nat} {o : Oper} {Q : Exit → Act → World → Prop} {next : Act → World → Prop} {a : Act} {w : World} (hi : ops[i]? = some o) (h : OpWp P ops o a w next Q) : wpOp P ops Q i next a w := by
  unfold wpOp
  simp only [hi]
  rcases h with ⟨h1, h2⟩ | ⟨h1, h2⟩
  · rw [if_pos h1]; exact .inl h2
  · rw [if_neg (by rw [h1]; exact Bool.false_ne_true)]; exact h2

/-- Behind the first writer: whatever is taken ahead yields in every world. -/
theorem draw2_sound (H : HanOK c) (hs : Region.noSelect ops = true) : ∀ (n : Nat) (listed : Array Bool) {m : Mem} {bk : List Cn} {st : St} {a : Act} {w : World}, Sat c m0 w0 fx m bk st a w → (∀ i, opAt ops i isLoad = true → listed.getD i false = true) → c.drawK fx.W ops n listed st (K .normal) → wpAny c.P .any ops (Post c m0 w0 fx K) n listed a w
  | 0, listed, m, bk, st, a, w, S, hL, k => by
    unfold Cfg.drawK at k
    split at k
    · rename_i hr; exact ⟨hr, st, m, bk, k, S⟩
    · exact k.elim
  | n + 1, listed, m, bk, st, a, w, S, hL, k => by
    unfold Cfg.drawK at k
    have hL' : ∀ i j, opAt ops i isLoad = true → (listed.setIfInBounds j true).getD i false = true := fun i j h => getD_set_true (hL i h)
    split at k
    · rename_i i hf
      have hmem := List.mem_of_find?_eq_some hf
      have hp := List.find?_some hf
      simp only [Bool.and_eq_true] at hp
      obtain ⟨o, ho, hq, hr, hz⟩ := quietAt_spec hp.1
      rw [ho] at k
      dsimp only at k
      obtain ⟨v, st', k1, S1, hy⟩ := quiet_at S hq hr hz k
      have hnl : isLoad o.op = false := by
        cases hl : isLoad o.op with
        | false => rfl
        | true =>
          have h5 := hL i (by unfold opAt; rw [ho]; exact hl)
          rw [unlisted hmem] at h5
          cases h5
      refine wpAny_first ho (Region.noSelect_spec hs) (fun _ _ _ q => q.elim) n listed a w (Region.free_spec ho hp.2) hmem ?_ (draw2_sound H hs n _ S1 (fun i h => hL' i _ h) k1)
      exact hy.imp (fun ⟨p, q⟩ => ⟨p, fun w => q w (fun e => by rw [hnl] at e; cases e)⟩) id
    · split at k
      · exact k.elim
      · rename_i rs hne
        refine ⟨fun h => absurd h hne, fun i hi => ?_⟩
        have ki := allK_mem k i hi
        obtain ⟨_, o, ho, _⟩ := mem_ready.1 hi
        rw [ho] at ki
        dsimp only at ki
        exact wpOp_of ho (op_sound H S ki fun a' w' ⟨st', m', bk', k', S'⟩ _ => draw2_sound H hs n _ S' (fun i h => hL' i _ h) k')

theorem Sat.same_of_kept {m : Mem} {bk : List Cn} {st : St} {a : Act} {w w' : World} (S : Sat c m0 w0 fx m bk st a w) (h : Kept w w') : Same bk w w' ∧ Holds w' m :=
  ⟨fun i b hb => h.2 b (S.blk_lt hb).2, fun b o v hm => by rw [← S.hold b o v hm]; exact World.cell?_of_block (h.2 b (S.mem_lt hm))⟩

theorem draw1_sound (H : HanOK c) (hs : Region.noSelect ops = true) (hw : c.writersOK ops = true) : ∀ (n : Nat) (listed : Array Bool) {m : Mem} {bk : List Cn} {st : St} {a : Act} {w : World}, Sat c m0 w0 fx m bk st a w → DC ops listed → c.drawK fx.W ops n listed st (K .normal) → wpG c c.P ops (Post c m0 w0 fx K) (Kept w) n listed a w
  | 0, listed, m, bk, st, a, w, S, hD, k => by
    unfold Cfg.drawK at k
    split at k
    · rename_i hr; exact ⟨hr, st, m, bk, k, S⟩
    · exact k.elim
  | n + 1, listed, m, bk, st, a, w, S, hD, k => by
    unfold Cfg.drawK at k
    split at k
    · rename_i i hf
      have hmem := List.mem_of_find?_eq_some hf
      have hp := List.find?_some hf
      simp only [Bool.and_eq_true] at hp
      obtain ⟨o, ho, hq, hr, hz⟩ := quietAt_spec hp.1
      rw [ho] at k
      dsimp only at k
      obtain ⟨v, st', k1, S1, hy⟩ := quiet_at S hq hr hz k
      refine wpG_first ho (Region.noSelect_spec hs) (fun _ _ _ q => q.elim) hw (quiet_writer hq) n listed a w hD (Region.free_spec ho hp.2) hmem ?_ (Kept.refl w) (draw1_sound H hs hw n _ S1 (hD.set hmem) k1)
      exact hy.imp (fun ⟨p, q⟩ => ⟨p, fun w' e => q w' (fun l => S.same_of_kept (e l))⟩) id
    · split at k
      · exact k.elim
      · rename_i rs hne
        refine ⟨fun h => absurd h hne, fun i hi => ?_⟩
        have ki := allK_mem k i hi
        obtain ⟨_, o, ho, _⟩ := mem_ready.1 hi
        rw [ho] at ki
        dsimp only at ki
        refine wpOp_of ho (op_sound H S ki fun a' w' ⟨st', m', bk', k', S'⟩ hk => ?_)
        cases hjw : c.isWriter o.op with
        | true =>
          have hjw' : opAt ops i c.isWriter = true := by unfold opAt; rw [ho]; exact hjw
          exact .inl ⟨hjw', draw2_sound H hs n _ S' (fun j h => getD_set_true (loads_listed hw hD hi hjw' h)) k'⟩
        | false =>
          have hjw' : opAt ops i c.isWriter = false := by unfold opAt; rw [ho]; exact hjw
          exact .inr ⟨hjw', hk hjw, wpG_mono (fun w'' h => (hk hjw).trans h) _ _ _ _ (draw1_sound H hs hw n _ S' (hD.set hi) k')⟩

theorem draw_sound (H : HanOK c) {m : Mem} {bk : List Cn} {st : St} {a : Act} {w : World} (S : Sat c m0 w0 fx m bk st a w) {id : Nat} (hok : c.drawOK ops = true) (k : c.drawK fx.W ops ops.size (Array.replicate ops.size false) st (K .normal)) :
    (Code.region id ops true).wp c.P (Post c m0 w0 fx K) a w := by
  unfold Cfg.drawOK at hok
  simp only [Bool.and_eq_true] at hok
  exact wp_region_any hok.1.1 (wpAny_of_G _ _ _ _ (draw1_sound H hok.1.2 hok.2 _ _ S.drew (DC_init _ _) k))

theorem stillAt_spec {ops : Array Oper} {i : Nat} (h : c.stillAt ops i = true) : ∃ o, ops[i]? = some o ∧ isQuiet o.op = true ∧ (c.rowOf o).isNone = true ∧ c.frzAt o = false ∧ isLoad o.op = false := by
  unfold Cfg.stillAt at h
  split at h
  · rename_i o ho
    simp only [Bool.and_eq_true, Bool.not_eq_true'] at h
    exact ⟨o, ho, h.1.1.1, h.1.1.2, h.1.2, h.2⟩
  · cases h

theorem drawN_sound1 (H : HanOK c) (hs : Region.noSelect ops = true) : ∀ (n : Nat) (listed : Array Bool) {m : Mem} {bk : List Cn} {st : St} {a : Act} {w : World}, Sat c m0 w0 fx m bk st a w → c.drawN fx.W ops n listed st (K .normal) → wpAny c.P .any ops (Post c m0 w0 fx K) n listed a w
  | 0, listed, m, bk, st, a, w, S, k => by
    unfold Cfg.drawN at k
    split at k
    · rename_i hr; exact ⟨hr, st, m, bk, k, S⟩
    · exact k.elim
  | n + 1, listed, m, bk, st, a, w, S, k => by
    unfold Cfg.drawN at k
    split at k
    · rename_i i hf
      have hmem := List.mem_of_find?_eq_some hf
      have hp := List.find?_some hf
      simp only [Bool.and_eq_true] at hp
      obtain ⟨o, ho, hq, hr, hz, hnl⟩ := stillAt_spec hp.1
      rw [ho] at k
      dsimp only at k
      obtain ⟨v, st', k1, S1, hy⟩ := quiet_at S hq hr hz k
      refine wpAny_first ho (Region.noSelect_spec hs) (fun _ _ _ q => q.elim) n listed a w (Region.free_spec ho hp.2) hmem ?_ (drawN_sound1 H hs n _ S1 k1)
      exact hy.imp (fun ⟨p, q⟩ => ⟨p, fun w => q w (fun e => by rw [hnl] at e; cases e)⟩) id
    · split at k
      · exact k.elim
      · rename_i rs hne
        refine ⟨fun h => absurd h hne, fun i hi => ?_⟩
        have ki := allK_mem k i hi
        obtain ⟨_, o, ho, _⟩ := mem_ready.1 hi
        rw [ho] at ki
        dsimp only at ki
        exact wpOp_of ho (op_sound H S ki fun a' w' ⟨st', m', bk', k', S'⟩ _ => drawN_sound1 H hs n _ S' k')

theorem drawN_sound (H : HanOK c) {m : Mem} {bk : List Cn} {st : St} {a : Act} {w : World} (S : Sat c m0 w0 fx m bk st a w) {id : Nat} (hok : c.drawOKn ops = true) (k : c.drawN fx.W ops ops.size (Array.replicate ops.size false) st (K .normal)) :
    (Code.region id ops true).wp c.P (Post c m0 w0 fx K) a w := by
  unfold Cfg.drawOKn at hok
  simp only [Bool.and_eq_true] at hok
  exact wp_region_any hok.1 (drawN_sound1 H hok.2 _ _ S.drew k)
end
end Go.Proofs.YtgeefhjlfdidmaaGreatDoor.V


/- Loops: the state at a round's head. No condition of its own. -/
namespace Go.Proofs.YtgeefhjlfdidmaaGreatDoor.V
open Go Go.RowKit
set_option linter.unusedVariables false
set_option linter.unusedSimpArgs false

/-! ### What a round hands on -/

def WkL : List EV → List EV → Prop
  | [], [] => True
  | v :: r, u :: q => (v = .bot ∨ v = u) ∧ WkL r q
  | _, _ => False

def SWk : Slot → Slot → Prop
  | .e v, u => v = .bot ∨ u = .e v ∨ ∃ cs ds, v = .agg cs ∧ u = .e (.agg ds) ∧ WkL cs ds
  | .n (.box _ cs), u => ∃ ds, u = .n (.box .own ds) ∧ WkL cs ds
  | .n (.row _ v el s xs), u => u = .n (.row .own v el s xs)
  | .n (.iter _ s pos), u => u = .n (.iter .own s pos)

def SWkL : List Slot → List Slot → Prop
  | [], [] => True
  | v :: r, u :: q => SWk v u ∧ SWkL r q
  | _, _ => False

theorem EV.mat_spec (v : EV) (u : EV) {K : v.sh.Val → Prop} (h : v.mat u K) : ∃ x, K x ∧ (v.mk' x = .bot ∨ v.mk' x = u) := by
  cases v with
  | p s y =>
    cases u with
    | p s' z =>
      obtain ⟨e, h⟩ := castK_spec (show castK s' s z K from h)
      subst e
      exact ⟨z, h, .inr rfl⟩
    | _ => exact False.elim h
  | box i o =>
    cases u with
    | box i' o' =>
      obtain ⟨hb, h⟩ := cond_true' (show cond (Nat.beq i i' && Nat.beq o o') (K ()) False from h)
      simp only [Bool.and_eq_true] at hb
      exact ⟨(), h, .inr (by rw [← beq_eq hb.1, ← beq_eq hb.2]; rfl)⟩
    | _ => exact False.elim h
  | row i o =>
    cases u with
    | row i' o' =>
      obtain ⟨hb, h⟩ := cond_true' (show cond (Nat.beq i i' && Nat.beq o o') (K ()) False from h)
      simp only [Bool.and_eq_true] at hb
      exact ⟨(), h, .inr (by rw [← beq_eq hb.1, ← beq_eq hb.2]; rfl)⟩
    | _ => exact False.elim h
  | _ => exact ⟨(), h, .inl rfl⟩

theorem matC_spec : ∀ (l : List EV) (q : List EV) {K : (shC l).Val → Prop}, matC l q K → ∃ x, K x ∧ WkL (mkC l x) q
  | [], [], K, h => ⟨(), h, trivial⟩
  | [v], [u], K, h => by
    obtain ⟨x, h1, h2⟩ := EV.mat_spec v u h
    exact ⟨x, h1, h2, trivial⟩
  | v :: w :: r, u :: q, K, h => by
    obtain ⟨x, h1, h2⟩ := EV.mat_spec v u (show v.mat u fun x => matC (w :: r) q fun y => K (x, y) from h)
    obtain ⟨y, h3, h4⟩ := matC_spec (w :: r) q h1
    exact ⟨(x, y), h3, h2, h4⟩
  | [], _ :: _, K, h => h.elim
  | [v], [], K, h => h.elim
  | [v], _ :: _ :: _, K, h => h.elim
  | v :: w :: r, [], K, h => h.elim

theorem Slot.mat_spec (s u : Slot) {K : s.sh.Val → Prop} (h : s.mat u K) : ∃ x, K x ∧ SWk (s.mk' x) u := by
  cases s with
  | e v =>
    cases v with
    | agg cs =>
      cases u with
      | n _ => exact False.elim h
      | e z =>
        cases z with
        | agg ds =>
          obtain ⟨x, h1, h2⟩ := matC_spec cs ds h
          exact ⟨x, h1, .inr (.inr ⟨_, ds, rfl, rfl, h2⟩)⟩
        | _ => exact False.elim h
    | p s y =>
      cases u with
      | n _ => exact False.elim h
      | e z =>
        obtain ⟨x, h1, h2⟩ := EV.mat_spec (.p s y) z h
        exact ⟨x, h1, h2.imp id fun e => .inl (congrArg Slot.e e.symm)⟩
    | box i o =>
      cases u with
      | n _ => exact False.elim h
      | e z =>
        obtain ⟨x, h1, h2⟩ := EV.mat_spec (.box i o) z h
        exact ⟨x, h1, h2.imp id fun e => .inl (congrArg Slot.e e.symm)⟩
    | row i o =>
      cases u with
      | n _ => exact False.elim h
      | e z =>
        obtain ⟨x, h1, h2⟩ := EV.mat_spec (.row i o) z h
        exact ⟨x, h1, h2.imp id fun e => .inl (congrArg Slot.e e.symm)⟩
    | _ => exact ⟨(), h, .inl rfl⟩
  | n x =>
    cases u with
    | e _ => cases x <;> exact False.elim h
    | n z =>
      cases x with
      | box o cs =>
        cases z with
        | row _ _ _ _ _ => exact False.elim h
        | iter _ _ _ => exact False.elim h
        | box o' ds =>
          cases o' with
          | own =>
            obtain ⟨x, h1, h2⟩ := matC_spec cs ds h
            exact ⟨x, h1, ds, rfl, h2⟩
          | _ => exact False.elim h
      | row o v el s xs =>
        cases z with
        | box _ _ => exact False.elim h
        | iter _ _ _ => exact False.elim h
        | row o' v' el' s' ys =>
          cases o' with
          | own =>
            obtain ⟨hb, h⟩ := cond_true' (show cond (Nat.beq el' el && Nat.beq v' v) (castK (.slice s') (.slice s) ys K) False from h)
            simp only [Bool.and_eq_true] at hb
            obtain ⟨e, h⟩ := castK_spec h
            cases e
            have e1 := beq_eq hb.1
            have e2 := beq_eq hb.2
            subst e1; subst e2
            exact ⟨ys, h, rfl⟩
          | _ => exact False.elim h
      | iter o b pos =>
        cases z with
        | box _ _ => exact False.elim h
        | row _ _ _ _ _ => exact False.elim h
        | iter o' b' pos' =>
          cases o' with
          | own =>
            obtain ⟨hb, h⟩ := (show chk (b' = b) (K pos') from h)
            subst hb
            exact ⟨pos', h, rfl⟩
          | _ => exact False.elim h

theorem matL_spec : ∀ (l q : List Slot) {K : (shL l).Val → Prop}, matL l q K → ∃ x, K x ∧ SWkL (mkL l x) q
  | [], [], K, h => ⟨(), h, trivial⟩
  | [v], [u], K, h => by
    obtain ⟨x, h1, h2⟩ := Slot.mat_spec v u h
    exact ⟨x, h1, h2, trivial⟩
  | v :: w :: r, u :: q, K, h => by
    obtain ⟨x, h1, h2⟩ := Slot.mat_spec v u (show v.mat u fun x => matL (w :: r) q fun y => K (x, y) from h)
    obtain ⟨y, h3, h4⟩ := matL_spec (w :: r) q h1
    exact ⟨(x, y), h3, h2, h4⟩
  | [], _ :: _, K, h => h.elim
  | [v], [], K, h => h.elim
  | [v], _ :: _ :: _, K, h => h.elim
  | v :: w :: r, [], K, h => h.elim

theorem EV.self (v : EV) : v.mk' v.lf = .bot ∨ v.mk' v.lf = v := by
  cases v <;> first | exact .inl rfl | exact .inr rfl

theorem mkC_self : ∀ l : List EV, WkL (mkC l (lfC l)) l
  | [] => trivial
  | [v] => ⟨EV.self v, trivial⟩
  | v :: w :: r => ⟨EV.self v, mkC_self (w :: r)⟩

def Slot.ownN : Slot → Prop
  | .e _ => True
  | .n x => x.md = .own

theorem Slot.self (s : Slot) (h : s.ownN) : SWk (s.mk' s.lf) s := by
  cases s with
  | e v =>
    cases v with
    | agg cs => exact .inr (.inr ⟨_, cs, rfl, rfl, mkC_self cs⟩)
    | p s x => exact .inr (.inl rfl)
    | box i o => exact .inr (.inl rfl)
    | row i o => exact .inr (.inl rfl)
    | _ => exact .inl rfl
  | n x =>
    cases x with
    | box o cs => obtain rfl : o = .own := h; exact ⟨cs, rfl, mkC_self cs⟩
    | row o v el s xs => obtain rfl : o = .own := h; exact (rfl : Slot.n _ = _)
    | iter o b pos => obtain rfl : o = .own := h; exact (rfl : Slot.n _ = _)

theorem mkL_self : ∀ l : List Slot, (∀ s ∈ l, s.ownN) → SWkL (mkL l (lfL l)) l
  | [], _ => trivial
  | [v], h => ⟨Slot.self v (h v (by simp)), trivial⟩
  | v :: w :: r, h => ⟨Slot.self v (h v (by simp)), mkL_self (w :: r) fun s hs => h s (List.mem_cons_of_mem _ hs)⟩

theorem mkL_get : ∀ (l : List Slot) (x : (shL l).Val) {j : Nat} {s : Slot}, l[j]? = some s → ∃ y, (mkL l x)[j]? = some (s.mk' y)
  | [], _, _, _, h => by simp at h
  | [v], x, 0, s, h => by simp at h; subst h; exact ⟨x, rfl⟩
  | [v], x, j + 1, s, h => by simp at h
  | v :: w :: r, x, 0, s, h => by simp at h; subst h; exact ⟨x.1, rfl⟩
  | v :: w :: r, x, j + 1, s, h => by
    obtain ⟨y, hy⟩ := mkL_get (w :: r) x.2 (j := j) (by simpa using h)
    exact ⟨y, by simpa [mkL] using hy⟩

theorem SWkL_get : ∀ {l q : List Slot} {j : Nat} {s : Slot}, SWkL l q → l[j]? = some s → ∃ u, q[j]? = some u ∧ SWk s u
  | [], _, _, _, _, h => by simp at h
  | v :: r, [], _, _, k, _ => k.elim
  | v :: r, u :: q, 0, s, k, h => by simp at h; subst h; exact ⟨u, rfl, k.1⟩
  | v :: r, u :: q, j + 1, s, k, h => by simpa using SWkL_get k.2 (by simpa using h)

theorem getE_spec : ∀ {lv : List Nat} {sl : List Slot} {i : Nat} {v : EV}, getE lv sl i = some v → ∃ j : Nat, lv[j]? = some i ∧ sl[j]? = some (.e v)
  | [], _, _, _, h => by simp [getE] at h
  | t :: r, [], _, _, h => by simp [getE] at h
  | t :: r, .e z :: q, i, v, h => by
    unfold getE at h
    cases hb : Nat.beq t i with
    | true => rw [hb] at h; simp at h; subst h; exact ⟨0, by rw [beq_eq hb]; rfl, rfl⟩
    | false => rw [hb] at h; obtain ⟨j, h1, h2⟩ := getE_spec (show getE r q i = some v from h); exact ⟨j + 1, by simpa using h1, by simpa using h2⟩
  | t :: r, .n z :: q, i, v, h => by
    obtain ⟨j, h1, h2⟩ := getE_spec (show getE r q i = some v from by simpa [getE] using h)
    exact ⟨j + 1, by simpa using h1, by simpa using h2⟩

theorem getN_spec : ∀ {hv : List Nat} {sl : List Slot} {i : Nat} {y : Ent}, getN hv sl i = some y → ∃ j : Nat, hv[j]? = some i ∧ sl[j]? = some (.n y)
  | [], _, _, _, h => by simp [getN] at h
  | t :: r, [], _, _, h => by simp [getN] at h
  | t :: r, .n z :: q, i, v, h => by
    unfold getN at h
    cases hb : Nat.beq t i with
    | true => rw [hb] at h; simp at h; subst h; exact ⟨0, by rw [beq_eq hb]; rfl, rfl⟩
    | false => rw [hb] at h; obtain ⟨j, h1, h2⟩ := getN_spec (show getN r q i = some v from h); exact ⟨j + 1, by simpa using h1, by simpa using h2⟩
  | t :: r, .e z :: q, i, v, h => by
    obtain ⟨j, h1, h2⟩ := getN_spec (show getN r q i = some v from by simpa [getN] using h)
    exact ⟨j + 1, by simpa using h1, by simpa using h2⟩

theorem getN_none : ∀ {hv : List Nat} {sl : List Slot} {i : Nat}, (∀ (j t : Nat), hv[j]? = some t → ∃ y, sl[j]? = some (.n y)) → getN hv sl i = none → i ∉ hv
  | [], _, _, _, _ => by simp
  | t :: r, [], i, h, _ => by obtain ⟨y, hy⟩ := h 0 t rfl; simp at hy
  | t :: r, .e z :: q, i, h, _ => by obtain ⟨y, hy⟩ := h 0 t rfl; simp at hy
  | t :: r, .n z :: q, i, h, k => by
    unfold getN at k
    cases hb : Nat.beq t i with
    | true => rw [hb] at k; simp at k
    | false =>
      rw [hb] at k
      have := getN_none (sl := q) (hv := r) (i := i) (fun j t' hj => by simpa using h (j + 1) t' (by simpa using hj)) k
      intro hm
      rcases List.mem_cons.1 hm with e | e
      · subst e; simp [Nat.beq_refl] at hb
      · exact this e

theorem laidIn_get (hv : List Nat) (sl : List Slot) : ∀ (n : Nat) (hp : List Ent) (i : Nat), (laidIn hv sl n hp)[i]? = (hp[i]?).map fun x => match getN hv sl (n + i) with | some y => y | none => x.lock
  | _, [], i => by simp [laidIn]
  | n, x :: r, 0 => by simp [laidIn]; rfl
  | n, x :: r, i + 1 => by
    simp only [laidIn, List.getElem?_cons_succ]
    rw [laidIn_get hv sl (n + 1) r i, show n + 1 + i = n + (i + 1) by omega]

theorem laidIn_length (hv : List Nat) (sl : List Slot) : ∀ (n : Nat) (hp : List Ent), (laidIn hv sl n hp).length = hp.length
  | _, [] => rfl
  | n, x :: r => by simp [laidIn, laidIn_length hv sl (n + 1) r]

theorem unlock_get : ∀ (A B : List Ent) (i : Nat), (unlock A B)[i]? = (B[i]?).map fun y => match A[i]? with | some x => cond (x.md.isOwn && y.md.isLock) (y.setMd .own) y | none => y
  | [], B, i => by cases B <;> simp [unlock]
  | x :: r, [], i => by simp [unlock]
  | x :: r, y :: q, 0 => by simp [unlock]
  | x :: r, y :: q, i + 1 => by
    simp only [unlock, List.getElem?_cons_succ]
    exact unlock_get r q i

theorem unlock_length : ∀ (A B : List Ent), (unlock A B).length = B.length
  | [], B => by cases B <;> simp [unlock]
  | x :: r, [] => by simp [unlock]
  | x :: r, y :: q => by simp [unlock, unlock_length r q]

theorem Ent.lock_eq (x : Ent) : ∃ md, x.lock = x.setMd md ∧ md ≠ .own ∧ (md = .froz ↔ x.md = .froz) := by
  unfold Ent.lock
  cases h : x.md with
  | own => exact ⟨.lock, rfl, (by intro q; cases q), ⟨(fun q => by cases q), (fun q => by cases q)⟩⟩
  | lock => exact ⟨.lock, by rw [← h, Ent.setMd_md, h]; rfl, (by intro q; cases q), ⟨(fun q => by cases q), (fun q => by cases q)⟩⟩
  | froz => exact ⟨.froz, by rw [← h, Ent.setMd_md, h]; rfl, (by intro q; cases q), ⟨fun _ => rfl, fun _ => rfl⟩⟩

theorem Ent.lock_of (x : Ent) (h : x.md ≠ .own) : x.lock = x := by
  unfold Ent.lock
  cases hm : x.md with
  | own => exact absurd hm h
  | lock => rfl
  | froz => rfl

theorem Ent.lock_ne (x : Ent) : x.lock.md ≠ .own := by
  obtain ⟨md, h1, h2, _⟩ := x.lock_eq
  rw [h1, Ent.md_setMd]; exact h2

theorem SatEnt_setMd {P : Program} {m : Mem} {n0 : Nat} {w : World} {JJ : EV → Value → Prop} {e : Ent} {k : Cn} {md : Md} (hmd : md = .froz ↔ e.md = .froz) (h : SatEnt P m n0 w JJ e k) : SatEnt P m n0 w JJ (e.setMd md) k := by
  cases e with
  | box o cs =>
    cases k with
    | row v => exact h.elim
    | box b =>
      obtain ⟨us, T, h1, h2, h3, h4, h5⟩ := h
      exact ⟨us, T, h1, h2, h3, fun q => h4 (hmd.1 q), fun q => h5 fun e => q (hmd.2 e)⟩
  | row o v el s xs =>
    cases k with
    | box b => exact h.elim
    | row cv =>
      obtain ⟨cs, h1, h2, h3, h4⟩ := h
      exact ⟨cs, h1, h2, fun q => h3 (hmd.1 q), fun q => h4 fun e => q (hmd.2 e)⟩
  | iter o s pos =>
    cases k with
    | row v => exact h.elim
    | box b =>
      obtain ⟨h1, h2, h3⟩ := h
      exact ⟨h1, h2, fun q => h3 fun e => q (hmd.2 e)⟩

section
variable {P : Program} {m : Mem}

theorem WkL_rep {JJ : EV → Value → Prop} : ∀ {l q : List EV} {us : List Value}, WkL l q → RepL P m q JJ us → RepL P m l JJ us
  | [], [], _, _, h => h
  | [], _ :: _, _, k, _ => k.elim
  | _ :: _, [], _, k, _ => k.elim
  | v :: r, u :: q, us, k, h => by
    obtain ⟨x, xs, e1, e2, e3⟩ := RepL_cons.1 h
    refine RepL_cons.2 ⟨x, xs, e1, ?_, WkL_rep k.2 e3⟩
    rcases k.1 with e | e
    · rw [e]; trivial
    · rw [e]; exact e2

mutual
theorem Rep_words {m0 : Mem} {J0 J1 J2 : EV → Value → Prop} (hJ : ∀ e u, (∃ u0, J0 e u0) → J1 e u → J2 e u) : ∀ (v : EV) {u0 u : Value}, Rep P m0 v J0 u0 → Rep P m v J1 u → Rep P m v J2 u
  | .bot, _, _, _, _ => trivial
  | .p _ _, _, _, _, k => k
  | .raw _, _, _, _, k => k
  | .nil _, _, _, _, k => k
  | .ip _ _, _, _, _, k => k
  | .box _ _, _, _, k0, k => hJ _ _ ⟨_, k0⟩ k
  | .rp _ _ _ _, _, _, k0, k => hJ _ _ ⟨_, k0⟩ k
  | .row _ _, _, _, k0, k => hJ _ _ ⟨_, k0⟩ k
  | .agg cs, _, _, k0, k => by
    obtain ⟨us0, _, e0⟩ := k0
    obtain ⟨us, e1, e2⟩ := k
    exact ⟨us, e1, RepL_words hJ cs e0 e2⟩
  | .tup cs, _, _, k0, k => by
    obtain ⟨us0, _, e0⟩ := k0
    obtain ⟨us, e1, e2⟩ := k
    exact ⟨us, e1, RepL_words hJ cs e0 e2⟩
  | .clo _ a b, _, _, k0, k => by
    obtain ⟨_, _, _, p1, p2⟩ := k0
    obtain ⟨xs, ys, e1, e2, e3⟩ := k
    exact ⟨xs, ys, e1, RepL_words hJ a p1 e2, RepL_words hJ b p2 e3⟩
  | .ifc _ v, _, _, k0, k => by
    obtain ⟨_, _, p1⟩ := k0
    obtain ⟨x, e1, e2⟩ := k
    exact ⟨x, e1, Rep_words hJ v p1 e2⟩
theorem RepL_words {m0 : Mem} {J0 J1 J2 : EV → Value → Prop} (hJ : ∀ e u, (∃ u0, J0 e u0) → J1 e u → J2 e u) : ∀ (cs : List EV) {us0 us : List Value}, RepL P m0 cs J0 us0 → RepL P m cs J1 us → RepL P m cs J2 us
  | [], _, _, _, k => RepL_nil.2 (RepL_nil.1 k)
  | c :: r, _, _, k0, k => by
    obtain ⟨_, _, _, p1, p2⟩ := RepL_cons.1 k0
    obtain ⟨u, us', e1, e2, e3⟩ := RepL_cons.1 k
    exact RepL_cons.2 ⟨u, us', e1, Rep_words hJ c p1 e2, RepL_words hJ r p2 e3⟩
end
end
end Go.Proofs.YtgeefhjlfdidmaaGreatDoor.V


/- Loops: the state at a round's head is as the condition says. No condition of its own. -/
namespace Go.Proofs.YtgeefhjlfdidmaaGreatDoor.V
open Go Go.RowKit
set_option linter.unusedVariables false
set_option linter.unusedSimpArgs false

/-- What a loop's rounds leave alone. -/
noncomputable def loopFx (fx : Fx) (hv W' : List Nat) (bk : List Cn) (st : St) (a : Act) : Fx :=
  { W := W', tmps := a.tmps, fe := fun i => cond (hv.contains i) none (match st.hp[i]?, bk[i]? with
      | some e, some k => some (e.lock, k)
      | _, _ => none), gh := J st.hp bk, n0 := fx.n0, keep := fx.keep, dfr := fx.dfr }

/-- What is so of the parts of a round's head. -/
def HeadN (lv hv : List Nat) (sl : List Slot) : Prop := ∀ (j i : Nat), hv[j]? = some i → ∃ y, sl[lv.length + j]? = some (.n y) ∧ y.md = .own

section
variable {c : Cfg} {m0 : Mem} {w0 : World} {fx fx' : Fx} {m m1 m' : Mem} {bk bk' : List Cn} {st st' : St} {a a' : Act} {w w' : World}

theorem ownAll_spec {hp : List Ent} {hv : List Nat} (h : ownAll hp hv = true) {i : Nat} (hi : i ∈ hv) : ∃ x, hp[i]? = some x ∧ x.md = .own := by
  have := List.all_eq_true.1 h i hi
  split at this
  · rename_i x hx
    refine ⟨x, hx, ?_⟩
    cases hm : x.md with
    | own => rfl
    | lock => rw [hm] at this; cases this
    | froz => rw [hm] at this; cases this
  · cases this

theorem headN_mk {lv hv : List Nat} {hp0 : List Ent} {ap : List Nat} (ho : ownAll st.hp hv = true) (x : (shL (slotsOf hp0 ap st lv hv)).Val) : HeadN lv hv (mkL (slotsOf hp0 ap st lv hv) x) := by
  intro j i hj
  obtain ⟨e, he, hmd⟩ := ownAll_spec ho (List.mem_of_getElem? hj)
  have hs : (slotsOf hp0 ap st lv hv)[lv.length + j]? = some (.n (nrmN hp0 st.hp ap i e)) := by
    unfold slotsOf
    rw [List.getElem?_append_right (by simp)]
    simp [hj, he]
  obtain ⟨y, hy⟩ := mkL_get _ x hs
  cases e with
  | box o cs => exact ⟨_, hy, hmd⟩
  | row o v el s xs => exact ⟨_, hy, hmd⟩
  | iter o s p => exact ⟨_, hy, hmd⟩

theorem slots_own {lv hv : List Nat} {hp0 : List Ent} {ap : List Nat} (ho : ownAll st.hp hv = true) : ∀ s ∈ slotsOf hp0 ap st lv hv, s.ownN := by
  intro s hs
  unfold slotsOf at hs
  rcases List.mem_append.1 hs with h | h
  · obtain ⟨t, _, rfl⟩ := List.mem_map.1 h; trivial
  · obtain ⟨i, hi, rfl⟩ := List.mem_map.1 h
    obtain ⟨e, he, hmd⟩ := ownAll_spec ho hi
    rw [he]
    cases e <;> exact hmd

theorem headOf_get {lv hv W' : List Nat} {sl : List Slot} (i : Nat) : (headOf st lv hv W' sl).hp[i]? = (st.hp[i]?).map fun x => match getN hv (sl.drop lv.length) i with | some y => y | none => x.lock := by
  have := laidIn_get hv (sl.drop lv.length) 0 st.hp i
  rwa [Nat.zero_add] at this

theorem not_blt {a b : Nat} (h : a < b) : Nat.blt a b = true := Nat.ble_eq_true_of_le h

/-- THE HEAD: the state behind a round, or ahead of the loop, as that at a round's head. -/
theorem head_sat {lv hv W' : List Nat} {sl : List Slot} (S : Sat c m0 w0 fx m bk st a w) (S' : Sat c m1 w0 fx' m' bk' st' a' w') (hn0 : fx'.n0 = fx.n0) (hkp : fx'.keep = fx.keep) (hdf : fx'.dfr = fx.dfr) (hext : Mem.ext fx.n0 m m')
    (hW : ∀ d ∈ W', d < a.tmps.size) (hsz : a'.tmps.size = a.tmps.size) (htm : ∀ i, i ∉ W' → a'.tmps[i]? = a.tmps[i]?) (hgh : ∀ e u, J st.hp bk e u → J st'.hp bk' e u)
    (hfe : ∀ (i : Nat) e, i ∉ hv → st.hp[i]? = some e → (st'.hp[i]? = some e ∨ st'.hp[i]? = some e.lock) ∧ bk'[i]? = bk[i]?)
    (ho : ownAll st.hp hv = true) (hN : HeadN lv hv sl) (hsl : SWkL sl (slotsOf st.hp (apOf st lv hv) st' lv hv)) :
    Sat c m w0 (loopFx fx hv W' bk st a) m' (bk'.take st.hp.length) (headOf st lv hv W' sl) a' w' := by
  have hap : ∀ i, (apOf st lv hv).contains i = true → i ∈ hv := by
    intro i hi
    have := List.contains_iff_mem.1 hi
    unfold apOf at this
    have := (List.mem_filter.1 this).2
    simpa using this
  have hnap : ∀ i, i ∉ hv → (apOf st lv hv).contains i = false := by
    intro i hi
    cases hc : (apOf st lv hv).contains i with
    | false => rfl
    | true => exact absurd (hap i hc) hi
  have hlt : ∀ {i : Nat} {e : Ent}, st.hp[i]? = some e → i < st.hp.length := fun h => (List.getElem?_eq_some_iff.1 h).1
  have hbk : ∀ {i : Nat}, i < st.hp.length → (bk'.take st.hp.length)[i]? = bk'[i]? := fun h => by rw [List.getElem?_take]; simp [h]
  have hnone : ∀ {i : Nat}, getN hv (sl.drop lv.length) i = none → i ∉ hv := fun h => getN_none (fun j t hj => by
    obtain ⟨y, hy, _⟩ := hN j t hj
    exact ⟨y, by rw [List.getElem?_drop]; exact hy⟩) h
  -- blocks that do not vary
  have factA : ∀ {i : Nat} {e : Ent}, st.hp[i]? = some e → i ∉ hv → (headOf st lv hv W' sl).hp[i]? = some e.lock := by
    intro i e he hi
    rw [headOf_get, he]
    cases hg : getN hv (sl.drop lv.length) i with
    | none => rfl
    | some y => obtain ⟨j, h1, _⟩ := getN_spec hg; exact absurd (List.mem_of_getElem? h1) hi
  -- blocks that vary
  have factB : ∀ {i : Nat}, i ∈ hv → i < st.hp.length ∧ ∃ y x, (headOf st lv hv W' sl).hp[i]? = some y ∧ y.md = .own ∧ st'.hp[i]? = some x ∧ SWk (.n y) (.n (nrmN st.hp st'.hp (apOf st lv hv) i x)) := by
    intro i hi
    obtain ⟨e, he, _⟩ := ownAll_spec ho hi
    refine ⟨hlt he, ?_⟩
    cases hg : getN hv (sl.drop lv.length) i with
    | none => exact absurd hi (hnone hg)
    | some y =>
      obtain ⟨j, h1, h2⟩ := getN_spec hg
      rw [List.getElem?_drop] at h2
      obtain ⟨y', h3, h4⟩ := hN j i h1
      rw [h2] at h3
      cases h3
      obtain ⟨u, h5, h6⟩ := SWkL_get hsl h2
      unfold slotsOf at h5
      rw [List.getElem?_append_right (by simp)] at h5
      simp only [List.length_map, Nat.add_sub_cancel_left, List.getElem?_map, h1, Option.map_some, Option.some.injEq] at h5
      subst h5
      cases hx : st'.hp[i]? with
      | none =>
        rw [hx] at h6
        cases y with
        | box _ _ => obtain ⟨ds, q, _⟩ := h6; cases q
        | row _ _ _ _ _ => cases h6
        | iter _ _ _ => cases h6
      | some x =>
        rw [hx] at h6
        exact ⟨y, x, by rw [headOf_get, he, hg]; rfl, h4, rfl, h6⟩
  -- words behind the round, as words at the head
  have hJN : ∀ e u, (match e with
      | .box id off => id < st.hp.length ∧ J st'.hp bk' (.box id off) u
      | .row id ver => id < st.hp.length ∧ ∃ md v el s xs, st'.hp[id]? = some (.row md v el s xs) ∧ bk'[id]? = some (.row u) ∧ ver = nrmV st.hp (apOf st lv hv) id v
      | _ => False) → J (headOf st lv hv W' sl).hp (bk'.take st.hp.length) e u := by
    intro e u h
    cases e <;> try exact False.elim h
    case box id off =>
      obtain ⟨hid, e, b, h1, hbx, h2, h3⟩ := h
      by_cases hi : id ∈ hv
      · obtain ⟨_, y, x, q1, q2, q3, q4⟩ := factB hi
        rw [h1] at q3; cases q3
        cases y with
        | row _ _ _ _ _ =>
          cases e with
          | box _ _ => cases q4
          | row _ _ _ _ _ => cases hbx
          | iter _ _ _ => cases q4
        | box md2 cs2 => exact ⟨_, b, q1, rfl, by rw [hbk hid]; exact h2, h3⟩
        | iter md2 s2 p2 => exact ⟨_, b, q1, rfl, by rw [hbk hid]; exact h2, h3⟩
      · have he := List.getElem?_eq_getElem hid
        have q1 := factA he hi
        obtain ⟨q2, q3⟩ := hfe _ _ hi he
        obtain ⟨md2, l1, _, _⟩ := (st.hp[id]).lock_eq
        have : (st.hp[id]).lock.bx = true := by
          rcases q2 with q | q
          · rw [l1, Ent.bx_setMd, ← Option.some.inj (h1.symm.trans q)]; exact hbx
          · rw [← Option.some.inj (h1.symm.trans q)]; exact hbx
        exact ⟨_, b, q1, this, by rw [hbk hid]; exact h2, h3⟩
    case row id ver =>
      obtain ⟨hid, md, v, el, s, xs, h1, h2, h3⟩ := h
      by_cases hi : id ∈ hv
      · obtain ⟨_, y, x, q1, q2, q3, q4⟩ := factB hi
        rw [h1] at q3; cases q3
        cases y with
        | box _ _ => obtain ⟨ds, q, _⟩ := q4; cases q
        | iter _ _ _ => cases q4
        | row md2 v2 el2 s2 xs2 =>
          cases q4
          exact ⟨_, _, _, _, _, u, q1, by rw [hbk hid]; exact h2, by rw [h3]; exact Nat.le_refl _, fun _ => rfl⟩
      · have he := List.getElem?_eq_getElem hid
        have q1 := factA he hi
        obtain ⟨q2, q3⟩ := hfe _ _ hi he
        obtain ⟨md2, l1, _, _⟩ := (st.hp[id]).lock_eq
        have hv' : nrmV st.hp (apOf st lv hv) id v = v := by unfold nrmV; rw [hnap id hi]; rfl
        have : ∃ md3, (st.hp[id]).lock = .row md3 v el s xs := by
          rcases q2 with q | q
          · have e := Option.some.inj (h1.symm.trans q)
            exact ⟨md2, by rw [l1, ← e]; rfl⟩
          · exact ⟨md, (Option.some.inj (h1.symm.trans q)).symm⟩
        obtain ⟨md3, h4⟩ := this
        exact ⟨md3, v, el, s, xs, u, by rw [q1, h4], by rw [hbk hid]; exact h2, by rw [h3, hv']; exact Nat.le_refl _, fun _ => rfl⟩
  -- the loop's own words
  have hW0 : ∀ e u, (∃ u0, J st.hp bk e u0) → J st'.hp bk' e u → J (headOf st lv hv W' sl).hp (bk'.take st.hp.length) e u := by
    intro e u ⟨u0, h0⟩ h
    cases e <;> try exact False.elim h
    case box id off =>
      obtain ⟨_, b, h1, _⟩ := h0
      exact hJN (.box id off) u ⟨hlt h1, h⟩
    case row id ver =>
      obtain ⟨md0, v0, el0, s0, xs0, cv0, p1, p2, p3, _⟩ := h0
      obtain ⟨md, v, el, s, xs, cv, h1, h2, h3, h4⟩ := h
      by_cases hi : id ∈ hv
      · obtain ⟨_, y, x, q1, q2, q3, q4⟩ := factB hi
        rw [h1] at q3; cases q3
        cases y with
        | box _ _ => obtain ⟨ds, q, _⟩ := q4; cases q
        | iter _ _ _ => cases q4
        | row md2 v2 el2 s2 xs2 =>
          cases q4
          cases hc : (apOf st lv hv).contains id with
          | true =>
            have hv' : nrmV st.hp (apOf st lv hv) id v = v0 + 1 := by unfold nrmV; rw [hc, p1]; rfl
            exact ⟨_, _, _, _, _, cv, q1, by rw [hbk (hlt p1)]; exact h2, by rw [hv']; omega, fun q => by rw [hv'] at q; omega⟩
          | false =>
            have hv' : nrmV st.hp (apOf st lv hv) id v = v := by unfold nrmV; rw [hc]; rfl
            exact ⟨_, _, _, _, _, cv, q1, by rw [hbk (hlt p1)]; exact h2, by rw [hv']; exact h3, fun q => h4 (by rw [hv'] at q; exact q)⟩
      · have q1 := factA p1 hi
        obtain ⟨q2, q3⟩ := hfe _ _ hi p1
        have hvv : v = v0 := by
          rcases q2 with q | q
          · rw [h1] at q; cases q; rfl
          · rw [h1] at q
            obtain ⟨md2, l1, _, _⟩ := (Ent.row md0 v0 el0 s0 xs0).lock_eq
            rw [l1] at q; cases q; rfl
        obtain ⟨md2, l1, _, _⟩ := (Ent.row md0 v0 el0 s0 xs0).lock_eq
        exact ⟨md2, v0, el0, s0, xs0, cv, by rw [q1, l1]; rfl, by rw [hbk (hlt p1)]; exact h2, p3, fun q => h4 (by rw [hvv]; exact q)⟩
    case rp id ver kk off =>
      obtain ⟨md0, v0, el0, s0, xs0, cv0, p1, p2, p3, _⟩ := h0
      obtain ⟨md, v, el, s, xs, cv, h1, h2, h3, h4⟩ := h
      by_cases hi : id ∈ hv
      · obtain ⟨_, y, x, q1, q2, q3, q4⟩ := factB hi
        rw [h1] at q3; cases q3
        cases y with
        | box _ _ => obtain ⟨ds, q, _⟩ := q4; cases q
        | iter _ _ _ => cases q4
        | row md2 v2 el2 s2 xs2 =>
          cases q4
          cases hc : (apOf st lv hv).contains id with
          | true =>
            have hv' : nrmV st.hp (apOf st lv hv) id v = v0 + 1 := by unfold nrmV; rw [hc, p1]; rfl
            exact ⟨_, _, _, _, _, cv, q1, by rw [hbk (hlt p1)]; exact h2, by rw [hv']; omega, fun q => by rw [hv'] at q; omega⟩
          | false =>
            have hv' : nrmV st.hp (apOf st lv hv) id v = v := by unfold nrmV; rw [hc]; rfl
            exact ⟨_, _, _, _, _, cv, q1, by rw [hbk (hlt p1)]; exact h2, by rw [hv']; exact h3, fun q => h4 (by rw [hv'] at q; exact q)⟩
      · have q1 := factA p1 hi
        obtain ⟨q2, q3⟩ := hfe _ _ hi p1
        obtain ⟨md2, l1, _, _⟩ := (Ent.row md0 v0 el0 s0 xs0).lock_eq
        rcases q2 with q | q
        · rw [h1] at q; cases q
          exact ⟨md2, _, _, _, _, cv, by rw [q1, l1]; rfl, by rw [hbk (hlt p1)]; exact h2, h3, h4⟩
        · rw [h1] at q
          rw [l1] at q; cases q
          exact ⟨_, _, _, _, _, cv, by rw [q1, l1]; rfl, by rw [hbk (hlt p1)]; exact h2, h3, h4⟩
  -- what was found behind the round, as it is known at the head
  have hnrm : ∀ {v : EV} {u : Value}, Rep c.P m' v (J st'.hp bk') u → Rep c.P m' (nrmE st.hp st'.hp (apOf st lv hv) v) (J (headOf st lv hv W' sl).hp (bk'.take st.hp.length)) u := by
    intro v u h
    refine sub_rep (F := fun _ => True) (Mem.le_refl m') (fun id ver u _ hJ => ?_) (fun id off u _ hJ => ?_) v h (fun _ _ => trivial)
    · obtain ⟨md, vv, e, s, xs, cv, h1, h2, h3, h4⟩ := hJ
      cases hl : Nat.blt id st.hp.length with
      | false => simp only [cond_false]; trivial
      | true =>
        simp only [cond_true, h1]
        cases hb : Nat.beq vv ver with
        | false => simp only [cond_false]; trivial
        | true =>
          simp only [cond_true]
          have hvv := beq_eq hb
          have hu := h4 hvv.symm
          subst hu
          exact hJN (.row id _) u ⟨Nat.le_of_ble_eq_true hl, md, vv, e, s, xs, h1, h2, by rw [hvv]⟩
    · cases hl : Nat.blt id st.hp.length with
      | false => simp only [cond_false]; trivial
      | true =>
        simp only [cond_true]
        exact hJN (.box id off) u ⟨Nat.le_of_ble_eq_true hl, hJ⟩
  have hnrmL : ∀ {vs : List EV} {us : List Value}, RepL c.P m' vs (J st'.hp bk') us → RepL c.P m' (vs.map (nrmE st.hp st'.hp (apOf st lv hv))) (J (headOf st lv hv W' sl).hp (bk'.take st.hp.length)) us := by
    intro vs
    induction vs with
    | nil => intro us h; exact RepL_nil.2 (RepL_nil.1 h)
    | cons v r ih =>
      intro us h
      obtain ⟨u, us', e1, e2, e3⟩ := RepL_cons.1 h
      exact RepL_cons.2 ⟨u, us', e1, hnrm e2, ih e3⟩
  have hold : ∀ e u, J st.hp bk e u → J (headOf st lv hv W' sl).hp (bk'.take st.hp.length) e u := fun e u h => hW0 e u ⟨u, h⟩ (hgh e u h)
  have hex : ∀ i, i < st.hp.length → ∃ x, st'.hp[i]? = some x := by
    intro i hi
    by_cases h : i ∈ hv
    · obtain ⟨_, y, x, _, _, q, _⟩ := factB h; exact ⟨x, q⟩
    · rcases (hfe _ _ h (List.getElem?_eq_getElem hi)).1 with q | q <;> exact ⟨_, q⟩
  have hle : st.hp.length ≤ bk'.length := by
    rw [S'.len]
    rcases Nat.eq_zero_or_pos st.hp.length with q | q
    · omega
    · obtain ⟨x, hx⟩ := hex (st.hp.length - 1) (by omega)
      have := (List.getElem?_eq_some_iff.1 hx).1
      omega
  have hdl : (headOf st lv hv W' sl).hp.length = st.hp.length := laidIn_length _ _ _ _
  refine { hold := S'.hold, tab := S'.tab, ext := hext, below := by show Below fx.n0 w0 w'; rw [← hn0]; exact S'.below, base := S.base, keep := fun b hb => (by
    have k := S'.keep b (by rw [hkp]; exact hb)
    refine ⟨k.1, k.2.1, fun i hi => k.2.2 i ?_⟩
    rw [List.getElem?_take] at hi
    split at hi
    · exact hi
    · cases hi), len := by rw [hdl, List.length_take]; omega, ents := fun i e he => ?_, apart := fun i j b hi hj => ?_, env := fun i => ?_, defers := S'.defers.trans hdf, fix := ⟨hsz, htm, hW, fun i e k hk => ?_⟩, gh := hold }
  · have hi : i < st.hp.length := by rw [← hdl]; exact (List.getElem?_eq_some_iff.1 he).1
    by_cases h : i ∈ hv
    · obtain ⟨_, y, x, q1, q2, q3, q4⟩ := factB h
      rw [q1] at he; cases he
      obtain ⟨k, hk, hs⟩ := S'.ents i x q3
      rw [hn0] at hs
      refine ⟨k, by rw [hbk hi]; exact hk, ?_⟩
      cases x with
      | box md cs =>
        cases k with
        | row v => exact hs.elim
        | box b =>
          obtain ⟨us, T, h1, h2, h3, h4, h5⟩ := hs
          cases e with
          | row _ _ _ _ _ => cases q4
          | iter _ _ _ => cases q4
          | box md2 cs2 =>
            obtain ⟨ds, d1, d2⟩ := q4
            cases d1
            obtain rfl : md2 = .own := q2
            exact ⟨us, T, h1, WkL_rep d2 (hnrmL h2), h3, (fun q => by cases q), fun _ => h5 (fun q => by cases q)⟩
      | row md v el s xs =>
        cases k with
        | box b => exact hs.elim
        | row cv =>
          obtain ⟨cs, h1, h2, h3, h4⟩ := hs
          cases e with
          | box _ _ => obtain ⟨ds, q, _⟩ := q4; cases q
          | iter _ _ _ => cases q4
          | row md2 v2 el2 s2 xs2 =>
            cases q4
            obtain rfl : md2 = .own := q2
            exact ⟨cs, h1, h2, h3, h4⟩
      | iter md s pos =>
        cases k with
        | row v => exact hs.elim
        | box b =>
          obtain ⟨h1, h2, h3⟩ := hs
          cases e with
          | box _ _ => obtain ⟨ds, q, _⟩ := q4; cases q
          | row _ _ _ _ _ => cases q4
          | iter md2 s2 p2 =>
            cases q4
            obtain rfl : md2 = .own := q2
            exact ⟨h1, h2, h3⟩
    · have he0 := List.getElem?_eq_getElem hi
      rw [factA he0 h] at he; cases he
      obtain ⟨q2, q3⟩ := hfe _ _ h he0
      obtain ⟨k0, hk0, hs0⟩ := S.ents i _ he0
      obtain ⟨md2, l1, l2, l3⟩ := (st.hp[i]).lock_eq
      have main : ∀ x, st'.hp[i]? = some x → (∃ md, x = (st.hp[i]).setMd md ∧ (md = .froz ↔ (st.hp[i]).md = .froz)) → ∃ k, (bk'.take st.hp.length)[i]? = some k ∧ SatEnt c.P m' fx.n0 w' (J (headOf st lv hv W' sl).hp (bk'.take st.hp.length)) (st.hp[i]).lock k := by
        intro x hx ⟨md, hmd, hf⟩
        obtain ⟨k, hk, hs⟩ := S'.ents i x hx
        rw [hn0] at hs
        refine ⟨k, by rw [hbk hi]; exact hk, ?_⟩
        rw [l1]
        subst hmd
        have := SatEnt_setMd (md := md2) (by rw [Ent.md_setMd, l3, hf]) hs
        rw [Ent.setMd_setMd] at this
        have hkk : k0 = k := by rw [hk0, hk] at q3; exact (Option.some.inj q3).symm
        rw [hkk] at hs0
        generalize st.hp[i] = x0 at this hs0
        cases x0 with
        | box md cs =>
          cases k with
          | row v => exact this.elim
          | box b =>
            obtain ⟨us, T, h1, h2, h3, h4, h5⟩ := this
            obtain ⟨us0, _, _, h20, _⟩ := hs0
            exact ⟨us, T, h1, RepL_words hW0 cs h20 h2, h3, h4, h5⟩
        | row md v el s xs =>
          cases k with
          | box b => exact this.elim
          | row cv => exact this
        | iter md s pos =>
          cases k with
          | row v => exact this.elim
          | box b => exact this
      rcases q2 with q | q
      · exact main _ q ⟨(st.hp[i]).md, (Ent.setMd_md _).symm, Iff.rfl⟩
      · exact main _ q ⟨md2, l1, l3⟩
  · have g : ∀ {i b : Nat}, ((bk'.take st.hp.length)[i]?).bind Cn.blk = some b → (bk'[i]?).bind Cn.blk = some b := fun {i b} h => by
      rw [List.getElem?_take] at h
      split at h
      · exact h
      · cases h
    exact S'.apart i j b (g hi) (g hj)
  · show Rep c.P m' (match getE lv sl i with | some v => v | none => cond (W'.contains i) .bot (st.env i)) _ _
    cases hg : getE lv sl i with
    | some v =>
      obtain ⟨j, h1, h2⟩ := getE_spec hg
      obtain ⟨u, h3, h4⟩ := SWkL_get hsl h2
      unfold slotsOf at h3
      have hj : j < lv.length := (List.getElem?_eq_some_iff.1 h1).1
      rw [List.getElem?_append_left (by simpa using hj)] at h3
      simp only [List.getElem?_map, h1, Option.map_some, Option.some.injEq] at h3
      subst h3
      have hn := hnrm (S'.env i)
      rcases h4 with q | q | ⟨cs, ds, q1, q2, q3⟩
      · rw [q]; trivial
      · cases q; exact hn
      · rw [q1]
        have q2 : nrmE st.hp st'.hp (apOf st lv hv) (st'.env i) = .agg ds := by injection q2
        rw [q2] at hn
        obtain ⟨us, e1, e2⟩ := hn
        exact ⟨us, e1, WkL_rep q3 e2⟩
    | none =>
      cases hc : W'.contains i with
      | true => trivial
      | false =>
        have hi : i ∉ W' := fun h => by rw [List.contains_iff_mem.2 h] at hc; cases hc
        show Rep c.P m' (st.env i) _ (a'.tmps.getD i undef)
        have : a'.tmps.getD i undef = a.tmps.getD i undef := by
          simp only [Array.getD_eq_getD_getElem?, htm i hi]
        rw [this]
        exact Rep_mono hext.1 _ hold (S.env i)
  · unfold loopFx at hk
    dsimp only at hk
    cases hc : hv.contains i with
    | true => rw [hc] at hk; cases hk
    | false =>
      rw [hc] at hk
      simp only [cond_false] at hk
      have hi : i ∉ hv := fun h => by rw [List.contains_iff_mem.2 h] at hc; cases hc
      split at hk
      · rename_i e0 k0 he hk0
        cases hk
        exact ⟨e0.lock_ne, factA he hi, by rw [hbk (hlt he), (hfe _ _ hi he).2]; exact hk0⟩
      · cases hk

/-- Behind a loop. -/
theorem exit_sat {hv W' : List Nat} (S : Sat c m0 w0 fx m bk st a w) (hW : ∀ d ∈ W', d ∈ fx.W) (ho : ownAll st.hp hv = true) (S' : Sat c m w0 (loopFx fx hv W' bk st a) m' bk' st' a' w') :
    Sat c m0 w0 fx m' bk' { st' with hp := unlock st.hp st'.hp } a' w' := by
  have hal : Alike st'.hp (unlock st.hp st'.hp) := by
    refine ⟨unlock_length _ _, fun i x hx => ?_⟩
    rw [unlock_get, hx]
    simp only [Option.map_some]
    split
    · rename_i y hy
      cases hb : y.md.isOwn && x.md.isLock with
      | true => exact ⟨.own, rfl⟩
      | false => exact ⟨x.md, by rw [Ent.setMd_md]; rfl⟩
    · exact ⟨x.md, by rw [Ent.setMd_md]⟩
  have hJ : ∀ e u, J st'.hp bk' e u → J (unlock st.hp st'.hp) bk' e u := fun e u => J_alike hal
  refine { hold := S'.hold, tab := S'.tab, ext := Mem.ext_trans S.ext S'.ext, below := S'.below, base := S.base, keep := S'.keep, len := by rw [S'.len]; exact (unlock_length _ _).symm, ents := fun i e he => ?_, apart := S'.apart, env := fun i => Rep_mono (Mem.le_refl _) _ hJ (S'.env i), defers := S'.defers, fix := ⟨S'.fix.1.trans S.fix.1, fun i hi => (S'.fix.2.1 i (fun h => hi (hW i h))).trans (S.fix.2.1 i hi), S.fix.2.2.1, fun i e k hk => ?_⟩, gh := fun e u h => hJ e u (S'.gh e u (S.gh e u h)) }
  · dsimp only at he
    rw [unlock_get] at he
    cases hx : st'.hp[i]? with
    | none => rw [hx] at he; cases he
    | some x =>
      rw [hx] at he
      simp only [Option.map_some, Option.some.injEq] at he
      obtain ⟨k, hk, hs⟩ := S'.ents i x hx
      have hs' := hs.mono (Mem.le_refl m') hJ (fun b _ => rfl) (fun _ _ _ h => h)
      refine ⟨k, hk, ?_⟩
      subst he
      split
      · rename_i y hy
        cases hb : y.md.isOwn && x.md.isLock with
        | true =>
          simp only [Bool.and_eq_true] at hb
          refine SatEnt_setMd ⟨(fun q => by cases q), (fun q => ?_)⟩ hs'
          rw [q] at hb; cases hb.2
        | false => exact hs'
      · exact hs'
  · obtain ⟨q1, q2, q3⟩ := S.fix.2.2.2 i e k hk
    have hi : i ∉ hv := fun h => by
      obtain ⟨x, hx, hm⟩ := ownAll_spec ho h
      rw [q2] at hx; cases hx
      exact q1 hm
    have hc : hv.contains i = false := by
      cases h : hv.contains i with
      | false => rfl
      | true => exact absurd (List.contains_iff_mem.1 h) hi
    obtain ⟨p1, p2, p3⟩ := S'.fix.2.2.2 i e.lock k (by unfold loopFx; dsimp only; rw [hc, q2, q3]; rfl)
    refine ⟨q1, ?_, p3⟩
    dsimp only
    rw [Ent.lock_of e q1] at p2
    rw [unlock_get, p2, q2]
    have : e.md.isOwn = false := by
      cases hm : e.md with
      | own => exact absurd hm q1
      | lock => rfl
      | froz => rfl
    simp only [Option.map_some, this, Bool.false_and, cond_false]
end
end Go.Proofs.YtgeefhjlfdidmaaGreatDoor.V


/- CODE: what the condition says of it, it does. No condition of its own. -/
namespace Go.Proofs.YtgeefhjlfdidmaaGreatDoor.V
open Go Go.RowKit
set_option linter.unusedVariables false
set_option linter.unusedSimpArgs false

open Classical in
/-- A loop, by a number that grows less. -/
theorem wp_loop_n {P : Program} {Q : Exit → Act → World → Prop} {c : Code} (R : Nat → Act → World → Prop) (round : ∀ n a w, R n a w → c.wp P (Exit.then (fun a' w' => ∃ n', n' < n ∧ R n' a' w') Q) a w)
    {n : Nat} {a : Act} {w : World} (h : R n a w) : (Code.loop c).wp P Q a w := by
  have key : ∀ n a w, R n a w → ∀ (b : Frame) (k : List Item) (cs : List Frame), ∃ e a' w', Q e a' w' ∧ Arrives P (lone (b.at a (.code c :: .inLoop c :: k)) cs w) b k cs e a' w' := by
    intro n
    induction n using Nat.strongRecOn with
    | _ n ih =>
      intro a w hR b k cs
      obtain ⟨e, a₁, w₁, hq, harr⟩ := round n a w hR b (.inLoop c :: k) cs
      cases e with
      | normal =>
        obtain ⟨n', hlt, hR'⟩ := hq
        obtain ⟨e₂, a₂, w₂, hq₂, harr₂⟩ := ih n' hlt a₁ w₁ hR' b k cs
        exact ⟨e₂, a₂, w₂, hq₂, .of_steps (Steps.trans harr (.one step_inLoop)) harr₂⟩
      | exit id => exact ⟨_, a₁, w₁, hq, .pass (x := .inLoop c) rfl (fun _ _ => .inl (by simp)) harr⟩
      | goto l => exact ⟨_, a₁, w₁, hq, .pass (x := .inLoop c) rfl (fun _ _ => .inl (by simp)) harr⟩
      | ret => exact ⟨_, a₁, w₁, hq, .pass (x := .inLoop c) rfl (fun _ _ => .inl (by simp)) harr⟩
      | panic ch => exact ⟨_, a₁, w₁, hq, .pass (x := .inLoop c) rfl (fun _ _ => .inl (by simp)) harr⟩
      | outgrown => exact ⟨_, a₁, w₁, hq, .pass (x := .inLoop c) rfl (fun _ _ => .inl (by simp)) harr⟩
  intro b k cs
  obtain ⟨e, a', w', hq, harr⟩ := key n a w h b k cs
  exact ⟨e, a', w', hq, .of_steps (.one step_loop) harr⟩

section
variable {c : Cfg} {w0 : World}

theorem Reach.mono {m0 : Mem} {fx : Fx} {K K' : St → Prop} {a : Act} {w : World} (h : ∀ st, K st → K' st) : Reach c m0 w0 fx K a w → Reach c m0 w0 fx K' a w
  | ⟨st, m, bk, k, S⟩ => ⟨st, m, bk, h st k, S⟩

theorem loop_sound {b : Code} {m0 : Mem} {fx : Fx} {m : Mem} {bk : List Cn} {st : St} {a : Act} {w : World} {lv hv : List Nat} {K : Ex → St → Prop}
    (ih : ∀ {m0 : Mem} {fx : Fx} {m : Mem} {bk : List Cn} {st : St} {a : Act} {w : World} {K : Ex → St → Prop}, Sat c m0 w0 fx m bk st a w → c.vc b fx.W st K → b.wp c.P (Post c m0 w0 fx K) a w)
    (S : Sat c m0 w0 fx m bk st a w) (hW : ∀ d ∈ b.dsts', d ∈ fx.W) (ho : ownAll st.hp hv = true) (k : Cfg.loopV lv hv b.dsts' st (fun st' back => c.vc b b.dsts' st' back) K) : (Code.loop b).wp c.P (Post c m0 w0 fx K) a w := by
  obtain ⟨n, k⟩ := k
  have hWa : ∀ d ∈ b.dsts', d < a.tmps.size := fun d hd => by rw [S.fix.1]; exact S.fix.2.2.1 d (hW d hd)
  have rd : ∀ {st2 : St} {x : (shL (slotsOf st.hp (apOf st lv hv) st lv hv)).Val}, HeadN lv hv (mkL (slotsOf st.hp (apOf st lv hv) st lv hv) x) := headN_mk ho _
  refine wp_loop_n (fun n a' w' => ∃ x m' bk', loopN (fun x back => c.vc b b.dsts' (headOf st lv hv b.dsts' (mkL (slotsOf st.hp (apOf st lv hv) st lv hv) x)) fun e st' => match e with
      | .normal => matL (slotsOf st.hp (apOf st lv hv) st lv hv) (slotsOf st.hp (apOf st lv hv) st' lv hv) back
      | .ret => K .ret { st' with hp := unlock st.hp st'.hp }
      | .exit id => K (.exit id) { st' with hp := unlock st.hp st'.hp }) n x ∧
      Sat c m w0 (loopFx fx hv b.dsts' bk st a) m' bk' (headOf st lv hv b.dsts' (mkL (slotsOf st.hp (apOf st lv hv) st lv hv) x)) a' w') ?_ (n := n) ⟨_, m, _, k, head_sat S S rfl rfl rfl (Mem.ext_refl _ m) hWa rfl (fun _ _ => rfl) (fun _ _ h => h) (fun i e _ he => ⟨.inl he, rfl⟩) ho (rd (st2 := st)) (mkL_self _ (slots_own ho))⟩
  intro n a' w' ⟨x, m', bk', hl, S1⟩
  cases n with
  | zero => exact hl.elim
  | succ n =>
    refine wp_mono (ih S1 hl) fun e a2 w2 h => ?_
    cases e with
    | normal =>
      obtain ⟨st2, m2, bk2, k2, S2⟩ := h
      obtain ⟨y, hy, hs⟩ := matL_spec _ _ k2
      refine ⟨n, Nat.lt_succ_self n, y, m2, _, hy, head_sat S S2 rfl rfl rfl S2.ext hWa S2.fix.1 S2.fix.2.1 S2.gh (fun i e hi he => ?_) ho (rd (st2 := st2)) hs⟩
      obtain ⟨k0, hk0, _⟩ := S.ents i e he
      have hc : hv.contains i = false := by
        cases h : hv.contains i with
        | false => rfl
        | true => exact absurd (List.contains_iff_mem.1 h) hi
      obtain ⟨_, p2, p3⟩ := S2.fix.2.2.2 i e.lock k0 (by unfold loopFx; dsimp only; rw [hc, he, hk0]; rfl)
      exact ⟨.inr p2, by rw [p3, hk0]⟩
    | ret =>
      obtain ⟨st2, m2, bk2, k2, S2⟩ := h
      exact ⟨_, m2, bk2, k2, exit_sat S hW ho S2⟩
    | exit id =>
      obtain ⟨st2, m2, bk2, k2, S2⟩ := h
      exact ⟨_, m2, bk2, k2, exit_sat S hW ho S2⟩
    | goto l => exact h.elim
    | panic ch => exact h.elim
    | outgrown => exact h.elim

/-- THE CONDITION IS SOUND. -/
theorem vc_sound (H : HanOK c) (b : Code) : ∀ {m0 : Mem} {fx : Fx} {m : Mem} {bk : List Cn} {st : St} {a : Act} {w : World} {K : Ex → St → Prop}, Sat c m0 w0 fx m bk st a w → c.vc b fx.W st K → b.wp c.P (Post c m0 w0 fx K) a w := by
  induction b with
  | skip => intro m0 fx m bk st a w K S k; exact wp_skip ⟨st, m, bk, k, S⟩
  | label l => intro m0 fx m bk st a w K S k; exact wp_label ⟨st, m, bk, k, S⟩
  | ret => intro m0 fx m bk st a w K S k; exact wp_ret ⟨st, m, bk, k, S⟩
  | exit id => intro m0 fx m bk st a w K S k; exact wp_exit ⟨st, m, bk, k, S⟩
  | region id ops draw =>
    intro m0 fx m bk st a w K S k
    cases draw with
    | false => exact region_sound H S k
    | true =>
      have k : cond (c.drawOK ops) (c.drawK fx.W ops ops.size (Array.replicate ops.size false) st (K .normal)) (cond (c.drawOKn ops) (c.drawN fx.W ops ops.size (Array.replicate ops.size false) st (K .normal)) False) := k
      cases hd : c.drawOK ops with
      | true => rw [hd] at k; exact draw_sound H S hd k
      | false =>
        rw [hd] at k
        obtain ⟨hok, k⟩ := cond_true' (show cond (c.drawOKn ops) _ False from k)
        exact drawN_sound H S hok k
  | seq x y ihx ihy =>
    intro m0 fx m bk st a w K S k
    refine wp_seq (wp_mono (ihx S k) fun e a' w' h => ?_)
    cases e with
    | normal => obtain ⟨st2, m2, bk2, k2, S2⟩ := h; exact ihy S2 k2
    | ret => exact h
    | exit id => exact h
    | goto l => exact h.elim
    | panic ch => exact h.elim
    | outgrown => exact h.elim
  | cond x p q ihp ihq =>
    intro m0 fx m bk st a w K S k
    have hx := ev_sound S x
    unfold Cfg.vc at k
    split at k
    · rename_i z he
      rw [he] at hx
      have hz : a.eval x = .bool z := hx
      cases z with
      | true => exact wp_cond hz (ihp S k)
      | false => exact wp_cond hz (ihq S k)
    · exact k.elim
  | block id b ih =>
    intro m0 fx m bk st a w K S k
    refine wp_block (wp_mono (ih S k) fun e a' w' h => ?_)
    cases e with
    | normal => exact h
    | ret => exact h
    | exit j =>
      show if j = id then _ else _
      by_cases hj : j = id
      · rw [if_pos hj]
        refine h.mono fun st k => ?_
        rcases cond_spec k with ⟨_, k⟩ | ⟨hb, _⟩
        · exact k
        · subst hj; rw [Nat.beq_refl] at hb; cases hb
      · rw [if_neg hj]
        refine h.mono fun st k => ?_
        rcases cond_spec k with ⟨hb, _⟩ | ⟨_, k⟩
        · exact absurd (beq_eq hb) hj
        · exact k
    | goto l => exact h.elim
    | panic ch => exact h.elim
    | outgrown => exact h.elim
  | scope b ih =>
    intro m0 fx m bk st a w K S k
    refine wp_scope_straight (wp_mono (ih S k) fun e a' w' h => ?_)
    cases e with
    | goto l => exact h.elim
    | _ => exact h
  | loop b ih =>
    intro m0 fx m bk st a w K S k
    obtain ⟨hb, k⟩ := cond_true' (show cond _ _ False from k)
    simp only [Bool.and_eq_true] at hb
    refine loop_sound ih (S.freeze hb.2) (fun d hd => ?_) hb.1.2 k
    have := List.all_eq_true.1 hb.1.1 d hd
    simpa using this
  | _ => intro m0 fx m bk st a w K S k; exact False.elim k
end
end Go.Proofs.YtgeefhjlfdidmaaGreatDoor.V


/- FUNCTIONS: a function whose condition holds keeps its contract. No condition of its own. -/
namespace Go.Proofs.YtgeefhjlfdidmaaGreatDoor.V
open Go Go.RowKit
set_option linter.unusedVariables false
set_option linter.unusedSimpArgs false

section
variable {c : Cfg} {m0 : Mem} {w0 : World} {fx : Fx} {m : Mem} {bk : List Cn} {st : St} {a : Act} {w : World}

def resOf (tmps : Array Value) : ResultVar → Sem Value
  | .tmp t => pure (tmps.getD t undef)
  | .cell a t => do loadVar t (← asAddr (tmps.getD a undef))

theorem res_sound (S : Sat c m0 w0 fx m bk st a w) : ∀ (l : List ResultVar) {K : List EV → Prop}, c.resK st l K → ∃ vs us, K vs ∧ RepL c.P m vs (J st.hp bk) us ∧ (l.mapM (resOf a.tmps)).run c.P w = .ok us w
  | [], K, k => ⟨[], [], k, RepL_nil.2 rfl, by simp⟩
  | .tmp t :: r, K, k => by
    obtain ⟨vs, us, h1, h2, h3⟩ := res_sound S r (show c.resK st r fun vs => K (st.env t :: vs) from k)
    refine ⟨_, _, h1, RepL_cons.2 ⟨_, _, rfl, S.env t, h2⟩, ?_⟩
    simp only [List.mapM_cons, resOf, Sem.run_bind, Sem.run_pure, Result.andThen_ok, h3]
  | .cell ad t :: r, K, k => by
    obtain ⟨cs, off, b, o, us, k1, e1, e2, e3⟩ := ptK_sound S (S.env ad) (show Cfg.ptK st (st.env ad) (fun cs off => c.ldK t cs off fun v => c.resK st r fun vs => K (v :: vs)) from k)
    obtain ⟨v, u, k2, l2, l3⟩ := ldK_sound (b := b) (o := o) k1 e2
    have hl := l3 w (e3 w (fun _ _ _ => rfl) S.hold)
    obtain ⟨vs, us', h1, h2, h3⟩ := res_sound S r k2
    refine ⟨_, _, h1, RepL_cons.2 ⟨_, _, rfl, l2, h2⟩, ?_⟩
    have hl' : (loadVar t ⟨b, o + off, none⟩).run c.P w = .ok u w := by
      have : (Instr.loadAt t (.pointer (some ⟨b, o + off, none⟩))) = loadVar t ⟨b, o + off, none⟩ := by simp [Instr.loadAt, Instr.sureAddr]
      rw [← this]; exact hl
    simp only [List.mapM_cons, resOf, Sem.run_bind, e1, asAddr, Sem.run_pure, Result.andThen_ok, hl', h3]

theorem ret_sound (S : Sat c m0 w0 fx m bk st a w) {fn : Func} {out : Shape} {R : out.Val → Prop} (k : c.retK fn out st R) :
    ∃ v, (results fn a.tmps).run c.P w = .ok v w ∧ ∃ r, R r ∧ (Reps c.P out).V (frzM m w (blks bk fun i => ∃ x, st.hp[i]? = some x)) r v := by
  obtain ⟨vs, us, h1, h2, h3⟩ := res_sound S _ k
  have hr : (results fn a.tmps).run c.P w = .ok (if h : us.toArray.size = 1 then us.toArray[0] else .tuple us.toArray) w := by
    have hm : (fn.results.mapM (resOf a.tmps)).run c.P w = .ok us.toArray w := by
      rw [Array.mapM_eq_mapM_toList]
      simp only [map_eq_pure_bind, Sem.run_bind, h3, Result.andThen_ok, Sem.run_pure]
    have he : results fn a.tmps = (do let vs ← fn.results.mapM (resOf a.tmps); pure (if h : vs.size = 1 then vs[0] else .tuple vs)) := by
      unfold results
      congr 1
    rw [he]
    simp only [Sem.run_bind, hm, Result.andThen_ok, Sem.run_pure]
  refine ⟨_, hr, ?_⟩
  have hF := frz_all S
  have hm := frzM_le S (blks bk fun i => ∃ x, st.hp[i]? = some x)
  have ht := S.tab.mono hm
  split at h1
  · rename_i v
    obtain ⟨u, us', e1, e2, e3⟩ := RepL_cons.1 h2
    rw [RepL_nil.1 e3] at e1
    subst e1
    obtain ⟨x, k1, k2⟩ := (dec_sound hF hm ht out).1 _ _ _ e2 (ids_ok v e2) h1
    exact ⟨x, k1, by simpa using k2⟩
  · rename_i hne
    split at h1
    · rename_i f R
      obtain ⟨x, k1, k2⟩ := decS_sound hF hm ht f _ _ _ h2 (idsL_ok _ h2) h1
      refine ⟨x, k1, us, ?_, k2⟩
      have hlen := RepL_length h2
      have : ¬ us.toArray.size = 1 := by
        intro h
        simp only [List.size_toArray] at h
        rw [hlen] at h
        obtain ⟨v, hv⟩ := List.length_eq_one_iff.1 h
        exact hne v hv
      rw [dif_neg this]
    · exact h1.elim
end

/-- THE CONTRACT, out of the condition. -/
theorem fn_sound {c : Cfg} (H : HanOK c) {f : FuncId} {args : List EV} {out : Shape} {R : out.Val → Prop} (k : c.fnK f args out R) : FnE c.toBase f args out R := by
  unfold Cfg.fnK at k
  split at k
  · rename_i fn hf
    split at k
    · rename_i b hb
      obtain ⟨hc, k⟩ := cond_true' k
      simp only [Bool.and_eq_true, Bool.not_eq_true'] at hc
      refine ⟨⟨fn, b, hf, hb, hc.2⟩, fun m w us ht hh hargs => calls_of_wp hf hb ?_⟩
      have hsz : ∀ d ∈ b.dsts', d < (us.toArray ++ Array.replicate (fn.ntmps - us.toArray.size) undef).size := by
        intro d hd
        have := List.all_eq_true.1 hc.1 d hd
        have h1 : d < fn.ntmps := Nat.le_of_ble_eq_true this
        simp only [Array.size_append, Array.size_replicate, List.size_toArray]
        omega
      have S : Sat c m w { W := b.dsts', tmps := us.toArray ++ Array.replicate (fn.ntmps - us.toArray.size) undef, fe := fun _ => none, gh := fun _ _ => False, n0 := w.heap.size, keep := fun _ => False, dfr := [] } m [] { env := fun i => (args[i]?).getD .bot, hp := [] }
          { tmps := us.toArray ++ Array.replicate (fn.ntmps - us.toArray.size) undef, defers := [] } w := by
        refine { hold := hh, tab := ht, ext := Mem.ext_refl _ m, below := Below.refl _ w, len := rfl, ents := fun i e he => by simp at he, apart := fun i j b hi => by simp at hi, env := fun i => ?_, defers := rfl, fix := ⟨rfl, fun _ _ => rfl, hsz, fun i e k hk => by cases hk⟩, gh := fun _ _ h => h.elim, base := Nat.le_refl _, keep := fun _ h => h.elim }
        show Rep c.P m ((args[i]?).getD .bot) (J [] []) ((us.toArray ++ Array.replicate (fn.ntmps - us.toArray.size) undef).getD i undef)
        cases hv : args[i]? with
        | none => trivial
        | some v =>
          obtain ⟨u, h1, h2⟩ := RepL_get hargs hv
          have hi := (List.getElem?_eq_some_iff.1 h1).1
          have : (us.toArray ++ Array.replicate (fn.ntmps - us.toArray.size) undef).getD i undef = u := by
            rw [Array.getD_eq_getD_getElem?, Array.getElem?_append_left (by simpa using hi)]
            simp [h1]
          show Rep c.P m v (J [] []) ((us.toArray ++ Array.replicate (fn.ntmps - us.toArray.size) undef).getD i undef)
          rw [this]
          exact Rep_mono (Mem.le_refl m) v (fun _ _ q => q.elim) h2
      have fin : ∀ {st2 : St} {m2 : Mem} {bk2 : List Cn} {a2 : Act} {w2 : World} {fx2 : Fx}, fx2.n0 = w.heap.size → fx2.dfr = [] → c.retK fn out st2 R → Sat c m w fx2 m2 bk2 st2 a2 w2 → a2.defers = [] ∧ ∃ v, (results fn a2.tmps).run c.P w2 = .ok v w2 ∧ PostOf (fun m v => ∃ r, R r ∧ (Reps c.P out).V m r v) m w (.returned v) w2 := by
        intro st2 m2 bk2 a2 w2 fx2 hn hd2 k2 S2
        have he := S2.ext
        have hb := S2.below
        have hf := frzM_ext S2 (fun i => ∃ x, st2.hp[i]? = some x)
        rw [hn] at he hb hf
        obtain ⟨v, h1, h2⟩ := ret_sound S2 k2
        exact ⟨S2.defers.trans hd2, v, h1, v, _, rfl, Mem.ext_trans he hf, frzM_holds S2 _, hb, h2⟩
      refine wp_mono (vc_sound H b S k) fun e a2 w2 h => ?_
      cases e with
      | normal => obtain ⟨st2, m2, bk2, k2, S2⟩ := h; exact fin rfl rfl k2 S2
      | ret => obtain ⟨st2, m2, bk2, k2, S2⟩ := h; exact fin rfl rfl k2 S2
      | exit id => obtain ⟨st2, m2, bk2, k2, S2⟩ := h; exact k2.elim
      | goto l => exact h.elim
      | panic ch => exact h.elim
      | outgrown => exact h.elim
    · exact k.elim
  · exact k.elim
end Go.Proofs.YtgeefhjlfdidmaaGreatDoor.V


/- ARGUMENTS: what a row's reading of an argument says, as a value of a shape. No condition of its own. -/
namespace Go.Proofs.YtgeefhjlfdidmaaGreatDoor.V
open Go Go.RowKit
set_option linter.unusedVariables false
set_option linter.unusedSimpArgs false

/-- A type is laid out as a shape is; fields are laid out as a chain is. -/
def lay (P : Program) : Shape → (TypeId → Bool) × (List Field → Nat → Bool)
  | .bool => (fun t => match P.underlying t with
    | some .bool => true
    | _ => false, fun fs o => match fs with
    | [f] => Nat.beq f.offset o && Nat.beq (P.cellsOf f.type) 1 && (match P.underlying f.type with
      | some .bool => true
      | _ => false)
    | _ => false)
  | .int k => (fun t => match P.underlying t with
    | some (.int k') => k' == k
    | _ => false, fun fs o => match fs with
    | [f] => Nat.beq f.offset o && Nat.beq (P.cellsOf f.type) 1 && (match P.underlying f.type with
      | some (.int k') => k' == k
      | _ => false)
    | _ => false)
  | .slice s => (fun t => match P.underlying t with
    | some (.slice e) => Nat.beq (P.cellsOf e) s.size && Nat.ble 1 s.size && (lay P s).1 e
    | _ => false, fun fs o => match fs with
    | [f] => Nat.beq f.offset o && Nat.beq (P.cellsOf f.type) 1 && (match P.underlying f.type with
      | some (.slice e) => Nat.beq (P.cellsOf e) s.size && Nat.ble 1 s.size && (lay P s).1 e
      | _ => false)
    | _ => false)
  | .st s => (fun t => match P.underlying t with
    | some (.struct fs) => Nat.beq (P.cellsOf t) s.size && (lay P s).2 fs.toList 0
    | _ => false, fun fs o => match fs with
    | [f] => Nat.beq f.offset o && Nat.beq (P.cellsOf f.type) s.size && (match P.underlying f.type with
      | some (.struct fs) => Nat.beq (P.cellsOf f.type) s.size && (lay P s).2 fs.toList 0
      | _ => false)
    | _ => false)
  | .pair a b => (fun _ => false, fun fs o => match fs with
    | f :: r => Nat.beq f.offset o && Nat.beq (P.cellsOf f.type) a.size && (lay P a).1 f.type && (lay P b).2 r (o + a.size)
    | _ => false)
  | .unit => (fun _ => false, fun _ _ => false)
  | .tup _ => (fun _ => false, fun _ _ => false)
  | .func _ _ => (fun _ => false, fun _ _ => false)
  | .iface _ => (fun _ => false, fun _ _ => false)
  | .one _ _ => (fun _ => false, fun _ _ => false)
  | .alt _ _ _ => (fun _ => false, fun _ _ => false)

/-- Numbers are what their kinds hold, lists no longer than memory. -/
def okR : (s : Shape) → s.Val → Prop
  | .bool, _ => True
  | .int k, n => (Lit.int k n).wf = true
  | .slice s, xs => xs.length ≤ maxLen ∧ ∀ x ∈ xs, okR s x
  | .st f, x => okR f x
  | .unit, _ => True
  | .pair a b, x => okR a x.1 ∧ okR b x.2
  | .tup f, x => okR f x
  | .func _ _, _ => True
  | .iface _, _ => True
  | .one _ s, x => okR s x
  | .alt _ _ _, _ => True

/-- All memory, as memory that nobody writes. -/
def allM (w : World) : Mem := fun b o => w.cell? ⟨b, o, none⟩

theorem allM_holds (w : World) : Holds w (allM w) := fun _ _ _ h => h

theorem add_spot {w : World} {ad : Addr} {j : Nat} {v : Value} (h : w.cell? (ad.add j) = some v) (h0 : ∃ u, w.cell? ad = some u) : w.cell? ⟨ad.block, ad.off + j, none⟩ = some v := by
  obtain ⟨b, o, sp⟩ := ad
  have : sp = none := by
    obtain ⟨u, hu⟩ := h0
    unfold World.cell? at hu
    split at hu
    · cases sp with
      | none => rfl
      | some x => simp at hu
    · cases hu
  subst this
  rw [Addr.add_mid] at h
  exact h

section
variable {H : Type} {enc : TypeId × Value → H} {P : Program} {w : World} {base : Nat} {spare : Nat → Bool} {held : Bool}

theorem choose_list {α : Type} {Q : Nat → α → Prop} : ∀ (n : Nat), (∀ i, i < n → ∃ x, Q i x) → ∃ xs : List α, xs.length = n ∧ ∀ (i : Nat) x, xs[i]? = some x → Q i x
  | 0, _ => ⟨[], rfl, fun i x h => by simp at h⟩
  | n + 1, h => by
    obtain ⟨xs, h1, h2⟩ := choose_list n fun i hi => h i (by omega)
    obtain ⟨x, hx⟩ := h n (by omega)
    refine ⟨xs ++ [x], by simp [h1], fun i y hy => ?_⟩
    by_cases hi : i < n
    · rw [List.getElem?_append_left (by omega)] at hy; exact h2 i y hy
    · have : i = n := by
        have := (List.getElem?_eq_some_iff.1 hy).1
        simp [h1] at this; omega
      subst this
      rw [List.getElem?_append_right (by omega), h1, Nat.sub_self] at hy
      simp at hy; subst hy; exact hx

theorem open_rep (s : Shape) : (∀ (t : TypeId) (fuel : Nat) (cs : List Value) (x : DataW H × List MemPlace), (lay P s).1 t = true → DataW.trod enc P w base spare held fuel t cs = some x → ∃ y : s.Val, (Reps P s).C (allM w) y cs ∧ okR s y) ∧
    (∀ (fs : List Field) (o fuel : Nat) (cs : List Value), (lay P s).2 fs o = true → o + s.size ≤ cs.length → (∀ f ∈ fs, ∃ x, DataW.trod enc P w base spare held fuel f.type ((cs.drop f.offset).take (P.cellsOf f.type)) = some x) → ∃ y : s.Val, (Reps P s).C (allM w) y ((cs.drop o).take s.size) ∧ okR s y) := by
  have one : ∀ (s : Shape), (∀ (t : TypeId) (fuel : Nat) (cs : List Value) (x : DataW H × List MemPlace), (lay P s).1 t = true → DataW.trod enc P w base spare held fuel t cs = some x → ∃ y : s.Val, (Reps P s).C (allM w) y cs ∧ okR s y) →
      ∀ (f : Field) (o fuel : Nat) (cs : List Value), Nat.beq f.offset o = true → Nat.beq (P.cellsOf f.type) s.size = true → (lay P s).1 f.type = true → (∃ x, DataW.trod enc P w base spare held fuel f.type ((cs.drop f.offset).take (P.cellsOf f.type)) = some x) → ∃ y : s.Val, (Reps P s).C (allM w) y ((cs.drop o).take s.size) ∧ okR s y := by
    intro s h f o fuel cs h1 h2 h3 ⟨x, hx⟩
    have := h _ _ _ _ h3 hx
    rw [beq_eq h1, beq_eq h2] at this
    exact this
  have single : ∀ (s : Shape), (∀ fs o, (lay P s).2 fs o = true → ∃ f, fs = [f] ∧ Nat.beq f.offset o = true ∧ Nat.beq (P.cellsOf f.type) s.size = true ∧ (lay P s).1 f.type = true) → (∀ (t : TypeId) (fuel : Nat) (cs : List Value) (x : DataW H × List MemPlace), (lay P s).1 t = true → DataW.trod enc P w base spare held fuel t cs = some x → ∃ y : s.Val, (Reps P s).C (allM w) y cs ∧ okR s y) →
      (∀ (t : TypeId) (fuel : Nat) (cs : List Value) (x : DataW H × List MemPlace), (lay P s).1 t = true → DataW.trod enc P w base spare held fuel t cs = some x → ∃ y : s.Val, (Reps P s).C (allM w) y cs ∧ okR s y) ∧
      (∀ (fs : List Field) (o fuel : Nat) (cs : List Value), (lay P s).2 fs o = true → o + s.size ≤ cs.length → (∀ f ∈ fs, ∃ x, DataW.trod enc P w base spare held fuel f.type ((cs.drop f.offset).take (P.cellsOf f.type)) = some x) → ∃ y : s.Val, (Reps P s).C (allM w) y ((cs.drop o).take s.size) ∧ okR s y) := by
    intro s hs h
    refine ⟨h, fun fs o fuel cs hl _ hf => ?_⟩
    obtain ⟨f, rfl, h1, h2, h3⟩ := hs fs o hl
    exact one s h f o fuel cs h1 h2 h3 (hf f (by simp))
  induction s with
  | bool =>
    refine single .bool (fun fs o h => ?_) fun t fuel cs x h hx => ?_
    · unfold lay at h
      dsimp only at h
      split at h
      · simp only [Bool.and_eq_true] at h; exact ⟨_, rfl, h.1.1, h.1.2, h.2⟩
      · cases h
    · unfold lay at h
      dsimp only at h
      split at h
      · rename_i hu
        obtain ⟨b, rfl, _⟩ := DataW.trod_bool hu hx
        exact ⟨b, ⟨_, rfl, rfl⟩, trivial⟩
      · cases h
  | int k =>
    refine single (.int k) (fun fs o h => ?_) fun t fuel cs x h hx => ?_
    · unfold lay at h
      dsimp only at h
      split at h
      · simp only [Bool.and_eq_true] at h; exact ⟨_, rfl, h.1.1, h.1.2, h.2⟩
      · cases h
    · unfold lay at h
      dsimp only at h
      split at h
      · rename_i k' hu
        have hk : k' = k := by simpa using h
        subst hk
        obtain ⟨n, rfl, _, hw⟩ := DataW.trod_int hu hx
        exact ⟨n, ⟨_, rfl, rfl⟩, hw⟩
      · cases h
  | slice s ih =>
    refine single (.slice s) (fun fs o h => ?_) fun t fuel cs x h hx => ?_
    · unfold lay at h
      dsimp only at h
      split at h
      · simp only [Bool.and_eq_true] at h; exact ⟨_, rfl, h.1.1, h.1.2, h.2⟩
      · cases h
    · unfold lay at h
      dsimp only at h
      split at h
      · rename_i e hu
        simp only [Bool.and_eq_true] at h
        obtain ⟨⟨hsz, hpos⟩, hl⟩ := h
        have hsz := beq_eq hsz
        have hpos := ble_le hpos
        rcases DataW.trod_slice hu hx with ⟨rfl, _⟩ | ⟨a, len, cap, elems, rest, n, _, rfl, _, hb, hlc, hm, hlen, hel, _, _⟩
        · exact ⟨[], ⟨_, rfl, none, 0, rfl, Nat.le_refl _, .inl rfl⟩, Nat.zero_le _, fun x hx => by cases hx⟩
        · have each : ∀ i, i < len → ∃ y : s.Val, (∃ us, (Reps P s).C (allM w) y us ∧ us.length = s.size ∧ ∀ j, j < s.size → w.cell? ((a.add (i * s.size)).add j) = us[j]?) ∧ okR s y := by
            intro i hi
            have h1 := hel i hi
            rw [List.getElem?_eq_getElem (by omega), Option.bind_eq_some_iff] at h1
            obtain ⟨us, h2, h3⟩ := h1
            obtain ⟨_, h4, h5⟩ := World.cells?_some h2
            obtain ⟨y, h6, h7⟩ := ih.1 _ _ _ _ hl h3
            rw [hsz] at h4 h5
            exact ⟨y, ⟨us, h6, h4, h5⟩, h7⟩
          obtain ⟨xs, hxl, hxs⟩ := choose_list len each
          refine ⟨xs, ⟨_, rfl, some a, cap, by rw [hxl], by omega, ?_⟩, by rw [hxl]; omega, fun x hx => ?_⟩
          · cases xs with
            | nil => exact .inl rfl
            | cons x0 xs0 =>
              right
              obtain ⟨⟨us, q1, q2, q3⟩, _⟩ := hxs 0 x0 rfl
              have h0 : ∃ u, w.cell? a = some u := by
                have := q3 0 (by omega)
                rw [Nat.zero_mul] at this
                rw [show (a.add 0).add 0 = a from rfl] at this
                rw [List.getElem?_eq_getElem (by omega)] at this
                exact ⟨_, this⟩
              have ha : a = ⟨a.block, a.off, none⟩ := by
                obtain ⟨b, o, sp⟩ := a
                obtain ⟨u, hu⟩ := h0
                unfold World.cell? at hu
                split at hu
                · cases sp with
                  | none => rfl
                  | some z => simp at hu
                · cases hu
              refine ⟨a.block, a.off, by rw [← ha], fun i x hx => ?_⟩
              obtain ⟨⟨us, q1, q2, q3⟩, _⟩ := hxs i x hx
              refine ⟨us, q1, fun j u hj => ?_⟩
              have hjl := (List.getElem?_eq_some_iff.1 hj).1
              have := q3 j (by omega)
              rw [hj, Addr.add_add] at this
              have := add_spot this h0
              unfold allM
              rw [Nat.add_assoc]
              exact this
          · obtain ⟨i, hi⟩ := List.getElem?_of_mem hx
            exact (hxs i x hi).2
      · cases h
  | st f ih =>
    refine single (.st f) (fun fs o h => ?_) fun t fuel cs x h hx => ?_
    · unfold lay at h
      dsimp only at h
      split at h
      · simp only [Bool.and_eq_true] at h; exact ⟨_, rfl, h.1.1, h.1.2, h.2⟩
      · cases h
    · unfold lay at h
      dsimp only at h
      split at h
      · rename_i fs hu
        simp only [Bool.and_eq_true] at h
        have hsz := beq_eq h.1
        obtain ⟨xs, n, _, _, hl, hxl, hf⟩ := DataW.trod_struct hu hx
        have := ih.2 fs.toList 0 n cs h.2 (by omega) fun g hg => by
          obtain ⟨i, hi⟩ := List.getElem?_of_mem hg
          have hi' : fs[i]? = some g := by simpa using hi
          have := hf i g hi'
          have hlt := (Array.getElem?_eq_some_iff.1 hi').1
          rw [List.getElem?_eq_getElem (by omega)] at this
          exact ⟨_, this⟩
        rw [List.drop_zero, List.take_of_length_le (by omega)] at this
        exact this
      · cases h
  | pair a b iha ihb =>
    refine ⟨fun t fuel cs x h _ => by simp [lay] at h, fun fs o fuel cs h hl hf => ?_⟩
    unfold lay at h
    dsimp only at h
    split at h
    · rename_i f r
      simp only [Bool.and_eq_true] at h
      obtain ⟨⟨⟨h1, h2⟩, h3⟩, h4⟩ := h
      have hs : o + (a.size + b.size) ≤ cs.length := hl
      obtain ⟨y, y1, y2⟩ := one a iha.1 f o fuel cs h1 h2 h3 (hf f (by simp))
      obtain ⟨z, z1, z2⟩ := ihb.2 r (o + a.size) fuel cs h4 (by omega) fun g hg => hf g (by simp [hg])
      refine ⟨(y, z), ⟨_, _, ?_, y1, z1⟩, y2, z2⟩
      show (cs.drop o).take (a.size + b.size) = _
      rw [List.take_add, List.drop_drop]
    · cases h
  | _ => exact ⟨fun t fuel cs x h _ => by simp [lay] at h, fun fs o fuel cs h _ _ => by simp [lay] at h⟩

/-- An argument, as one value. -/
theorem open_arg {s : Shape} {t : TypeId} {v : Value} {d : DataW H} {ps : List MemPlace} {r : Go.Reach} {b0 : Nat} (hl : (lay P s).1 t = true) (hok : Value.okWide P w r b0 t v) (h : DataW.Trod enc P w base spare held t v d ps) : ∃ y : s.Val, (Reps P s).V (allM w) y v ∧ okR s y := by
  obtain ⟨fuel, hf⟩ := h
  obtain ⟨y, h1, h2⟩ := (open_rep s).1 t fuel _ _ hl hf
  refine ⟨y, ?_, h2⟩
  have cell : ∀ {u}, v.cells.toList = [u] → (∀ cs, v ≠ .agg cs) → v = u := by
    intro u hu hna
    cases v <;> first | exact absurd rfl (hna _) | simpa [Value.cells] using hu
  have nagg : (∀ fs, P.underlying t ≠ some (.struct fs)) → (∀ n e, P.underlying t ≠ some (.array n e)) → ∀ cs, v ≠ .agg cs := by
    intro n1 n2 cs e
    subst e
    unfold Value.okWide at hok
    split at hok
    · rename_i q; exact n1 _ q
    · rename_i q; exact n2 _ _ q
    · unfold Cell.okWide Cell.ok at hok
      split at hok <;> simp_all
  cases s with
  | bool =>
    obtain ⟨u, e, hu⟩ := h1
    simp only [lay] at hl
    split at hl
    · rename_i q
      exact (cell e (nagg (by rw [q]; intro _ z; cases z) (by rw [q]; intro _ _ z; cases z))) ▸ hu
    · cases hl
  | int k =>
    obtain ⟨u, e, hu⟩ := h1
    simp only [lay] at hl
    split at hl
    · rename_i q
      exact (cell e (nagg (by rw [q]; intro _ z; cases z) (by rw [q]; intro _ _ z; cases z))) ▸ hu
    · cases hl
  | slice s =>
    obtain ⟨u, e, hu⟩ := h1
    simp only [lay] at hl
    split at hl
    · rename_i q
      exact (cell e (nagg (by rw [q]; intro _ z; cases z) (by rw [q]; intro _ _ z; cases z))) ▸ hu
    · cases hl
  | st f =>
    simp only [lay] at hl
    split at hl
    · rename_i q
      unfold Value.okWide at hok
      rw [q] at hok
      obtain ⟨cs, e, _⟩ := hok
      subst e
      exact ⟨cs.toList, by simp, h1⟩
    · cases hl
  | _ => simp [lay] at hl
end
end Go.Proofs.YtgeefhjlfdidmaaGreatDoor.V


/- Rows: a contract that always answers true, as a row's post. No condition of its own. -/
namespace Go.Proofs.YtgeefhjlfdidmaaGreatDoor.V
open Go Go.RowKit
set_option linter.unusedVariables false
set_option linter.unusedSimpArgs false

/-- A chain of arguments, out of each of them. -/
theorem args_pair {P : Program} {a b : Shape} {m : Mem} {x : a.Val} {y : b.Val} {u : Value} {r : List Value} (h : (Reps P a).V m x u) (k : (Reps P b).A m y r) : (Reps P (.pair a b)).A m (x, y) (u :: r) := ⟨u, r, rfl, h, k⟩

theorem args_last {P : Program} {s : Shape} {t : TypeId} (hl : (lay P s).1 t = true) {m : Mem} {x : s.Val} {u : Value} (h : (Reps P s).V m x u) : (Reps P s).A m x [u] := by
  cases s with
  | bool => exact ⟨u, rfl, h⟩
  | int k => exact ⟨u, rfl, h⟩
  | slice s => exact ⟨u, rfl, h⟩
  | st f => obtain ⟨cs, e, h⟩ := h; exact ⟨cs, by rw [e], h⟩
  | _ => simp [lay] at hl

theorem tab_ok {P : Program} {W : World} {l : List Int} {gi : Nat} (h : Lib.TabIs P W "lustrum/civil.lengths" .i64 l) (hg : P.globalNamed "lustrum/civil.lengths" = some gi) {tab : Nat → Option (List Int)} (ht : ∀ g l', tab g = some l' → g = gi ∧ l' = l) : TabOK tab (allM W) := by
  intro g l' hgl i n hi
  obtain ⟨rfl, rfl⟩ := ht g l' hgl
  have hlt := (List.getElem?_eq_some_iff.1 hi).1
  have := h.cell hg i hlt
  unfold allM
  rw [this]
  simp [List.getD_eq_getElem?_getD, hi]

/-- An array of three arrays of three numbers: its cells. -/
theorem cells_of_three {H : Type} {enc : TypeId × Value → H} {P : Program} {w : World} {base : Nat} {sp : Nat → Bool} {held : Bool} {fuel : Nat} {t e e2 : TypeId} {k : IntKind} {cs : List Value} {r0 r1 r2 : List Int} {p : List MemPlace}
    (ht : P.underlying t = some (.array 3 e)) (he : P.underlying e = some (.array 3 e2)) (he2 : P.underlying e2 = some (.int k)) (c2 : P.cellsOf e2 = 1) (c1 : P.cellsOf e = 3) (c0 : P.cellsOf t = 9)
    (h : DataW.trod enc P w base sp held fuel t cs = some (.agg [Lib.tabData k r0, Lib.tabData k r1, Lib.tabData k r2], p)) : cs = (r0 ++ r1 ++ r2).map fun z => Value.int k z := by
  cases fuel with
  | zero => simp [DataW.trod] at h
  | succ fuel =>
    simp only [DataW.trod, ht, c1, c0] at h
    split at h
    · rename_i hl
      obtain ⟨xs, hm, hx⟩ := Option.map_eq_some_iff.1 h
      have hxs : xs.map (·.1) = [Lib.tabData k r0, Lib.tabData k r1, Lib.tabData k r2] := by
        have := congrArg Prod.fst hx
        simpa using this
      have part : ∀ (i : Nat) (r : List Int), i < 3 → [Lib.tabData k r0, Lib.tabData k r1, Lib.tabData k r2][i]? = some (Lib.tabData (H := H) k r) → (cs.drop (i * 3)).take 3 = r.map fun z => Value.int k z := fun i r hi hr => by
        obtain ⟨b, hb, hf⟩ := Lib.mapM_at hm i i (by simp [hi])
        have h2 : (xs.map (·.1))[i]? = some b.1 := by simp [hb]
        rw [hxs, hr] at h2
        have h3 : b.1 = Lib.tabData k r := (Option.some.inj h2).symm
        obtain ⟨b1, b2⟩ := b
        dsimp only at h3
        subst h3
        exact Lib.cells_of_tab he he2 c2 c1 hf
      have p0 := part 0 r0 (by decide) rfl
      have p1 := part 1 r1 (by decide) rfl
      have p2 := part 2 r2 (by decide) rfl
      rw [List.map_append, List.map_append, ← p0, ← p1, ← p2]
      simp only [Nat.zero_mul, Nat.one_mul, List.drop_zero]
      have d6 : (cs.drop 6).take 3 = cs.drop 6 := List.take_of_length_le (by rw [List.length_drop]; omega)
      rw [show 2 * 3 = 6 from rfl, d6, List.append_assoc]
      have : (cs.drop 3).take 3 ++ cs.drop 6 = cs.drop 3 := by
        have := List.take_append_drop 3 (cs.drop 3)
        rwa [List.drop_drop] at this
      rw [this, List.take_append_drop]
    · cases h

/-- Two tables that a row lists. -/
theorem tab_ok2 {P : Program} {W : World} {n1 n2 : String} {r0 r1 r2 l2 : List Int} {g1 g2 : Nat} {t1 e1 f1 t2 e2 : TypeId} {k2 : Nat}
    (hg1 : P.globalNamed n1 = some g1) (hty1 : (P.globals[g1]?).map (·.type) = some t1) (ht1 : P.underlying t1 = some (.array 3 e1)) (he1 : P.underlying e1 = some (.array 3 f1)) (hf1 : P.underlying f1 = some (.int .i64)) (cf1 : P.cellsOf f1 = 1) (ce1 : P.cellsOf e1 = 3) (ct1 : P.cellsOf t1 = 9)
    (hg2 : P.globalNamed n2 = some g2) (hty2 : (P.globals[g2]?).map (·.type) = some t2) (ht2 : P.underlying t2 = some (.array k2 e2)) (he2 : P.underlying e2 = some (.int .i64)) (ce2 : P.cellsOf e2 = 1) (ct2 : P.cellsOf t2 = k2)
    (h : laidMet P [(n1, .agg [Lib.tabData .i64 r0, Lib.tabData .i64 r1, Lib.tabData .i64 r2]), (n2, Lib.tabData .i64 l2)] W)
    {tab : Nat → Option (List Int)} (ht : ∀ g l', tab g = some l' → (g = g1 ∧ l' = r0 ++ r1 ++ r2) ∨ (g = g2 ∧ l' = l2)) : TabOK tab (allM W) := by
  obtain ⟨ps, ⟨g', t', cs, fuel, p, q, a1, a2, a3, a4, ⟨g'', t'', cs', fuel', p', q', b1, b2, b3, b4, _, _⟩, _⟩, _⟩ := h
  obtain rfl := Option.some.inj (hg1.symm.trans a1)
  obtain rfl := Option.some.inj (hty1.symm.trans a2)
  obtain rfl := Option.some.inj (hg2.symm.trans b1)
  obtain rfl := Option.some.inj (hty2.symm.trans b2)
  have hc := cells_of_three ht1 he1 hf1 cf1 ce1 ct1 a4
  have hd := Lib.cells_of_tab ht2 he2 ce2 ct2 b4
  intro g l' hgl i n hi
  unfold allM
  rcases ht g l' hgl with ⟨rfl, rfl⟩ | ⟨rfl, rfl⟩
  · rw [World.var?_cell hg1 a3, ← Array.getElem?_toList, hc, List.getElem?_map, hi]
    rfl
  · rw [World.var?_cell hg2 b3, ← Array.getElem?_toList, hd, List.getElem?_map, hi]
    rfl

/-- A law's contract, called. -/
theorem row_call {c : Base} {f : FuncId} {ins : Shape} {x : ins.Val} {W : World} {us : List Value} (h : FnE c f (ins.compsE x) .bool (· = true)) (ht : TabOK c.tab (allM W)) (ha : (Reps c.P ins).A (allM W) x us) : Calls c.P f us.toArray W fun e W' => e = .returned (.bool true) ∧ Below W.heap.size W W' :=
  (h.2 (allM W) W us ht (allM_holds W) (RepL_comps ins pureJ ha)).mono fun e W' ⟨v, m', h1, h2, h3, h4, r, h5, h6⟩ => by
    subst h5
    have : v = .bool true := h6
    subst this
    exact ⟨h1, h4⟩
end Go.Proofs.YtgeefhjlfdidmaaGreatDoor.V


/- Functions that write a block of their caller's: contracts, and their calls. No condition of its own. -/
namespace Go.Proofs.YtgeefhjlfdidmaaGreatDoor.V
open Go Go.RowKit
set_option linter.unusedVariables false
set_option linter.unusedSimpArgs false

/-- A list with something at a place more, and less. -/
def insAt {α : Type} : Nat → α → List α → List α
  | 0, a, l => a :: l
  | n + 1, a, x :: l => x :: insAt n a l
  | _ + 1, a, [] => [a]

def dropAt {α : Type} : Nat → List α → List α
  | _, [] => []
  | 0, _ :: l => l
  | n + 1, x :: l => x :: dropAt n l

def scalar : EV → Bool
  | .p .bool _ => true
  | .p (.int _) _ => true
  | _ => false

/-- A block of the call's own, of numbers and bools alone, at version 0. -/
def Ent.plain : Ent → Bool
  | .box md cs => md.isOwn && cs.all scalar
  | .row md v _ s _ => md.isOwn && Nat.beq v 0 && s.flat
  | .iter _ _ _ => false

/-- A block with other contents. -/
def Ent.fill : (e : Ent) → (Slot.n e).sh.Val → Ent
  | .box o cs, x => .box o (mkC cs x)
  | .row o v el s _, xs => .row o v el s xs
  | .iter o s _, pos => .iter o s pos

/-- THE CONTRACT of a function that may write one block of its caller's, and answers with numbers and bools. -/
def FnM (c : Base) (f : FuncId) (args : List EV) (e : Ent) (out : Shape) (R : out.Val → (Slot.n e).sh.Val → Prop) : Prop :=
  Callable c.P f ∧ e.plain = true ∧ out.flat = true ∧ ∀ m w us k, TabOK c.tab m → Holds w m → SatEnt c.P m 0 w pureJ e k → RepL c.P m args (J [e] [k]) us →
    Calls c.P f us.toArray w fun x w' => ∃ v r y, x = .returned v ∧ R r y ∧ (Reps c.P out).V m r v ∧ SatEnt c.P m 0 w' pureJ (e.fill y) k ∧ Below 0 w w' ∧ ∀ b, b < w.heap.size → k.blk ≠ some b → w'.heap[b]? = w.heap[b]?

/-- The condition of such a contract. -/
def Cfg.fnM (c : Cfg) (f : FuncId) (args : List EV) (e : Ent) (out : Shape) (R : out.Val → (Slot.n e).sh.Val → Prop) : Prop :=
  match c.P.funcs[f]? with
  | some fn => match fn.body with
    | some b => cond (b.dsts'.all (fun d => Nat.blt d fn.ntmps) && !(fn.name == "runtime.NumGoroutine") && out.flat && e.plain) (c.vc b b.dsts' { env := fun i => (args[i]?).getD .bot, hp := [e] } fun x st => match x with
      | .normal => c.retK fn out st fun r => match st.hp with
        | e' :: _ => Slot.mat (.n e) (.n e') (R r)
        | [] => False
      | .ret => c.retK fn out st fun r => match st.hp with
        | e' :: _ => Slot.mat (.n e) (.n e') (R r)
        | [] => False
      | .exit _ => False) False
    | none => False
  | none => False

/-- A call of such a function. -/
def callMP (c : Base) (f : FuncId) (n : Nat) (e : Ent) (w : EV) (ins out : Shape) (x : ins.Val) (K : out.Val → (Slot.n e).sh.Val → Prop) : Prop :=
  ∃ R, FnM c f (insAt n w (ins.compsE x)) e out R ∧ ∀ r y, R r y → K r y

/-- Nothing that these blocks name is outside of them. -/
def closedIds (hp : List Ent) (l : List Nat) : Bool := l.all fun i => match hp[i]? with
  | some e => e.ids.all (l.contains ·)
  | none => false

def Cfg.callM (c : Cfg) (f : FuncId) (n : Nat) (args : List EV) (hp : List Ent) (K : EV → List Ent → Prop) : Prop :=
  match c.P.funcs[f]? with
  | some fn => match allS ((dropAt n fn.params.toList).map (c.shp deep)), allS (fn.resultTypes.toList.map (c.shp deep)) with
    | some ins, some outs => cond (Nat.beq fn.nfree 0 && closedIds hp (closeIds hp (EV.idsL (dropAt n args)))) (match args[n]? with
      | some (.row id ver) => cond ((closeIds hp (EV.idsL (dropAt n args))).contains id) False (match hp[id]? with
        | some (.row .own v e s xs) => cond (Nat.beq v ver) (decS c { env := fun _ => .bot, hp := hp } (seqS ins) (dropAt n args) fun x =>
            callMP c.toBase f n (.row .own 0 e s xs) (.row 0 0) (seqS ins) (outS outs) x fun r ys => chk (List.length ys = xs.length) (K ((outS outs).enc r) (hp.set id (.row .own v e s ys)))) False
        | _ => False)
      | some (.box id 0) => cond ((closeIds hp (EV.idsL (dropAt n args))).contains id) False (match hp[id]? with
        | some (.box .own cs) => decS c { env := fun _ => .bot, hp := hp } (seqS ins) (dropAt n args) fun x =>
            callMP c.toBase f n (.box .own cs) (.box 0 0) (seqS ins) (outS outs) x fun r y => K ((outS outs).enc r) (hp.set id (.box .own (mkC cs y)))
        | _ => False)
      | _ => False) False
    | _, _ => False
  | none => False

section
theorem dropAt_get {α : Type} : ∀ (n : Nat) (l : List α) (a : α), l[n]? = some a → insAt n a (dropAt n l) = l
  | 0, x :: l, a, h => by simp at h; subst h; rfl
  | n + 1, x :: l, a, h => by simp at h; simp only [dropAt, insAt]; rw [dropAt_get n l a h]
  | _, [], a, h => by simp at h

theorem RepL_dropAt {P : Program} {m : Mem} {J : EV → Value → Prop} : ∀ (n : Nat) {cs : List EV} {us : List Value}, RepL P m cs J us → RepL P m (dropAt n cs) J (dropAt n us)
  | n, [], us, h => by rw [RepL_nil.1 h]; cases n <;> exact RepL_nil.2 rfl
  | 0, c :: cs, us, h => by obtain ⟨u, us', rfl, _, h2⟩ := RepL_cons.1 h; exact h2
  | n + 1, c :: cs, us, h => by obtain ⟨u, us', rfl, h1, h2⟩ := RepL_cons.1 h; exact RepL_cons.2 ⟨_, _, rfl, h1, RepL_dropAt n h2⟩

theorem RepL_insAt {P : Program} {m : Mem} {J : EV → Value → Prop} {v : EV} {u : Value} (hv : Rep P m v J u) : ∀ (n : Nat) {cs : List EV} {us : List Value}, RepL P m cs J us → RepL P m (insAt n v cs) J (insAt n u us)
  | 0, cs, us, h => RepL_cons.2 ⟨_, _, rfl, hv, h⟩
  | n + 1, [], us, h => by rw [RepL_nil.1 h]; exact RepL_cons.2 ⟨_, _, rfl, hv, RepL_nil.2 rfl⟩
  | n + 1, c :: cs, us, h => by obtain ⟨u', us', rfl, h1, h2⟩ := RepL_cons.1 h; exact RepL_cons.2 ⟨_, _, rfl, h1, RepL_insAt hv n h2⟩

theorem idsL_dropAt : ∀ (n : Nat) (l : List EV) (i : Nat), i ∈ EV.idsL (dropAt n l) → i ∈ EV.idsL l
  | n, [], i, h => by cases n <;> exact h
  | 0, c :: l, i, h => by simp only [EV.idsL, List.mem_append]; exact .inr h
  | n + 1, c :: l, i, h => by
    simp only [dropAt, EV.idsL, List.mem_append] at h ⊢
    exact h.imp id (idsL_dropAt n l i)

/-- What numbers and bools represent asks nothing of memory. -/
theorem RepL_scalar {P : Program} {m m' : Mem} {J J' : EV → Value → Prop} : ∀ {cs : List EV} {us : List Value}, cs.all scalar = true → RepL P m cs J us → RepL P m' cs J' us
  | [], us, _, h => RepL_nil.2 (RepL_nil.1 h)
  | c :: cs, us, hs, h => by
    obtain ⟨u, us', rfl, h1, h2⟩ := RepL_cons.1 h
    simp only [List.all_cons, Bool.and_eq_true] at hs
    refine RepL_cons.2 ⟨_, _, rfl, ?_, RepL_scalar hs.2 h2⟩
    have hc := hs.1
    unfold scalar at hc
    split at hc
    · exact h1
    · exact h1
    · cases hc

theorem RowRep_flat {P : Program} {m m' : Mem} {s : Shape} (hf : s.flat = true) : ∀ {xs : List s.Val} {cs : List Value}, RowRep P m s xs cs → RowRep P m' s xs cs
  | [], _, k => k
  | _ :: _, _, ⟨c, r, e, h1, h2⟩ => ⟨c, r, e, (flat_V s hf).1 _ _ h1, RowRep_flat hf h2⟩

theorem mkC_scalar : ∀ (cs : List EV) (x : (shC cs).Val), cs.all scalar = true → (mkC cs x).all scalar = true
  | [], _, _ => rfl
  | [v], x, h => by
    simp only [List.all_cons, List.all_nil, Bool.and_true] at h
    simp only [mkC, List.all_cons, List.all_nil, Bool.and_true]
    unfold scalar at h
    split at h
    · rfl
    · rfl
    · cases h
  | v :: w :: r, x, h => by
    have h' : scalar v = true ∧ (w :: r).all scalar = true := by simpa using h
    have : (mkC (v :: w :: r) x) = v.mk' x.1 :: mkC (w :: r) x.2 := rfl
    rw [this, List.all_cons, mkC_scalar (w :: r) x.2 h'.2, Bool.and_true]
    have h1 := h'.1
    unfold scalar at h1
    split at h1
    · rfl
    · rfl
    · cases h1

theorem WkL_scalar : ∀ {cs ds : List EV}, cs.all scalar = true → WkL cs ds → cs = ds
  | [], [], _, _ => rfl
  | [], _ :: _, _, h => h.elim
  | _ :: _, [], _, h => h.elim
  | c :: cs, d :: ds, hs, ⟨h1, h2⟩ => by
    simp only [List.all_cons, Bool.and_eq_true] at hs
    rcases h1 with h1 | h1
    · subst h1; exact absurd hs.1 (by simp [scalar])
    · rw [h1, WkL_scalar hs.2 h2]

theorem isOwn_eq {md : Md} (h : md.isOwn = true) : md = .own := by cases md <;> first | rfl | cases h

/-- A block that is plain lies in memory whatever else is known. -/
theorem SatEnt.plain {P : Program} {m m' : Mem} {n0 n0' : Nat} {w : World} {JJ JJ' : EV → Value → Prop} {e : Ent} {k : Cn} (hp : e.plain = true) (hn : ∀ b, k.blk = some b → n0' ≤ b) (hm : ∀ b, k.blk = some b → ∀ o, m' b o = none) (h : SatEnt P m n0 w JJ e k) : SatEnt P m' n0' w JJ' e k := by
  cases e with
  | box md cs =>
    cases k with
    | row v => exact h.elim
    | box b =>
      simp only [Ent.plain, Bool.and_eq_true] at hp
      have := isOwn_eq hp.1
      subst this
      obtain ⟨us, T, h1, h2, h3, h4, h5⟩ := h
      exact ⟨us, T, h1, RepL_scalar hp.2 h2, hn b rfl, (fun q => by cases q), fun _ => hm b rfl⟩
  | row md v el s xs =>
    cases k with
    | box b => exact h.elim
    | row cv =>
      simp only [Ent.plain, Bool.and_eq_true] at hp
      have := isOwn_eq hp.1.1
      subst this
      obtain ⟨cs, h1, h2, h3, h4⟩ := h
      refine ⟨cs, RowRep_flat hp.2 h1, ⟨h2.1, ?_⟩, (fun q => by cases q), fun _ g hg => hm g hg⟩
      rcases h2.2 with q | ⟨g, cap, cur, e1, e2, e3⟩
      · exact .inl q
      · exact .inr ⟨g, cap, cur, e1, hn g (by rw [e1]; rfl), e3⟩
  | iter md s pos => cases hp

theorem SatEnt.unknown {P : Program} {m : Mem} {n0 : Nat} {w : World} {JJ : EV → Value → Prop} {e : Ent} {k : Cn} (hp : e.md ≠ .froz) (h : SatEnt P m n0 w JJ e k) : ∀ b, k.blk = some b → ∀ o, m b o = none := by
  cases e with
  | box md cs =>
    cases k with
    | row v => exact h.elim
    | box b' => obtain ⟨us, T, _, _, _, _, h5⟩ := h; intro b hb; cases hb; exact h5 hp
  | row md v el s xs =>
    cases k with
    | box b => exact h.elim
    | row cv => obtain ⟨cs, _, _, _, h4⟩ := h; exact h4 hp
  | iter md s pos =>
    cases k with
    | row v => exact h.elim
    | box b' => obtain ⟨_, _, h5⟩ := h; intro b hb; cases hb; exact h5 hp

theorem Ent.plain_own {e : Ent} (h : e.plain = true) : e.md = .own := by
  cases e with
  | box md cs => simp only [Ent.plain, Bool.and_eq_true] at h; exact isOwn_eq h.1
  | row md v el s xs => simp only [Ent.plain, Bool.and_eq_true] at h; exact isOwn_eq h.1.1
  | iter md s pos => cases h

theorem Ent.plain_fill {e : Ent} (h : e.plain = true) (y : (Slot.n e).sh.Val) : (e.fill y).plain = true := by
  cases e with
  | box md cs =>
    simp only [Ent.plain, Bool.and_eq_true, Ent.fill] at h ⊢
    exact ⟨h.1, mkC_scalar cs y h.2⟩
  | row md v el s xs => exact h
  | iter md s pos => exact h
end

/-- THE CONTRACT, out of the condition. -/
theorem fnM_sound {c : Cfg} (H : HanOK c) {f : FuncId} {args : List EV} {e : Ent} {out : Shape} {R : out.Val → (Slot.n e).sh.Val → Prop} (k : c.fnM f args e out R) : FnM c.toBase f args e out R := by
  unfold Cfg.fnM at k
  split at k
  · rename_i fn hf
    split at k
    · rename_i b hb
      obtain ⟨hc, k⟩ := cond_true' k
      simp only [Bool.and_eq_true, Bool.not_eq_true'] at hc
      obtain ⟨⟨⟨hc1, hc2⟩, hfl⟩, hpl⟩ := hc
      refine ⟨⟨fn, b, hf, hb, hc2⟩, hpl, hfl, fun m w us kk ht hh hent hargs => calls_of_wp hf hb ?_⟩
      have hsz : ∀ d ∈ b.dsts', d < (us.toArray ++ Array.replicate (fn.ntmps - us.toArray.size) undef).size := by
        intro d hd
        have := List.all_eq_true.1 hc1 d hd
        have h1 : d < fn.ntmps := Nat.le_of_ble_eq_true this
        simp only [Array.size_append, Array.size_replicate, List.size_toArray]
        omega
      have hown := Ent.plain_own hpl
      have hunk := hent.unknown (by rw [hown]; intro q; cases q)
      have S : Sat c m w { W := b.dsts', tmps := us.toArray ++ Array.replicate (fn.ntmps - us.toArray.size) undef, fe := fun _ => none, gh := fun e0 u => J [e] [kk] e0 u, n0 := 0, keep := fun b => b < w.heap.size ∧ kk.blk ≠ some b, dfr := [] } m [kk] { env := fun i => (args[i]?).getD .bot, hp := [e] }
          { tmps := us.toArray ++ Array.replicate (fn.ntmps - us.toArray.size) undef, defers := [] } w := by
        refine { hold := hh, tab := ht, ext := Mem.ext_refl _ m, below := Below.refl _ w, len := rfl, ents := fun i e' he => ?_, apart := fun i j b hi hj => ?_, env := fun i => ?_, defers := rfl, fix := ⟨rfl, fun _ _ => rfl, hsz, fun i e k hk => by cases hk⟩, gh := fun _ _ h => h, base := Nat.zero_le _, keep := fun b hb => ⟨hb.1, rfl, fun i hi => ?_⟩ }
        · cases i with
          | zero => simp at he; subst he; exact ⟨kk, rfl, SatEnt.plain hpl (fun _ _ => Nat.zero_le _) hunk hent⟩
          | succ i => simp at he
        · cases i with
          | zero => cases j with
            | zero => rfl
            | succ j => simp at hj
          | succ i => simp at hi
        · show Rep c.P m ((args[i]?).getD .bot) (J [e] [kk]) ((us.toArray ++ Array.replicate (fn.ntmps - us.toArray.size) undef).getD i undef)
          cases hv : args[i]? with
          | none => trivial
          | some v =>
            obtain ⟨u, h1, h2⟩ := RepL_get hargs hv
            have hi := (List.getElem?_eq_some_iff.1 h1).1
            have : (us.toArray ++ Array.replicate (fn.ntmps - us.toArray.size) undef).getD i undef = u := by
              rw [Array.getD_eq_getD_getElem?, Array.getElem?_append_left (by simpa using hi)]
              simp [h1]
            show Rep c.P m v (J [e] [kk]) ((us.toArray ++ Array.replicate (fn.ntmps - us.toArray.size) undef).getD i undef)
            rw [this]
            exact h2
        · cases i with
          | zero => exact hb.2 (by simpa using hi)
          | succ i => simp at hi
      have fin : ∀ {st2 : St} {m2 : Mem} {bk2 : List Cn} {a2 : Act} {w2 : World}, c.retK fn out st2 (fun r => match st2.hp with
            | e' :: _ => Slot.mat (.n e) (.n e') (R r)
            | [] => False) → Sat c m w { W := b.dsts', tmps := us.toArray ++ Array.replicate (fn.ntmps - us.toArray.size) undef, fe := fun _ => none, gh := fun e0 u => J [e] [kk] e0 u, n0 := 0, keep := fun b => b < w.heap.size ∧ kk.blk ≠ some b, dfr := [] } m2 bk2 st2 a2 w2 →
          a2.defers = [] ∧ ∃ v, (results fn a2.tmps).run c.P w2 = .ok v w2 ∧ ∃ v' r y, Ending.returned v = .returned v' ∧ R r y ∧ (Reps c.P out).V m r v' ∧ SatEnt c.P m 0 w2 pureJ (e.fill y) kk ∧ Below 0 w w2 ∧ ∀ b, b < w.heap.size → kk.blk ≠ some b → w2.heap[b]? = w.heap[b]? := by
        intro st2 m2 bk2 a2 w2 k2 S2
        obtain ⟨v, h1, r, h2, h3⟩ := ret_sound S2 k2
        refine ⟨S2.defers, v, h1, v, r, ?_⟩
        split at h2
        · rename_i e' tl hhp
          obtain ⟨y, hy, hs⟩ := Slot.mat_spec (.n e) (.n e') h2
          refine ⟨y, rfl, hy, (flat_V out hfl).2.2 _ _ h3, ?_, S2.below, fun b hb hne => (S2.keep b ⟨hb, hne⟩).2.1⟩
          have h0 : st2.hp[0]? = some e' := by rw [hhp]; rfl
          obtain ⟨k', hk', hse⟩ := S2.ents 0 e' h0
          have heq : e' = e.fill y ∧ k' = kk := by
            cases e with
            | box md cs =>
              cases kk with
              | row v => exact hent.elim
              | box b' =>
                obtain ⟨ds, e1, e2⟩ := hs
                cases e1
                simp only [Ent.plain, Bool.and_eq_true] at hpl
                have := WkL_scalar (mkC_scalar cs y hpl.2) e2
                subst this
                refine ⟨by rw [isOwn_eq hpl.1]; rfl, ?_⟩
                obtain ⟨_, b2, q1, _, q2, q3⟩ := S2.gh (.box 0 0) (.pointer (some ⟨b', 0, none⟩)) ⟨_, b', rfl, rfl, rfl, rfl⟩
                rw [hk'] at q2
                cases q2
                cases q3
                rfl
            | row md v el s xs =>
              cases kk with
              | box b => exact hent.elim
              | row cv =>
                have e1 : Slot.n e' = .n (.row .own v el s y) := hs
                cases e1
                simp only [Ent.plain, Bool.and_eq_true] at hpl
                have hv0 := beq_eq hpl.1.2
                refine ⟨by rw [isOwn_eq hpl.1.1]; rfl, ?_⟩
                obtain ⟨md2, v2, el2, s2, xs2, cv2, q1, q2, q3, q4⟩ := S2.gh (.row 0 0) cv ⟨md, v, el, s, xs, cv, rfl, rfl, Nat.zero_le _, fun _ => rfl⟩
                rw [h0] at q1
                cases q1
                rw [hk'] at q2
                cases q2
                rw [q4 hv0.symm]
            | iter md s pos => cases hpl
          rw [heq.1, heq.2] at hse
          exact SatEnt.plain (Ent.plain_fill hpl y) (fun _ _ => Nat.zero_le _) hunk hse
        · exact h2.elim
      refine wp_mono (vc_sound H b S k) fun e a2 w2 h => ?_
      cases e with
      | normal => obtain ⟨st2, m2, bk2, k2, S2⟩ := h; exact fin k2 S2
      | ret => obtain ⟨st2, m2, bk2, k2, S2⟩ := h; exact fin k2 S2
      | exit id => obtain ⟨st2, m2, bk2, k2, S2⟩ := h; exact k2.elim
      | goto l => exact h.elim
      | panic ch => exact h.elim
      | outgrown => exact h.elim
    · exact k.elim
  · exact k.elim

theorem FnM.mono {c : Base} {f : FuncId} {args : List EV} {e : Ent} {out : Shape} {R R' : out.Val → (Slot.n e).sh.Val → Prop} (h : FnM c f args e out R) (k : ∀ r y, R r y → R' r y) : FnM c f args e out R' :=
  ⟨h.1, h.2.1, h.2.2.1, fun m w us kk h1 h2 h3 h4 => (h.2.2.2 m w us kk h1 h2 h3 h4).mono fun x w' ⟨v, r, y, q1, q2, q3⟩ => ⟨v, r, y, q1, k r y q2, q3⟩⟩

section
variable {c : Cfg} {m0 : Mem} {w0 : World} {fx : Fx} {m : Mem} {bk : List Cn} {st : St} {a : Act} {w : World}

/-- A call that writes one block of the caller's. -/
theorem callMP_sound (S : Sat c m0 w0 fx m bk st a w) {f : FuncId} {n id : Nat} {args : List EV} {us : List Value} {ins out : Shape} {e eC : Ent} {wv wc : EV} {k : Cn} {K : out.Val → (Slot.n e).sh.Val → Prop} {K' : EV → List Ent → Prop} {up : (Slot.n e).sh.Val → Ent} {ok : (Slot.n e).sh.Val → Prop}
    (hargs : RepL c.P m args (J st.hp bk) us) (hn : args[n]? = some wc) (he : st.hp[id]? = some eC) (hk : bk[id]? = some k) (hown : eC.md = .own)
    (hcl : closedIds st.hp (closeIds st.hp (EV.idsL (dropAt n args))) = true) (hid : (closeIds st.hp (EV.idsL (dropAt n args))).contains id = false)
    (hW : ∀ u, Rep c.P m wc (J st.hp bk) u → Rep c.P (frzM m w (blks bk (· ∈ closeIds st.hp (EV.idsL (dropAt n args))))) wv (J [e] [k]) u)
    (hin : ∀ m', e.plain = true → SatEnt c.P m fx.n0 w (J st.hp bk) eC k → (∀ b, k.blk = some b → ∀ o, m' b o = none) → SatEnt c.P m' 0 w pureJ e k)
    (hout : ∀ w' y, e.plain = true → (∀ b, k.blk = some b → fx.n0 ≤ b) → (∀ b, k.blk = some b → ∀ o, m b o = none) → SatEnt c.P (frzM m w (blks bk (· ∈ closeIds st.hp (EV.idsL (dropAt n args))))) 0 w' pureJ (e.fill y) k → SatEnt c.P m fx.n0 w' (J (st.hp.set id (up y)) (bk.set id k)) (up y) k)
    (hJ : ∀ y ev u, ok y → J st.hp bk ev u → J (st.hp.set id (up y)) (bk.set id k) ev u)
    (hK : ∀ r y, K r y → ok y ∧ K' (out.enc r) (st.hp.set id (up y)))
    (kk : decS c { env := fun _ => .bot, hp := st.hp } ins (dropAt n args) fun x => callMP c.toBase f n e wv ins out x K) :
    Callable c.P f ∧ Calls c.P f us.toArray w (fun e w' => ∃ u, e = .returned u ∧ Res c m0 w0 fx st a K' u w') := by
  obtain ⟨k0, hk0, hent⟩ := S.ents id eC he
  rw [hk] at hk0; cases hk0
  have S' : Sat c m0 w0 fx m bk { env := fun _ => .bot, hp := st.hp } a w := { S with env := fun _ => trivial }
  have hF := frz_ok S' (· ∈ closeIds st.hp (EV.idsL (dropAt n args))) fun i hi => by
    have := List.all_eq_true.1 hcl i hi
    split at this
    · rename_i x hx
      exact ⟨x, hx, fun j hj => by simpa using List.all_eq_true.1 this j hj⟩
    · cases this
  have hle := frzM_le S (blks bk (· ∈ closeIds st.hp (EV.idsL (dropAt n args))))
  have hd := RepL_dropAt n hargs
  obtain ⟨x, ⟨R, hM, hR⟩, hA⟩ := decS_sound hF hle (S.tab.mono hle) ins _ _ _ hd (fun i hi => closeIds_mem hi) kk
  refine ⟨hM.1, ?_⟩
  have hunk := hent.unknown (by rw [hown]; intro q; cases q)
  have hid' : id ∉ closeIds st.hp (EV.idsL (dropAt n args)) := fun q => by
    rw [List.contains_iff_mem.2 q] at hid; cases hid
  have hunk' : ∀ b, k.blk = some b → ∀ o, frzM m w (blks bk (· ∈ closeIds st.hp (EV.idsL (dropAt n args)))) b o = none := by
    intro b hb o
    unfold frzM
    rw [if_neg]
    · exact hunk b hb o
    · rintro ⟨j, hj, hjb⟩
      exact hid' (S.apart j id b hjb (by rw [hk]; exact hb) ▸ hj)
  obtain ⟨u, hu, hru⟩ := RepL_get hargs hn
  have hus : insAt n u (dropAt n us) = us := dropAt_get n us u hu
  have hA' := RepL_insAt (hW u hru) n (RepL_comps _ (J [e] [k]) hA)
  rw [hus] at hA'
  refine (hM.2.2.2 _ w us k (S.tab.mono hle) (frzM_holds S _) (hin _ hM.2.1 hent hunk') hA').mono fun ex w' ⟨v, r, y, e1, e2, e3, e4, e5, e6⟩ => ?_
  obtain ⟨hok, hKK⟩ := hK r y (hR r y e2)
  refine ⟨v, e1, out.enc r, st.hp.set id (up y), m, bk.set id k, hKK, ?_, Rep_enc out _ ((flat_V out hM.2.2.1).2.2 _ _ e3)⟩
  have hlt := fun b (hb : k.blk = some b) => hent.lt hb
  refine S.update he hown hk ?_ e5.size (fun b hb hne => e6 b hb hne) (fun b hb => .inl hb) (fun ev u h => hJ y ev u hok h) (hout w' y hM.2.1 (fun b hb => (hlt b hb).1) hunk e4)
  refine S.below.trans ⟨e5.os, e5.tape, e5.output, e5.size, fun b hb => ?_⟩
  refine e6 b (Nat.lt_of_lt_of_le hb S.n0le) fun q => ?_
  have := (hlt b q).1
  omega

theorem callM_sound (S : Sat c m0 w0 fx m bk st a w) {f : FuncId} {n : Nat} {args : List EV} {us : List Value} {K : EV → List Ent → Prop} (hargs : RepL c.P m args (J st.hp bk) us) (kk : c.callM f n args st.hp K) :
    Callable c.P f ∧ Calls c.P f us.toArray w (fun e w' => ∃ u, e = .returned u ∧ Res c m0 w0 fx st a K u w') := by
  unfold Cfg.callM at kk
  split at kk
  · rename_i fn hf
    split at kk
    · rename_i ins outs hi ho
      obtain ⟨hb, kk⟩ := cond_true' kk
      simp only [Bool.and_eq_true] at hb
      split at kk
      · rename_i id ver hn
        rcases cond_spec kk with ⟨_, kk⟩ | ⟨hid, k1⟩
        · exact kk.elim
        · split at k1
          · rename_i v e s xs he
            obtain ⟨hv, k2⟩ := cond_true' k1
            have hv := beq_eq hv
            subst hv
            obtain ⟨k, hk, hent⟩ := S.ents id _ he
            cases k with
            | box b => exact hent.elim
            | row cv =>
              refine callMP_sound (e := .row .own 0 e s xs) S (wv := .row 0 0) (up := fun ys => .row .own v e s ys) (ok := fun ys => List.length ys = xs.length) hargs hn he hk rfl hb.2 hid ?_ ?_ ?_ ?_ (fun r y h => h) k2
              · intro u hu
                obtain ⟨md, v', e', s', xs', cv', h1, h2, h3, h4⟩ := hu
                rw [he] at h1; cases h1
                rw [hk] at h2; cases h2
                exact ⟨.own, 0, e, s, xs, cv, rfl, rfl, Nat.le_refl _, fun _ => h4 rfl⟩
              · intro m' hp h hm'
                exact SatEnt.plain (e := .row .own 0 e s xs) hp (fun _ _ => Nat.zero_le _) hm' (show SatEnt c.P m fx.n0 w (J st.hp bk) (.row .own 0 e s xs) (.row cv) from h)
              · intro w' y hp hnn hm h
                have := SatEnt.plain (m' := m) (n0' := fx.n0) (JJ' := J (st.hp.set id (.row .own v e s y)) (bk.set id (.row cv))) (Ent.plain_fill hp y) hnn hm h
                exact this
              · intro y ev u hl hJ
                exact J_set_row he hk hl ev u hJ
          · exact k1.elim
      · rename_i id hn
        rcases cond_spec kk with ⟨_, kk⟩ | ⟨hid, kk⟩
        · exact kk.elim
        · split at kk
          · rename_i cs he
            obtain ⟨k, hk, hent⟩ := S.ents id _ he
            cases k with
            | row cv => exact hent.elim
            | box b =>
              refine callMP_sound (e := .box .own cs) S (wv := .box 0 0) (up := fun y => .box .own (mkC cs y)) (ok := fun _ => True) hargs hn he hk rfl hb.2 hid ?_ ?_ ?_ ?_ (fun r y h => ⟨trivial, h⟩) kk
              · intro u hu
                obtain ⟨_, b', h1, _, h2, h3⟩ := hu
                rw [he] at h1; cases h1
                rw [hk] at h2; cases h2
                exact ⟨_, b, rfl, rfl, rfl, h3⟩
              · intro m' hp h hm'
                exact SatEnt.plain hp (fun _ _ => Nat.zero_le _) hm' h
              · intro w' y hp hnn hm h
                exact SatEnt.plain (Ent.plain_fill hp y) hnn hm h
              · intro y ev u _ hJ
                exact J_set_box he hk ev u hJ
          · exact kk.elim
      · exact kk.elim
    · exact kk.elim
  · exact kk.elim
end
end Go.Proofs.YtgeefhjlfdidmaaGreatDoor.V


/- Calls that are walked in their callee's own code. No condition of its own. -/
namespace Go.Proofs.YtgeefhjlfdidmaaGreatDoor.V
open Go Go.RowKit
set_option linter.unusedVariables false
set_option linter.unusedSimpArgs false

def retV : List EV → EV
  | [v] => v
  | vs => .tup vs

/-- A call, walked in the callee's code, over the caller's blocks. -/
def Cfg.inlK (c : Cfg) (f : FuncId) (args : List EV) (hp : List Ent) (K : EV → List Ent → Prop) : Prop :=
  match c.P.funcs[f]? with
  | some fn => match fn.body with
    | some b => cond (b.dsts'.all (fun d => Nat.blt d fn.ntmps) && !(fn.name == "runtime.NumGoroutine")) (c.vc b b.dsts' { env := fun i => (args[i]?).getD .bot, hp := hp } fun x st => match x with
      | .normal => c.resK st fn.results.toList fun vs => K (retV vs) st.hp
      | .ret => c.resK st fn.results.toList fun vs => K (retV vs) st.hp
      | .exit _ => False) False
    | none => False
  | none => False

theorem Sat.onBase {c c' : Cfg} (h : c'.toBase = c.toBase) {m0 : Mem} {w0 : World} {fx : Fx} {m : Mem} {bk : List Cn} {st : St} {a : Act} {w : World} (S : Sat c m0 w0 fx m bk st a w) : Sat c' m0 w0 fx m bk st a w := by
  obtain ⟨b, _, _, _, _⟩ := c
  obtain ⟨b', _, _, _, _⟩ := c'
  have h : b' = b := h
  subst h
  exact { hold := S.hold, tab := S.tab, ext := S.ext, below := S.below, len := S.len, ents := S.ents, apart := S.apart, env := S.env, defers := S.defers, fix := S.fix, gh := S.gh, base := S.base, keep := S.keep }

section
variable {c : Cfg} {m0 : Mem} {w0 : World} {fx : Fx} {m : Mem} {bk : List Cn} {st : St} {a : Act} {w : World}

theorem retV_rep {P : Program} {m : Mem} {JJ : EV → Value → Prop} {vs : List EV} {us : List Value} (h : RepL P m vs JJ us) : Rep P m (retV vs) JJ (if h : us.toArray.size = 1 then us.toArray[0] else .tuple us.toArray) := by
  have hl := RepL_length h
  match vs, us, h, hl with
  | [v], us, h, _ =>
    obtain ⟨u, us', rfl, h1, h2⟩ := RepL_cons.1 h
    rw [RepL_nil.1 h2]
    exact h1
  | [], us, h, _ => rw [RepL_nil.1 h]; exact ⟨[], rfl, RepL_nil.2 rfl⟩
  | v :: x :: r, us, h, hl =>
    have : ¬ us.toArray.size = 1 := by simp only [List.size_toArray]; simp at hl; omega
    rw [dif_neg this]
    exact ⟨us, rfl, h⟩

theorem results_run (S : Sat c m0 w0 fx m bk st a w) {fn : Func} {K : List EV → Prop} (k : c.resK st fn.results.toList K) :
    ∃ vs us, K vs ∧ RepL c.P m vs (J st.hp bk) us ∧ (results fn a.tmps).run c.P w = .ok (if h : us.toArray.size = 1 then us.toArray[0] else .tuple us.toArray) w := by
  obtain ⟨vs, us, h1, h2, h3⟩ := res_sound S _ k
  refine ⟨vs, us, h1, h2, ?_⟩
  have hm : (fn.results.mapM (resOf a.tmps)).run c.P w = .ok us.toArray w := by
    rw [Array.mapM_eq_mapM_toList]
    simp only [map_eq_pure_bind, Sem.run_bind, h3, Result.andThen_ok, Sem.run_pure]
  have he : results fn a.tmps = (do let vs ← fn.results.mapM (resOf a.tmps); pure (if h : vs.size = 1 then vs[0] else .tuple vs)) := by
    unfold results
    congr 1
  rw [he]
  simp only [Sem.run_bind, hm, Result.andThen_ok, Sem.run_pure]

theorem inl_own (H : HanOK c) (S : Sat c m0 w0 fx m bk st a w) {f : FuncId} {args : List EV} {us : List Value} {K : EV → List Ent → Prop} (hargs : RepL c.P m args (J st.hp bk) us) (k : c.inlK f args st.hp K) :
    Callable c.P f ∧ Calls c.P f us.toArray w (fun e w' => ∃ u, e = .returned u ∧ ∃ e2 hp2 m2 bk2, K e2 hp2 ∧ Mem.ext fx.n0 m m2 ∧ (∀ ev u, J st.hp bk ev u → J hp2 bk2 ev u) ∧ Rep c.P m2 e2 (J hp2 bk2) u ∧ Sat c m0 w0 fx m2 bk2 { st with hp := hp2 } a w') := by
  unfold Cfg.inlK at k
  split at k
  · rename_i fn hf
    split at k
    · rename_i b hb
      obtain ⟨hc, k⟩ := cond_true' k
      simp only [Bool.and_eq_true, Bool.not_eq_true'] at hc
      refine ⟨⟨fn, b, hf, hb, hc.2⟩, calls_of_wp hf hb ?_⟩
      have hsz : ∀ d ∈ b.dsts', d < (us.toArray ++ Array.replicate (fn.ntmps - us.toArray.size) undef).size := by
        intro d hd
        have := List.all_eq_true.1 hc.1 d hd
        have h1 : d < fn.ntmps := Nat.le_of_ble_eq_true this
        simp only [Array.size_append, Array.size_replicate, List.size_toArray]
        omega
      have S1 : Sat c m w0 { W := b.dsts', tmps := us.toArray ++ Array.replicate (fn.ntmps - us.toArray.size) undef, fe := fx.fe, gh := J st.hp bk, n0 := fx.n0, keep := fx.keep, dfr := [] } m bk { env := fun i => (args[i]?).getD .bot, hp := st.hp }
          { tmps := us.toArray ++ Array.replicate (fn.ntmps - us.toArray.size) undef, defers := [] } w := by
        refine { hold := S.hold, tab := S.tab, ext := Mem.ext_refl _ m, below := S.below, len := S.len, ents := S.ents, apart := S.apart, env := fun i => ?_, defers := rfl, fix := ⟨rfl, fun _ _ => rfl, hsz, S.fix.2.2.2⟩, gh := fun _ _ h => h, base := S.base, keep := S.keep }
        show Rep c.P m ((args[i]?).getD .bot) (J st.hp bk) ((us.toArray ++ Array.replicate (fn.ntmps - us.toArray.size) undef).getD i undef)
        cases hv : args[i]? with
        | none => trivial
        | some v =>
          obtain ⟨u, h1, h2⟩ := RepL_get hargs hv
          have hi := (List.getElem?_eq_some_iff.1 h1).1
          have : (us.toArray ++ Array.replicate (fn.ntmps - us.toArray.size) undef).getD i undef = u := by
            rw [Array.getD_eq_getD_getElem?, Array.getElem?_append_left (by simpa using hi)]
            simp [h1]
          show Rep c.P m v (J st.hp bk) ((us.toArray ++ Array.replicate (fn.ntmps - us.toArray.size) undef).getD i undef)
          rw [this]
          exact h2
      have fin : ∀ {st2 : St} {m2 : Mem} {bk2 : List Cn} {a2 : Act} {w2 : World}, c.resK st2 fn.results.toList (fun vs => K (retV vs) st2.hp) → Sat c m w0 { W := b.dsts', tmps := us.toArray ++ Array.replicate (fn.ntmps - us.toArray.size) undef, fe := fx.fe, gh := J st.hp bk, n0 := fx.n0, keep := fx.keep, dfr := [] } m2 bk2 st2 a2 w2 →
          a2.defers = [] ∧ ∃ v, (results fn a2.tmps).run c.P w2 = .ok v w2 ∧ ∃ u, Ending.returned v = .returned u ∧ ∃ e2 hp2 m2 bk2, K e2 hp2 ∧ Mem.ext fx.n0 m m2 ∧ (∀ ev u, J st.hp bk ev u → J hp2 bk2 ev u) ∧ Rep c.P m2 e2 (J hp2 bk2) u ∧ Sat c m0 w0 fx m2 bk2 { st with hp := hp2 } a w2 := by
        intro st2 m2 bk2 a2 w2 k2 S2
        obtain ⟨vs, us2, h1, h2, h3⟩ := results_run S2 k2
        refine ⟨S2.defers, _, h3, _, rfl, retV vs, st2.hp, m2, bk2, h1, S2.ext, S2.gh, retV_rep h2, ?_⟩
        exact { hold := S2.hold, tab := S2.tab, ext := Mem.ext_trans S.ext S2.ext, below := S2.below, len := S2.len, ents := S2.ents, apart := S2.apart, env := fun i => Rep_mono S2.ext.1 _ S2.gh (S.env i), defers := S.defers, fix := ⟨S.fix.1, S.fix.2.1, S.fix.2.2.1, S2.fix.2.2.2⟩, gh := fun e u h => S2.gh e u (S.gh e u h), base := S.base, keep := S2.keep }
      refine wp_mono (vc_sound H b S1 k) fun e a2 w2 h => ?_
      cases e with
      | normal => obtain ⟨st2, m2, bk2, k2, S2⟩ := h; exact fin k2 S2
      | ret => obtain ⟨st2, m2, bk2, k2, S2⟩ := h; exact fin k2 S2
      | exit id => obtain ⟨st2, m2, bk2, k2, S2⟩ := h; exact k2.elim
      | goto l => exact h.elim
      | panic ch => exact h.elim
      | outgrown => exact h.elim
    · exact k.elim
  · exact k.elim

theorem inlK_sound {c' : Cfg} (hc : c'.toBase = c.toBase) (H : HanOK c') (S : Sat c m0 w0 fx m bk st a w) {f : FuncId} {args : List EV} {us : List Value} {K : EV → List Ent → Prop} (hargs : RepL c.P m args (J st.hp bk) us) (k : c'.inlK f args st.hp K) :
    Callable c.P f ∧ Calls c.P f us.toArray w (fun e w' => ∃ u, e = .returned u ∧ Res c m0 w0 fx st a K u w') := by
  have hP : c'.P = c.P := congrArg Base.P hc
  have h := inl_own H (S.onBase hc) (f := f) (args := args) (us := us) (K := K) (by rw [hP]; exact hargs) k
  rw [hP] at h
  refine ⟨h.1, h.2.mono fun e w' ⟨u, h1, e2, hp2, m2, bk2, h2, h3, h4, h5, h6⟩ => ⟨u, h1, e2, hp2, m2, bk2, h2, h6.onBase hc.symm, h5⟩⟩
end

/-- A call that lays a new row without elements, with room. -/
def Base.growK (B : Base) (e : TypeId) (s : Shape) (args : List EV) (hp : List Ent) (K : EV → List Ent → Prop) : Prop :=
  match args with
  | [d, .p (.int .i64) n] => cond (isNil d) (chk ((0 : Int) ≤ n ∧ Int.toNat n * B.P.bytesOf e ≤ 140737488355328) (K (.row hp.length 0) (hp ++ [.row .own 0 e s []]))) False
  | _ => False

/-- What such a function does. -/
def FnGrow (B : Base) (f : FuncId) (e : TypeId) (s : Shape) : Prop :=
  Callable B.P f ∧ ∀ (n : Int) (w : World), 0 ≤ n → n.toNat * B.P.bytesOf e ≤ 140737488355328 → Calls B.P f #[.slice none 0 0, .int .i64 n] w fun x w' => ∃ cv, x = .returned cv ∧ w'.ownsRow w.heap.size e s.size cv 0 [] ∧ Below w.heap.size w w' ∧ ∀ b, cv.ownBlock = some b → w.heap.size ≤ b

theorem growK_sound {c : Cfg} {m0 : Mem} {w0 : World} {fx : Fx} {m : Mem} {bk : List Cn} {st : St} {a : Act} {w : World} (S : Sat c m0 w0 fx m bk st a w) {f : FuncId} {e : TypeId} {s : Shape} (hF : FnGrow c.toBase f e s) {args : List EV} {us : List Value} {K : EV → List Ent → Prop} (hargs : RepL c.P m args (J st.hp bk) us) (k : c.toBase.growK e s args st.hp K) :
    Callable c.P f ∧ Calls c.P f us.toArray w (fun e w' => ∃ u, e = .returned u ∧ Res c m0 w0 fx st a K u w') := by
  unfold Base.growK at k
  split at k
  · rename_i d n
    obtain ⟨hn, k⟩ := cond_true' k
    obtain ⟨⟨h0, h1⟩, k⟩ := k
    obtain ⟨u, us1, rfl, r1, r2⟩ := RepL_cons.1 hargs
    obtain ⟨u2, us2, rfl, r3, r4⟩ := RepL_cons.1 r2
    rw [RepL_nil.1 r4]
    have hd := isNil_spec r1 hn
    subst hd
    have hu2 : u2 = .int .i64 n := r3
    subst hu2
    refine ⟨hF.1, (hF.2 n w h0 h1).mono fun x w' ⟨cv, e1, e2, e3, e4⟩ => ⟨cv, e1, ?_⟩⟩
    have ho : w'.ownsRow fx.n0 e s.size cv ([] : List s.Val).length [] := by
      refine ⟨e2.1, ?_⟩
      rcases e2.2 with q | ⟨g, cap, cur, q1, q2, q3⟩
      · exact .inl q
      · exact .inr ⟨g, cap, cur, q1, Nat.le_trans S.n0le q2, q3⟩
    exact (new_row S (xs := []) (cs := []) e s (S.below.trans (e3.mono S.n0le)) (fun b hb => e3.block b hb) rfl ho e4 k e3.size).1
  · exact k.elim

mutual
theorem Rep_noIds {P : Program} {m : Mem} {JJ JJ' : EV → Value → Prop} : ∀ (v : EV) {u : Value}, v.ids = [] → Rep P m v JJ u → Rep P m v JJ' u
  | .bot, _, _, _ => trivial
  | .p _ _, _, _, k => k
  | .raw _, _, _, k => k
  | .nil _, _, _, k => k
  | .ip _ _, _, _, k => by obtain ⟨b, o, us, h⟩ := k; exact ⟨b, o, us, h⟩
  | .box _ _, _, h, _ => by simp [EV.ids] at h
  | .rp _ _ _ _, _, h, _ => by simp [EV.ids] at h
  | .row _ _, _, h, _ => by simp [EV.ids] at h
  | .agg cs, _, h, k => by obtain ⟨us, e1, e2⟩ := k; exact ⟨us, e1, RepL_noIds cs h e2⟩
  | .tup cs, _, h, k => by obtain ⟨us, e1, e2⟩ := k; exact ⟨us, e1, RepL_noIds cs h e2⟩
  | .clo _ a b, _, h, k => by
    obtain ⟨xs, ys, e1, e2, e3⟩ := k
    have h' := List.append_eq_nil_iff.1 (show EV.idsL a ++ EV.idsL b = [] from h)
    exact ⟨xs, ys, e1, RepL_noIds a h'.1 e2, RepL_noIds b h'.2 e3⟩
  | .ifc _ v, _, h, k => by obtain ⟨x, e1, e2⟩ := k; exact ⟨x, e1, Rep_noIds v h e2⟩
theorem RepL_noIds {P : Program} {m : Mem} {JJ JJ' : EV → Value → Prop} : ∀ (cs : List EV) {us : List Value}, EV.idsL cs = [] → RepL P m cs JJ us → RepL P m cs JJ' us
  | [], _, _, k => RepL_nil.2 (RepL_nil.1 k)
  | c :: r, _, h, k => by
    obtain ⟨u, us', e1, e2, e3⟩ := RepL_cons.1 k
    have h' := List.append_eq_nil_iff.1 (show EV.ids c ++ EV.idsL r = [] from h)
    exact RepL_cons.2 ⟨u, us', e1, Rep_noIds c h'.1 e2, RepL_noIds r h'.2 e3⟩
end

/-- A call at these very values, by a contract for them. -/
def callAP (B : Base) (f : FuncId) (args : List EV) (out : Shape) (K : out.Val → Prop) : Prop := ∃ R, FnE B f args out R ∧ ∀ r, R r → K r

def Base.callA (B : Base) (f : FuncId) (out : Shape) (args : List EV) (hp : List Ent) (K : EV → List Ent → Prop) : Prop :=
  cond (noIds (EV.idsL args)) (callAP B f args out fun r => K (out.enc r) hp) False

theorem callA_sound {c : Cfg} {m0 : Mem} {w0 : World} {fx : Fx} {m : Mem} {bk : List Cn} {st : St} {a : Act} {w : World} (S : Sat c m0 w0 fx m bk st a w) {f : FuncId} {out : Shape} {args : List EV} {us : List Value} {K : EV → List Ent → Prop} (hargs : RepL c.P m args (J st.hp bk) us) (k : c.toBase.callA f out args st.hp K) :
    Callable c.P f ∧ Calls c.P f us.toArray w (fun e w' => ∃ u, e = .returned u ∧ Res c m0 w0 fx st a K u w') := by
  unfold Base.callA at k
  obtain ⟨hb, R, ⟨hc, hF⟩, hR⟩ := cond_true' k
  have hb : EV.idsL args = [] := by
    unfold noIds at hb
    split at hb
    · assumption
    · cases hb
  refine ⟨hc, (hF m w us S.tab S.hold (RepL_noIds args hb hargs)).mono fun e w' ⟨v, m'', e1, e2, e3, e4, r, q1, q2⟩ => ?_⟩
  have S2 := S.world e2 e3 e4
  exact ⟨v, e1, _, st.hp, m'', bk, hR r q1, S2, Rep_enc out _ q2⟩

/-- Handlers of a list of functions: by a contract that may write one block; by the callee's own code; a new row. -/
inductive Han where
  | mut (n : Nat)
  | inl (c : Cfg)
  | grow (e : TypeId) (s : Shape)
  | raw (out : Shape)

def hanL (B : Base) : List (FuncId × Han) → FuncId → Option (List EV → List Ent → (EV → List Ent → Prop) → Prop)
  | [], _ => none
  | (g, .mut n) :: r, f => cond (Nat.beq g f) (some fun args hp K => Cfg.callM { toBase := B, lv := fun _ => ([], [], []), rows := [] } f n args hp K) (hanL B r f)
  | (g, .inl c) :: r, f => cond (Nat.beq g f) (some fun args hp K => c.inlK f args hp K) (hanL B r f)
  | (g, .grow e s) :: r, f => cond (Nat.beq g f) (some fun args hp K => B.growK e s args hp K) (hanL B r f)
  | (g, .raw out) :: r, f => cond (Nat.beq g f) (some fun args hp K => B.callA f out args hp K) (hanL B r f)

def hanGood (B : Base) : List (FuncId × Han) → Prop
  | [] => True
  | (_, .mut _) :: r => hanGood B r
  | (_, .inl c) :: r => c.toBase = B ∧ HanOK c ∧ hanGood B r
  | (g, .grow e s) :: r => FnGrow B g e s ∧ hanGood B r
  | (_, .raw _) :: r => hanGood B r

theorem hanL_ok {c : Cfg} : ∀ (l : List (FuncId × Han)), hanGood c.toBase l → ∀ {f : FuncId} {h : List EV → List Ent → (EV → List Ent → Prop) → Prop}, hanL c.toBase l f = some h → ∀ {m0 : Mem} {w0 : World} {fx : Fx} {m : Mem} {bk : List Cn} {st : St} {a : Act} {w : World}, Sat c m0 w0 fx m bk st a w →
    ∀ {args : List EV} {us : List Value} {K : EV → List Ent → Prop}, RepL c.P m args (J st.hp bk) us → h args st.hp K → Callable c.P f ∧ Calls c.P f us.toArray w (fun e w' => ∃ u, e = .returned u ∧ Res c m0 w0 fx st a K u w')
  | [], _, f, h, hh, m0, w0, fx, m, bk, st, a, w, S, args, us, K, hargs, k => by cases hh
  | (g, .mut n) :: r, hg, f, h, hh, m0, w0, fx, m, bk, st, a, w, S, args, us, K, hargs, k => by
    unfold hanL at hh
    cases hb : Nat.beq g f with
    | false => rw [hb] at hh; exact hanL_ok r hg hh S hargs k
    | true =>
      rw [hb] at hh
      cases hh
      have h := callM_sound (Sat.onBase (c' := { toBase := c.toBase, lv := fun _ => ([], [], []), rows := [] }) (c := c) rfl S) hargs k
      exact ⟨h.1, h.2.mono fun e w' ⟨u, h1, e2, hp2, m2, bk2, h2, h3, h4⟩ => ⟨u, h1, e2, hp2, m2, bk2, h2, Sat.onBase (c' := c) (c := { toBase := c.toBase, lv := fun _ => ([], [], []), rows := [] }) rfl h3, h4⟩⟩
  | (g, .inl c') :: r, hg, f, h, hh, m0, w0, fx, m, bk, st, a, w, S, args, us, K, hargs, k => by
    unfold hanL at hh
    cases hb : Nat.beq g f with
    | false => rw [hb] at hh; exact hanL_ok r hg.2.2 hh S hargs k
    | true =>
      rw [hb] at hh
      cases hh
      exact inlK_sound hg.1 hg.2.1 S hargs k
  | (g, .grow e s) :: r, hg, f, h, hh, m0, w0, fx, m, bk, st, a, w, S, args, us, K, hargs, k => by
    unfold hanL at hh
    cases hb : Nat.beq g f with
    | false => rw [hb] at hh; exact hanL_ok r hg.2 hh S hargs k
    | true =>
      rw [hb] at hh
      cases hh
      have := beq_eq hb
      subst this
      exact growK_sound S hg.1 hargs k
  | (g, .raw out) :: r, hg, f, h, hh, m0, w0, fx, m, bk, st, a, w, S, args, us, K, hargs, k => by
    unfold hanL at hh
    cases hb : Nat.beq g f with
    | false => rw [hb] at hh; exact hanL_ok r hg hh S hargs k
    | true =>
      rw [hb] at hh
      cases hh
      exact callA_sound S hargs k

theorem HanOK.ofList {c : Cfg} (l : List (FuncId × Han)) (h1 : c.han = hanL c.toBase l) (h2 : c.hni = fun _ => Option.none) (hg : hanGood c.toBase l) : HanOK c :=
  ⟨fun {f h} e => (by rw [h1] at e; exact fun {_ _ _ _ _ _ _ _} S {_ _ _} ha k => hanL_ok l hg e S ha k), fun {f h} e => (by rw [h2] at e; cases e)⟩
end Go.Proofs.YtgeefhjlfdidmaaGreatDoor.V


/- A round's body: what the condition says of it, it does in a round's frame. No condition of its own. -/
namespace Go.Proofs.YtgeefhjlfdidmaaGreatDoor.V
open Go Go.RowKit
set_option linter.unusedVariables false
set_option linter.unusedSimpArgs false

def noDefer : Op → Bool
  | .defer _ => false
  | _ => true

/-- Code that may be a round's body here: plain regions, no loops. -/
def _root_.Go.Code.rdOK : Code → Bool
  | .skip | .label _ | .ret | .exit _ => true
  | .region _ ops draw => !draw && ops.toList.all (fun o => noDefer o.op)
  | .seq a b => a.rdOK && b.rdOK
  | .cond _ a b => a.rdOK && b.rdOK
  | .block _ b => b.rdOK
  | _ => false

/-- An operation that is no defer goes in a round as anywhere. -/
theorem oper_in {P : Program} {o : Oper} {a : Act} {w : World} {next next' : Act → World → Prop} {Q : Exit → Act → World → Prop} (l n : Nat) (hd : noDefer o.op = true) (hn : ∀ a w, next a w → next' a w) (h : o.wp P a w next Q) : o.wpIn (Fence.wide.inRound l) n P a w next' Q := by
  refine ⟨fun _ _ => trivial, ?_⟩
  have hs : o.semAt (Fence.wide.inRound l).round a.eval = execOp a.eval o := Oper.semAt_some l _ o fun c e => by rw [e] at hd; cases hd
  rw [hs]
  unfold Oper.wp at h
  generalize (execOp a.eval o).run P w = r at h
  have ent : ∀ {f : FuncId} {args : Array Value} {w' : World}, Calls P f args w' (fun | .returned v, w'' => next (a.put o.dst v) w'' | .panicked chain, w'' => Q (.panic chain) a w'' | .outgrown, _ => LetsOut Q) →
      CallsIn (Fence.wide.inRound l) (n - 1) P f args w' (fun | .returned v, w'' => next' (a.put o.dst v) w'' | .panicked chain, w'' => Q (.panic chain) a w'' | .outgrown, _ => LetsOut Q) := fun h =>
    (callsIn_wide.2 (h.mono fun e w'' q => by cases e <;> first | exact hn _ _ q | exact q)).inRound l
  unfold Oper.upon at h
  split at h
  · exact hn _ _ h
  · exact hn _ _ h
  · exact hn _ _ h
  · exact ⟨fun q => (by cases q), ent h⟩
  · refine ⟨fun q => (by cases q), fun c cs _ => ?_⟩
    obtain ⟨v, w', r, s⟩ := h c cs
    exact ⟨v, w', hn _ _ r, stepsIn_wide.2 s⟩
  · exact h
  · exact h.elim

section
variable {c : Cfg} {m0 : Mem} {w0 : World} {fx : Fx}

theorem seq_sound_in (H : HanOK c) {ops : Array Oper} {K : Ex → St → Prop} (l n : Nat) : ∀ (q : List Oper) {m : Mem} {bk : List Cn} {st : St} {a : Act} {w : World}, q.all (fun o => noDefer o.op) = true → Sat c m0 w0 fx m bk st a w → c.seqK fx.W ops q st (K .normal) → wpListIn (Fence.wide.inRound l) n c.P ops (Post c m0 w0 fx K) q a w
  | [], m, bk, st, a, w, _, S, k => ⟨st, m, bk, k, S⟩
  | o :: r, m, bk, st, a, w, hq, S, k => by
    simp only [List.all_cons, Bool.and_eq_true] at hq
    unfold wpListIn
    rcases op_sound (Q := Post c m0 w0 fx K) H S (o := o) k (fun a' w' ⟨st', m', bk', k', S'⟩ _ => seq_sound_in H l n r hq.2 S' k') with ⟨h1, h2⟩ | ⟨h1, h2⟩
    · rw [if_pos h1]; exact oper_in l n hq.1 (fun _ _ h => h) h2
    · rw [if_neg (by rw [h1]; exact Bool.false_ne_true)]; exact ⟨fun _ _ => trivial, h2⟩

/-- THE CONDITION IS SOUND IN A ROUND. -/
theorem vc_sound_in (H : HanOK c) (l n : Nat) (b : Code) : ∀ {m : Mem} {bk : List Cn} {st : St} {a : Act} {w : World} {K : Ex → St → Prop}, b.rdOK = true → Sat c m0 w0 fx m bk st a w → c.vc b fx.W st K → b.wpIn (Fence.wide.inRound l) n c.P (Post c m0 w0 fx K) a w := by
  induction b with
  | skip => intro m bk st a w K _ S k; exact wpIn_skip ⟨st, m, bk, k, S⟩
  | label l => intro m bk st a w K _ S k; exact wpIn_label ⟨st, m, bk, k, S⟩
  | ret => intro m bk st a w K _ S k; exact wpIn_ret ⟨st, m, bk, k, S⟩
  | exit id => intro m bk st a w K _ S k; exact wpIn_exit ⟨st, m, bk, k, S⟩
  | region id ops draw =>
    intro m bk st a w K hr S k
    simp only [Code.rdOK, Bool.and_eq_true, Bool.not_eq_true'] at hr
    obtain ⟨hd, hr⟩ := hr
    subst hd
    exact wpIn_region_list (seq_sound_in H l n _ hr S k)
  | seq x y ihx ihy =>
    intro m bk st a w K hr S k
    simp only [Code.rdOK, Bool.and_eq_true] at hr
    refine wpIn_seq (wpIn_mono (ihx hr.1 S k) fun e a' w' h => ?_)
    cases e with
    | normal => obtain ⟨st2, m2, bk2, k2, S2⟩ := h; exact ihy hr.2 S2 k2
    | ret => exact h
    | exit id => exact h
    | goto l => exact h.elim
    | panic ch => exact h.elim
    | outgrown => exact h.elim
  | cond x p q ihp ihq =>
    intro m bk st a w K hr S k
    simp only [Code.rdOK, Bool.and_eq_true] at hr
    have hx := ev_sound S x
    unfold Cfg.vc at k
    split at k
    · rename_i z he
      rw [he] at hx
      have hz : a.eval x = .bool z := hx
      cases z with
      | true => exact wpIn_cond hz (ihp hr.1 S k)
      | false => exact wpIn_cond hz (ihq hr.2 S k)
    · exact k.elim
  | block id b ih =>
    intro m bk st a w K hr S k
    refine wpIn_block (wpIn_mono (ih hr S k) fun e a' w' h => ?_)
    cases e with
    | normal => exact h
    | ret => exact h
    | exit j =>
      show if j = id then _ else _
      by_cases hj : j = id
      · rw [if_pos hj]
        refine h.mono fun st k => ?_
        rcases cond_spec k with ⟨_, k⟩ | ⟨hb, _⟩
        · exact k
        · subst hj; rw [Nat.beq_refl] at hb; cases hb
      · rw [if_neg hj]
        refine h.mono fun st k => ?_
        rcases cond_spec k with ⟨hb, _⟩ | ⟨_, k⟩
        · exact absurd (beq_eq hb) hj
        · exact k
    | goto l => exact h.elim
    | panic ch => exact h.elim
    | outgrown => exact h.elim
  | _ => intro m bk st a w K hr S k; cases hr
end
end Go.Proofs.YtgeefhjlfdidmaaGreatDoor.V

