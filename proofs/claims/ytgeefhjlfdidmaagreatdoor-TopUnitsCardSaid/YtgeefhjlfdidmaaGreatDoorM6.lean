/- The calculus of the program's functions and their contracts, part 6. No condition of its own. -/
import Derived.Test.YtgeefhjlfdidmaaGreatDoorM5
import Derived.Laws.RangeString
import Derived.LoopN


/- A RUN: maps, iterators; every operation that makes or writes memory. No condition of its own. -/
namespace Go.Proofs.YtgeefhjlfdidmaaGreatDoor.V
open Go Go.RowKit
set_option linter.unusedVariables false
set_option linter.unusedSimpArgs false

section
variable {B : Base} {m0 : Mem} {w0 : World} {n0 : Nat} {dfr : List Deferred} {m : Mem} {bk : List Bk} {st : XS} {a : Act} {w : World}


/-- Of a block that is no row of cells nothing is known. -/
theorem SatM.noneAt {hp : List XO} (S : SatM B m0 w0 n0 m bk hp w) {b : Nat} {x : Obj} (h : w.heap[b]? = some x) (hx : ∀ c t f, x ≠ .cells c t f) (o : Nat) : m b o = none := by
  cases hm : m b o with
  | none => rfl
  | some v =>
    have := S.hold b o v hm
    unfold World.cell? at this
    rw [h] at this
    cases x <;> first | exact absurd rfl (hx _ _ _) | (cases this; done)

theorem SatM.setO {hp : List XO} (S : SatM B m0 w0 n0 m bk hp w) {i : Nat} {b : Bk} {x y : Obj} {z : XO} (hi : bk[i]? = some b) (hl : objX hp i ≠ .dead) (hn : n0 ≤ b.b) (h : w.heap[b.b]? = some x) (hx : ∀ c t f, x ≠ .cells c t f)
    (hz : SatO B.P m n0 (V.setO w b.b y) (JX B.P bk) b z) : SatM B m0 w0 n0 m bk (setX hp i z) (V.setO w b.b y) := by
  have hsame : ∀ c, c < w.heap.size → c ≠ b.b → (V.setO w b.b y).heap[c]? = w.heap[c]? := fun c _ hc => setO_other w b.b y c hc
  exact S.set hi hl (Below.of_same S.below rfl rfl rfl (by rw [setO_size]; exact Nat.le_refl _) fun k hk => setO_other w b.b y k (by omega)) (S.holds_of (fun o => S.noneAt h hx o) hsame) (by rw [setO_size]; exact Nat.le_refl _) hsame hz

theorem keyOf_spec {key : EV} {u kv : Value} (h : keyOf key = some kv) (hk : Rep B.P m key (JX B.P bk) u) : u = kv := by
  unfold keyOf at h
  split at h
  · cases h; exact hk
  · cases h; exact hk
  · cases h

theorem MapR_snoc {JJ : EV → Value → Prop} {v : EV} {u kv : Value} (hv : Rep B.P m v JJ u) : ∀ {es : List (Value × EV)} {l : List MapEntry} {e : MapEntry}, MapR B.P m JJ es l → e.key = kv → e.val = u → MapR B.P m JJ (es ++ [(kv, v)]) (l ++ [e])
  | [], l, e, h, h1, h2 => by
    rw [show l = [] from h]
    exact ⟨e, [], rfl, h1, by rw [h2]; exact hv, rfl⟩
  | q :: es, l, e, ⟨e', l', h1, h2, h3, h4⟩, k1, k2 => ⟨e', l' ++ [e], by rw [h1]; rfl, h2, h3, MapR_snoc hv h4 k1 k2⟩

theorem insertX_sound {hp hp' : List XO} (S : SatM B m0 w0 n0 m bk hp w) {t : TypeId} {x key v r : EV} {um uk uv : Value} (h : B.insertX hp t x key v = some (r, hp')) (hx : Rep B.P m x (JX B.P bk) um) (hk : Rep B.P m key (JX B.P bk) uk) (hv : Rep B.P m v (JX B.P bk) uv) :
    ∃ w', (Instr.mapUpdate t um uk uv).run B.P w = .ok () w' ∧ ResX B m0 w0 n0 m bk r hp' undef w' := by
  unfold Base.insertX at h
  split at h
  · rename_i k e i kv hm hkv
    have ht := mapT_spec hm
    split at h
    · rename_i es ho
      replace h := cond_some h
      obtain ⟨hb, h⟩ := h
      simp only [Bool.and_eq_true] at hb
      obtain ⟨hkt, hnew⟩ := hb
      cases h
      obtain ⟨b, hbk, hu0, _⟩ := hx
      have hu := hu0 rfl
      subst hu
      have hukv := keyOf_spec hkv hk
      have hO := (S.objs i b hbk)
      rw [ho] at hO
      obtain ⟨hlt, hn, arr, clock, h1, h2⟩ := hO
      cases hd : B.P.underlying k with
      | none => rw [hd] at hkt; cases key <;> simp [keyT] at hkt
      | some d =>
        rw [hd] at hkt
        have hck := run_checkKey (w := w) false hd hkt hk
        have hfx : findX key es = some none := by
          unfold newKey at hnew
          split at hnew
          · assumption
          · cases hnew
        have hfk : (Instr.findKey k uk arr.toList).run B.P w = .ok none w := by
          rcases findX_sound hkt hk es arr.toList 0 none h2 hfx with ⟨_, q⟩ | ⟨_, _, _, q, _⟩
          · simp [Instr.findKey, run_underlying hd, q]
          · cases q
        have hlive : objX hp i ≠ .dead := by rw [ho]; exact fun z => by cases z
        refine ⟨V.setO w b.b (.map (arr.push { key := uk, val := uv, born := clock }) (clock + 1)), ?_, m, bk, S.setO hbk hlive hn h1 (fun c t f z => by cases z) ?_, Mem.le_refl m, fun i c q => q, trivial⟩
        · simp only [Instr.mapUpdate, Sem.run_bind, run_underlying ht, Result.andThen_ok]
          rw [show (getObj b.b).run B.P w = .ok (.map arr clock) w by simp [getObj, Sem.run, h1]]
          simp only [Result.andThen_ok, hck, hfk, Sem.run_bind]
          simp [setObj, Sem.run, h1, V.setO]
        · refine ⟨hn, _, _, setO_at w b.b _ hlt, ?_⟩
          rw [Array.toList_push]
          exact MapR_snoc hv h2 hukv rfl
    · cases h
  · cases h

theorem nextX_sound {hp hp' : List XO} (S : SatM B m0 w0 n0 m bk hp w) {x r : EV} {u : Value} {ty : TypeId} (h : nextX hp x = some (r, hp')) (hx : Rep B.P m x (JX B.P bk) u) :
    ∃ q w', (Instr.next u true ty).run B.P w = .ok q w' ∧ ResX B m0 w0 n0 m bk r hp' q w' := by
  unfold nextX at h
  split at h
  · rename_i i
    split at h
    · rename_i s pos ho
      obtain ⟨b, hbk, _, hu1⟩ := hx
      have hu := hu1 rfl
      subst hu
      have hO := (S.objs i b hbk)
      rw [ho] at hO
      obtain ⟨hlt, hn, h1⟩ := hO
      have hget : (getObj b.b).run B.P w = .ok (.stringIter s pos) w := by simp [getObj, Sem.run, h1]
      have hlive : objX hp i ≠ .dead := by rw [ho]; exact fun z => by cases z
      cases hp0 : Nat.blt pos s.size with
      | true =>
        rw [hp0] at h
        simp only [cond_true] at h
        replace h := cond_some h
        obtain ⟨hc, h⟩ := h
        have hpos := blt_lt hp0
        have hc := blt_lt hc
        cases h
        have hbyte : byteX s pos = (s[pos]'hpos).toNat := by
          unfold byteX
          have hd : pos < s.data.toList.length := by simpa using hpos
          rw [List.getD_eq_getElem?_getD, List.getElem?_map, List.getElem?_eq_getElem hd]
          rfl
        have hdec := decode_ascii s pos hpos (by rw [← hbyte]; exact hc)
        refine ⟨.tuple #[.bool true, .int .i64 (pos : Int), .int .i32 ((byteX s pos : Nat) : Int)], V.setO w b.b (.stringIter s (pos + 1)), ?_, m, bk, S.setO hbk hlive hn h1 (fun c t f z => by cases z) ⟨hn, setO_at w b.b _ hlt⟩, Mem.le_refl m, fun i c q => q, ?_⟩
        · simp only [Instr.next, Sem.run_bind, hget, Result.andThen_ok, if_pos hpos, hdec]
          rw [hbyte]
          simp [setObj, Sem.run, h1, V.setO, goInt]
        · exact ⟨_, rfl, RepL_cons.2 ⟨_, _, rfl, rfl, RepL_cons.2 ⟨_, _, rfl, rfl, RepL_cons.2 ⟨_, _, rfl, rfl, RepL_nil.2 rfl⟩⟩⟩⟩
      | false =>
        rw [hp0] at h
        simp only [cond_false] at h
        cases h
        have hpos : ¬ pos < s.size := fun q => by rw [show Nat.blt pos s.size = true from Nat.ble_eq_true_of_le q] at hp0; cases hp0
        refine ⟨.tuple #[.bool false], w, ?_, m, bk, S, Mem.le_refl m, fun i c q => q, ⟨_, rfl, RepL_cons.2 ⟨_, _, rfl, rfl, RepL_nil.2 rfl⟩⟩⟩
        simp only [Instr.next, Sem.run_bind, hget, Result.andThen_ok, if_neg hpos, Sem.run_pure]
    · cases h
  · cases h

/-- An operation that makes or writes memory: value or none. -/
theorem loudX_sound (S : SatX B m0 w0 n0 dfr m bk st a w) (o : Oper) {v : EV} {hp' : List XO} (h : B.loudX st.env st.hp o.op = some (v, hp')) {next : Act → World → Prop} {Q : Exit → Act → World → Prop}
    (hn : ∀ u w', ResX B m0 w0 n0 m bk v hp' u w' → (B.isHardX o.op = false → Kept w w') → next (a.put o.dst u) w') : o.wp B.P a w next Q := by
  obtain ⟨dst, op, type, pos, after, guard⟩ := o
  dsimp only at hn h
  have val : ∀ {s : Sem Value}, (∃ u w', s.run B.P w = .ok u w' ∧ ResX B m0 w0 n0 m bk v hp' u w' ∧ (B.isHardX op = false → Kept w w')) → (do pure (.value (← s)) : Sem Next) = execOp a.eval ⟨dst, op, type, pos, after, guard⟩ → Oper.wp B.P ⟨dst, op, type, pos, after, guard⟩ a w next Q := by
    intro s ⟨u, w', h1, h2, h3⟩ he
    unfold Oper.wp
    rw [← he]
    simp only [Sem.run_bind, h1, Result.andThen_ok, Sem.run_pure, Oper.upon_value]
    exact hn u w' h2 h3
  have soft : ∀ {s : Sem Value}, (∃ u w', s.run B.P w = .ok u w' ∧ ResX B m0 w0 n0 m bk v hp' u w' ∧ Kept w w') → ∃ u w', s.run B.P w = .ok u w' ∧ ResX B m0 w0 n0 m bk v hp' u w' ∧ (B.isHardX op = false → Kept w w') := fun ⟨u, w', h1, h2, h3⟩ => ⟨u, w', h1, h2, fun _ => h3⟩
  have hard : B.isHardX op = true → ∀ {s : Sem Value}, (∃ u w', s.run B.P w = .ok u w' ∧ ResX B m0 w0 n0 m bk v hp' u w') → ∃ u w', s.run B.P w = .ok u w' ∧ ResX B m0 w0 n0 m bk v hp' u w' ∧ (B.isHardX op = false → Kept w w') := fun e _ ⟨u, w', h1, h2⟩ => ⟨u, w', h1, h2, fun q => (by rw [e] at q; cases q)⟩
  have unit : B.isHardX op = true → ∀ {s : Sem Unit}, (∃ w', s.run B.P w = .ok () w' ∧ ResX B m0 w0 n0 m bk v hp' undef w') → (do s; pure .skip : Sem Next) = execOp a.eval ⟨dst, op, type, pos, after, guard⟩ → Oper.wp B.P ⟨dst, op, type, pos, after, guard⟩ a w next Q := by
    intro e s ⟨w', h1, h2⟩ he
    unfold Oper.wp
    rw [← he]
    simp only [Sem.run_bind, h1, Result.andThen_ok, Sem.run_pure, Oper.upon_skip]
    exact hn undef w' h2 (fun q => (by rw [e] at q; cases q))
  cases op with
  | alloc t =>
    obtain ⟨z, hz, e⟩ := map_some' (show (B.zeroX t).map _ = some (v, hp') from h)
    cases e
    exact val (soft (allocX_sound S.mem hz)) rfl
  | box t x =>
    obtain ⟨h1, e⟩ := cond_some (show cond (oneX (B.xev st.env x)) _ none = some (v, hp') from h)
    cases e
    exact val (soft (boxX_sound S.mem (xev_sound S.env x) h1)) rfl
  | buildSlice t n parts =>
    simp only [Base.loudX] at h
    split at h
    · rename_i e he
      replace h := cond_some h
      obtain ⟨hb, h⟩ := h
      simp only [Bool.and_eq_true] at hb
      obtain ⟨⟨⟨⟨⟨h1, h2⟩, h3⟩, h4⟩, h5⟩, h6⟩ := hb
      cases h
      exact val (soft (buildSliceX_sound S (sliceT_spec he) h5 (ble_le h3) h1 (beq_eq h2) (ble_le h4) (by simpa using h6))) rfl
    · cases h
  | store t x y => exact unit rfl (storeX_sound S.mem h (xev_sound S.env x) (xev_sound S.env y)) rfl
  | makeMap t r =>
    cases r with
    | none =>
      cases h
      refine val (s := Instr.makeMap t none) ⟨.map (some w.heap.size), w.alloc (.map #[] 0), ?_, ⟨m, _, S.mem.alloc (q := ⟨w.heap.size, 0, 0⟩) _ rfl ⟨S.mem.n0le, #[], 0, heap_alloc_at w _, rfl⟩, Mem.le_refl m, fun i c q => bk_snoc i c q, ?_⟩, fun _ => Kept.of_alloc _ _⟩ rfl
      · simp [Instr.makeMap]
      · rw [← S.mem.len]; exact ⟨_, bk_last _, fun _ => rfl, fun z => (by cases z)⟩
    | some q => cases h
  | insert t mm k x => exact unit rfl (insertX_sound S.mem h (xev_sound S.env mm) (xev_sound S.env k) (xev_sound S.env x)) rfl
  | mapUpdate t mm k x => exact unit rfl (insertX_sound S.mem h (xev_sound S.env mm) (xev_sound S.env k) (xev_sound S.env x)) rfl
  | range t x =>
    have hx := xev_sound S.env x
    simp only [Base.loudX] at h
    replace h := cond_some h
    obtain ⟨ht, h⟩ := h
    have ht := isStrT_spec ht
    split at h
    · rename_i s he
      rw [he] at hx
      have hx : a.eval x = .string s := hx
      cases h
      refine val (s := Instr.range t (a.eval x)) ⟨.pointer (some ⟨w.heap.size, 0, none⟩), w.alloc (.stringIter s 0), ?_, ⟨m, _, S.mem.alloc (q := ⟨w.heap.size, 0, 0⟩) _ rfl ⟨S.mem.n0le, heap_alloc_at w _⟩, Mem.le_refl m, fun i c q => bk_snoc i c q, ?_⟩, fun _ => Kept.of_alloc _ _⟩ rfl
      · simp [Instr.range, run_underlying ht, hx]
      · rw [← S.mem.len]; exact ⟨_, bk_last _, fun z => (by cases z), fun _ => rfl⟩
    · cases h
  | next it b =>
    cases b with
    | true => exact val (hard rfl (nextX_sound S.mem h (xev_sound S.env it))) rfl
    | false => cases h
  | call cl =>
    obtain ⟨callee, args, argTypes⟩ := cl
    cases callee with
    | value f => cases h
    | invoke r nm => cases h
    | builtin b =>
      have hargs := xevs_sound S.env args.toList
      have hmap0 : args.map a.eval = (args.toList.map a.eval).toArray := map_toArray _ _
      cases b <;> first | (cases h; done) | skip
      · simp only [Base.loudX] at h
        split at h
        · rename_i d x t t' he1 he2
          rw [he1] at hargs
          obtain ⟨ud, us1, e1, rd, r1⟩ := RepL_cons.1 hargs
          obtain ⟨ux, us2, e2, rx, r2⟩ := RepL_cons.1 r1
          rw [RepL_nil.1 r2] at e2
          subst e2
          have hat : argTypes = #[t, t'] := by
            have := congrArg List.toArray he2
            simpa using this
          have hmap : args.map a.eval = #[ud, ux] := by rw [map_toArray, e1]
          split at h
          · rename_i e he
            cases htt : Nat.beq t t' with
            | true =>
              rw [htt] at h
              have htt := beq_eq htt
              subst htt
              have hr := appendX_sound (ty := type) S.mem (sliceT_spec he) (show B.appendX st.hp e d x = some (v, hp') from h) rd rx
              refine val (hard rfl hr) ?_
              simp [execOp, resolve, invoke, builtin, hmap, hat]
            | false =>
              rw [htt] at h
              obtain ⟨hs, h⟩ := cond_some (show cond (isStrT (B.P.underlying t')) (B.appStrX st.hp e d x) none = some (v, hp') from h)
              have hr := appStrX_sound (ty := type) S.mem (sliceT_spec he) (isStrT_spec hs) h rd rx
              refine val (hard rfl hr) ?_
              simp [execOp, resolve, invoke, builtin, hmap, hat]
          · cases h
        · cases h
      · simp only [Base.loudX] at h
        split at h
        · rename_i x n he1
          rw [he1] at hargs
          obtain ⟨ux, us1, e1, rx, r1⟩ := RepL_cons.1 hargs
          obtain ⟨un, us2, e2, rn, r2⟩ := RepL_cons.1 r1
          rw [RepL_nil.1 r2] at e2
          subst e2
          have hmap : args.map a.eval = #[ux, un] := by rw [map_toArray, e1]
          have hr := unsafeStrX_sound (ty := type) S.mem h rx rn
          refine val (hard rfl hr) ?_
          simp [execOp, resolve, invoke, builtin, hmap]
        · cases h
  | makeSlice t n k => exact val (soft (makeSliceX_sound S.mem h (xev_sound S.env n) (xev_sound S.env k))) rfl
  | convert q d x =>
    obtain ⟨u, h1, h2⟩ := convX_sound S.mem h (xev_sound S.env x)
    exact val ⟨u, w, h1, h2, fun _ => .refl w⟩ rfl
  | _ => cases h
end
end Go.Proofs.YtgeefhjlfdidmaaGreatDoor.V


/- A RUN: two states that are told to be one are one. No condition of its own. -/
namespace Go.Proofs.YtgeefhjlfdidmaaGreatDoor.V
open Go Go.RowKit
set_option linter.unusedVariables false
set_option linter.unusedSimpArgs false

theorem eqVL_sound {α : Type} {f : α → α → Bool} (hf : ∀ a b, f a b = true → a = b) : ∀ (a b : List α), eqV.eqVL f a b = true → a = b
  | [], [], _ => rfl
  | [], _ :: _, h => by simp [eqV.eqVL] at h
  | _ :: _, [], h => by simp [eqV.eqVL] at h
  | x :: a, y :: b, h => by
    simp only [eqV.eqVL, Bool.and_eq_true] at h
    rw [hf x y h.1, eqVL_sound hf a b h.2]

theorem eqV_sound : ∀ (s : Shape) (a b : s.Val), eqV s a b = true → a = b
  | .bool, a, b, h => of_decide_eq_true h
  | .int _, a, b, h => of_decide_eq_true h
  | .slice s, a, b, h => eqVL_sound (eqV_sound s) a b h
  | .st f, a, b, h => eqV_sound f a b h
  | .unit, _, _, _ => rfl
  | .pair x y, a, b, h => by
    simp only [eqV, Bool.and_eq_true] at h
    exact Prod.ext (eqV_sound x _ _ h.1) (eqV_sound y _ _ h.2)
  | .tup _, _, _, h => by simp [eqV] at h
  | .func _ _, _, _, h => by simp [eqV] at h
  | .iface _, _, _, h => by simp [eqV] at h
  | .one _ _, _, _, h => by simp [eqV] at h
  | .alt _ _ _, _, _, h => by simp [eqV] at h

theorem eqRaw_sound {a b : Value} (h : eqRaw a b = true) : a = b := by
  unfold eqRaw at h
  split at h <;> first | rfl | (cases h; done) | skip
  · rw [eqS_spec.1 h]
  · rename_i x y
    simp only [Bool.and_eq_true, List.isEmpty_iff] at h
    have h1 : x = #[] := by cases x; simp_all
    have h2 : y = #[] := by cases y; simp_all
    rw [h1, h2]

theorem eqFn_sound {a b : Fn} (h : eqFn a b = true) : a = b := by
  unfold eqFn at h
  split at h
  · rw [beq_eq h]
  · cases h

mutual
theorem eqE_sound : ∀ (a b : EV), eqE a b = true → a = b
  | .bot, b, h => by cases b <;> first | rfl | (simp [eqE] at h; done)
  | .p s x, b, h => by
    cases b <;> first | (simp [eqE] at h; done) | skip
    rename_i t y
    simp only [eqE] at h
    split at h
    · rename_i e; subst e
      rw [eqV_sound s x y h]
    · cases h
  | .raw u, b, h => by
    cases b <;> first | (simp [eqE] at h; done) | skip
    simp only [eqE] at h
    rw [eqRaw_sound h]
  | .box i o, b, h => by
    cases b <;> first | (simp [eqE] at h; done) | skip
    simp only [eqE, Bool.and_eq_true] at h
    rw [beq_eq h.1, beq_eq h.2]
  | .rp i n c o, b, h => by
    cases b <;> first | (simp [eqE] at h; done) | skip
    simp only [eqE, Bool.and_eq_true] at h
    rw [beq_eq h.1.1.1, beq_eq h.1.1.2, beq_eq h.1.2, beq_eq h.2]
  | .row i n, b, h => by
    cases b <;> first | (simp [eqE] at h; done) | skip
    simp only [eqE, Bool.and_eq_true] at h
    rw [beq_eq h.1, beq_eq h.2]
  | .agg a, b, h => by
    cases b <;> first | (simp [eqE] at h; done) | skip
    simp only [eqE] at h
    rw [eqEL_sound _ _ h]
  | .tup a, b, h => by
    cases b <;> first | (simp [eqE] at h; done) | skip
    simp only [eqE] at h
    rw [eqEL_sound _ _ h]
  | .clo f a c, b, h => by
    cases b <;> first | (simp [eqE] at h; done) | skip
    simp only [eqE, Bool.and_eq_true] at h
    rw [eqFn_sound h.1.1, eqEL_sound _ _ h.1.2, eqEL_sound _ _ h.2]
  | .ifc t v, b, h => by
    cases b <;> first | (simp [eqE] at h; done) | skip
    simp only [eqE, Bool.and_eq_true] at h
    rw [beq_eq h.1, eqE_sound _ _ h.2]
  | .ip a o, b, h => by
    cases b <;> first | (simp [eqE] at h; done) | skip
    simp only [eqE, Bool.and_eq_true] at h
    rw [eqEL_sound _ _ h.1, beq_eq h.2]
  | .nil s, b, h => by cases b <;> (simp [eqE] at h)
theorem eqEL_sound : ∀ (a b : List EV), eqEL a b = true → a = b
  | [], b, h => by cases b <;> first | rfl | (simp [eqEL] at h; done)
  | x :: a, b, h => by
    cases b <;> first | (simp [eqEL] at h; done) | skip
    simp only [eqEL, Bool.and_eq_true] at h
    rw [eqE_sound _ _ h.1, eqEL_sound _ _ h.2]
end

theorem xcst_inj {k l : Value} (h : eqE (xcst k) (xcst l) = true) : k = l := by
  have h1 := eqE_sound _ _ h
  cases k <;> cases l <;> simp only [xcst] at h1 <;> first
    | (cases h1; rfl)
    | (injection h1; done)
    | cases h1

theorem eqML_sound : ∀ (a b : List (Value × EV)), eqML a b = true → a = b
  | [], b, h => by cases b <;> first | rfl | (simp [eqML] at h; done)
  | (k, x) :: a, b, h => by
    cases b with
    | nil => simp [eqML] at h
    | cons q b =>
      obtain ⟨l, y⟩ := q
      simp only [eqML, Bool.and_eq_true] at h
      rw [xcst_inj h.1.1, eqE_sound _ _ h.1.2, eqML_sound _ _ h.2]

theorem eqO_sound {a b : XO} (h : eqO a b = true) : a = b := by
  unfold eqO at h
  split at h
  · simp only [Bool.and_eq_true] at h
    rw [beq_eq h.1, eqEL_sound _ _ h.2]
  · rw [eqML_sound _ _ h]
  · rw [eqEL_sound _ _ h]
  · simp only [Bool.and_eq_true] at h
    rw [eqS_spec.1 h.1, beq_eq h.2]
  · rfl
  · cases h

theorem eqOL_sound : ∀ (a b : List XO), eqOL a b = true → a = b
  | [], b, h => by cases b <;> first | rfl | (simp [eqOL] at h; done)
  | x :: a, b, h => by
    cases b <;> first | (simp [eqOL] at h; done) | skip
    simp only [eqOL, Bool.and_eq_true] at h
    rw [eqO_sound h.1, eqOL_sound _ _ h.2]

theorem eqXS_sound {a b : XS} (h : eqXS a b = true) : a = b := by
  unfold eqXS at h
  simp only [Bool.and_eq_true] at h
  obtain ⟨e1, p1⟩ := a
  obtain ⟨e2, p2⟩ := b
  rw [show e1 = e2 from eqEL_sound _ _ h.1, show p1 = p2 from eqOL_sound _ _ h.2]
end Go.Proofs.YtgeefhjlfdidmaaGreatDoor.V


/- A RUN IS SOUND: what the executor comes to, the model does. No condition of its own but that of what is told of functions that are not run. -/
namespace Go.Proofs.YtgeefhjlfdidmaaGreatDoor.V
open Go Go.RowKit
set_option linter.unusedVariables false
set_option linter.unusedSimpArgs false

/-- A state that is reached: more is known, no block was given up. -/
def RchX (B : Base) (m0 : Mem) (w0 : World) (n0 : Nat) (dfr : List Deferred) (m : Mem) (bk : List Bk) (st : XS) (a : Act) (w : World) : Prop :=
  ∃ m' bk', SatX B m0 w0 n0 dfr m' bk' st a w ∧ m.le m' ∧ ∀ (i : Nat) b, bk[i]? = some b → bk'[i]? = some b

def PX (B : Base) (m0 : Mem) (w0 : World) (n0 : Nat) (dfr : List Deferred) (m : Mem) (bk : List Bk) (ex : XE) (st : XS) : Exit → Act → World → Prop
  | .normal, a, w => ex = .normal ∧ RchX B m0 w0 n0 dfr m bk st a w
  | .ret, a, w => ex = .ret ∧ RchX B m0 w0 n0 dfr m bk st a w
  | .exit id, a, w => ex = .exit id ∧ RchX B m0 w0 n0 dfr m bk st a w
  | _, _, _ => False

/-- What a call comes to. -/
def CallX (B : Base) (m0 : Mem) (w0 : World) (n0 : Nat) (m : Mem) (bk : List Bk) (f : FuncId) (us : List Value) (w : World) (v : EV) (hp : List XO) : Prop :=
  (∃ u w', (callFunc f us.toArray).run B.P w = .ok (.value u) w' ∧ ResX B m0 w0 n0 m bk v hp u w') ∨
  (Callable B.P f ∧ Calls B.P f us.toArray w fun e w' => ∃ u, e = .returned u ∧ ResX B m0 w0 n0 m bk v hp u w')

/-- What is told of functions is so. -/
def HkOK (B : Base) (hk : Hooks) : Prop :=
  ∀ (f : FuncId) (args : List EV) (hp : List XO) (v : EV) (hp' : List XO), hk f args hp = some (v, hp') →
    ∀ (m0 : Mem) (w0 : World) (n0 : Nat) (m : Mem) (bk : List Bk) (w : World) (us : List Value), SatM B m0 w0 n0 m bk hp w → RepL B.P m args (JX B.P bk) us → CallX B m0 w0 n0 m bk f us w v hp'

section
variable {B : Base} {m0 : Mem} {w0 : World} {n0 : Nat} {dfr : List Deferred} {m : Mem} {bk : List Bk} {st : XS} {a : Act} {w : World}

theorem RchX.refl (S : SatX B m0 w0 n0 dfr m bk st a w) : RchX B m0 w0 n0 dfr m bk st a w := ⟨m, bk, S, Mem.le_refl m, fun _ _ h => h⟩

theorem RchX.back {m1 : Mem} {bk1 : List Bk} (h : RchX B m0 w0 n0 dfr m1 bk1 st a w) (h1 : m.le m1) (h2 : ∀ (i : Nat) b, bk[i]? = some b → bk1[i]? = some b) : RchX B m0 w0 n0 dfr m bk st a w := by
  obtain ⟨m', bk', S, e1, e2⟩ := h
  exact ⟨m', bk', S, fun b o v k => e1 b o v (h1 b o v k), fun i b k => e2 i b (h2 i b k)⟩

theorem PX.back {m1 : Mem} {bk1 : List Bk} {ex : XE} {e : Exit} (h : PX B m0 w0 n0 dfr m1 bk1 ex st e a w) (h1 : m.le m1) (h2 : ∀ (i : Nat) b, bk[i]? = some b → bk1[i]? = some b) : PX B m0 w0 n0 dfr m bk ex st e a w := by
  cases e <;> first | exact h.elim | exact ⟨h.1, h.2.back h1 h2⟩

theorem at0_set (env : List EV) (d : Nat) (v : EV) (i : Nat) (hd : d < env.length) : at0 (setAt env d v) i = if i = d then v else at0 env i := by
  rw [at0_eq, at0_eq, setAt_get]
  by_cases h : i = d
  · rw [if_pos ⟨h, hd⟩, if_pos h]; rfl
  · rw [if_neg (fun q => h q.1), if_neg h]

theorem SatX.put0 {m' : Mem} {bk' : List Bk} {hp' : List XO} {w' : World} {v : EV} {u : Value} (S : SatX B m0 w0 n0 dfr m bk st a w) {d : Option Nat} (hd : okDstX st.env d = true) (M : SatM B m0 w0 n0 m' bk' hp' w') (hm : m.le m') (hb : ∀ (i : Nat) b, bk[i]? = some b → bk'[i]? = some b) (hu : Rep B.P m' v (JX B.P bk') u) :
    SatX B m0 w0 n0 dfr m' bk' { env := putX st.env d v, hp := hp' } (a.put d u) w' := by
  have henv : ∀ i, Rep B.P m' (at0 st.env i) (JX B.P bk') (a.tmps.getD i undef) := fun i => Rep_mono hm _ (JX_mono hb) (S.env i)
  cases d with
  | none => exact ⟨M, henv, S.elen, S.defers⟩
  | some d =>
    have hlt : d < st.env.length := Nat.le_of_ble_eq_true (show Nat.blt d st.env.length = true from hd)
    refine ⟨M, fun i => ?_, ?_, S.defers⟩
    · show Rep B.P m' (at0 (setAt st.env d v) i) (JX B.P bk') ((a.tmps.setIfInBounds d u).getD i undef)
      rw [at0_set _ _ _ _ hlt]
      have hlt' : d < a.tmps.size := by rw [S.elen]; exact hlt
      by_cases h : i = d
      · subst h
        rw [if_pos rfl]
        have : (a.tmps.setIfInBounds i u).getD i undef = u := by simp [Array.getD_eq_getD_getElem?, hlt']
        rw [this]; exact hu
      · rw [if_neg h]
        have : (a.tmps.setIfInBounds d u).getD i undef = a.tmps.getD i undef := by
          simp only [Array.getD_eq_getD_getElem?]
          rw [Array.getElem?_setIfInBounds_ne (fun q => h q.symm)]
        rw [this]; exact henv i
    · show (a.tmps.setIfInBounds d u).size = (setAt st.env d v).length
      rw [Array.size_setIfInBounds, setAt_length]; exact S.elen

theorem SatX.put (S : SatX B m0 w0 n0 dfr m bk st a w) {d : Option Nat} (hd : okDstX st.env d = true) {v : EV} {u : Value} (hu : Rep B.P m v (JX B.P bk) u) : SatX B m0 w0 n0 dfr m bk { st with env := putX st.env d v } (a.put d u) w :=
  S.put0 hd S.mem (Mem.le_refl m) (fun _ _ h => h) hu

theorem SatX.res {w' : World} {hp' : List XO} {v : EV} {u : Value} (S : SatX B m0 w0 n0 dfr m bk st a w) {d : Option Nat} (hd : okDstX st.env d = true) (R : ResX B m0 w0 n0 m bk v hp' u w') : RchX B m0 w0 n0 dfr m bk { env := putX st.env d v, hp := hp' } (a.put d u) w' := by
  obtain ⟨m', bk', M, h1, h2, h3⟩ := R
  exact ⟨m', bk', S.put0 hd M h1 h2 h3, h1, h2⟩

theorem SatM.drew {hp : List XO} (S : SatM B m0 w0 n0 m bk hp w) : SatM B m0 w0 n0 m bk hp w.drew :=
  { S with hold := fun b o v h => S.hold b o v h, below := S.below.drew, objs := fun i q h => ⟨(S.objs i q h).1, SatO.mono (Mem.le_refl m) (fun _ k => k) rfl (fun _ _ k => k) (S.objs i q h).2⟩ }

/-- An operation's guard. -/
theorem wantX_sound (S : EnvX B m bk st.env a) {ops : Array Oper} {o : Oper} {b : Bool} (h : wantX st.env ops o = some b) : Region.wanted o (yielded ops a.tmps) = b := by
  unfold wantX at h
  unfold Region.wanted
  split at h
  · rename_i hg; rw [hg]; cases h; rfl
  · rename_i j want hg
    rw [hg]
    dsimp only
    split at h
    · rename_i d hj
      have henv := S d
      split at h
      · rename_i x he
        rw [he] at henv
        have hv : a.tmps.getD d undef = .bool x := henv
        have hget : a.tmps[d]? = some (.bool x) := by
          rw [Array.getD_eq_getD_getElem?] at hv
          cases hq : a.tmps[d]? with
          | none => rw [hq] at hv; cases hv
          | some v => rw [hq] at hv; exact congrArg some hv
        have hy : yielded ops a.tmps j = some x := by
          unfold yielded
          rw [hj]
          simp only [Option.bind_some, hget]
        rw [hy]
        cases h
        cases x <;> cases want <;> rfl
      · rename_i q he
        rw [he] at henv
        have hv : a.tmps.getD d undef = .tuple q := henv
        have hy : yielded ops a.tmps j = none := by
          unfold yielded
          rw [hj]
          simp only [Option.bind_some]
          rw [Array.getD_eq_getD_getElem?] at hv
          cases hq : a.tmps[d]? with
          | none => rfl
          | some v => rw [hq] at hv; simp only [Option.getD_some] at hv; subst hv; rfl
        rw [hy]
        cases h
        rfl
      · cases h
    · cases h

/-- What is so of a run so many steps deep. -/
structure RunOK (B : Base) (hk : Hooks) (n : Nat) : Prop where
  run : ∀ (c : Code) (st : XS) (ex : XE) (st' : XS), B.xrun hk n c st = some (ex, st') → ∀ (m0 : Mem) (w0 : World) (n0 : Nat) (dfr : List Deferred) (m : Mem) (bk : List Bk) (a : Act) (w : World), SatX B m0 w0 n0 dfr m bk st a w → c.wp B.P (PX B m0 w0 n0 dfr m bk ex st') a w
  loop : ∀ (b : Code) (st : XS) (ex : XE) (st' : XS), B.xrun hk n (.loop b) st = some (ex, st') → ∀ (m0 : Mem) (w0 : World) (n0 : Nat) (dfr : List Deferred) (m : Mem) (bk : List Bk) (a : Act) (w : World), SatX B m0 w0 n0 dfr m bk st a w →
    ∀ Q : Exit → Act → World → Prop, (∀ e a' w', PX B m0 w0 n0 dfr m bk ex st' e a' w' → Q e a' w') → Code.rounds B.P b Q n a w
  ops : ∀ (ops : Array Oper) (l : List Oper) (st st' : XS), B.xops hk n ops l st = some st' → ∀ (m0 : Mem) (w0 : World) (n0 : Nat) (dfr : List Deferred) (m : Mem) (bk : List Bk) (a : Act) (w : World), SatX B m0 w0 n0 dfr m bk st a w →
    ∀ Q : Exit → Act → World → Prop, (∀ a' w', RchX B m0 w0 n0 dfr m bk st' a' w' → Q .normal a' w') → wpList B.P ops Q l a w
  op1 : ∀ (ops : Array Oper) (o : Oper) (st st' : XS), B.xop1 hk n ops o st = some st' → ∀ (m0 : Mem) (w0 : World) (n0 : Nat) (dfr : List Deferred) (m : Mem) (bk : List Bk) (a : Act) (w : World), SatX B m0 w0 n0 dfr m bk st a w →
    ∀ (next : Act → World → Prop) (Q : Exit → Act → World → Prop), (∀ a' w', RchX B m0 w0 n0 dfr m bk st' a' w' → (B.isHardX o.op = false → Kept w w') → next a' w') → OpWp B.P ops o a w next Q
  plan : ∀ (ops : Array Oper) (p : Plan) (st st' : XS), B.xplan hk n ops p st = some st' → Region.noSelect ops = true → ∀ (ld : Bool) (k : Nat) (listed : Array Bool), p = B.planX ops ld k listed → (ld = true → ∀ i, opAt ops i isLoad = true → listed.getD i false = true) →
    ∀ (m0 : Mem) (w0 : World) (n0 : Nat) (dfr : List Deferred) (m : Mem) (bk : List Bk) (a : Act) (w : World), SatX B m0 w0 n0 dfr m bk st a w →
    ∀ Q : Exit → Act → World → Prop, (∀ c a w, ¬ Q (.panic c) a w) → (∀ a' w', RchX B m0 w0 n0 dfr m bk st' a' w' → Q .normal a' w') → wpAny B.P .any ops Q k listed a w
  planG : ∀ (ops : Array Oper) (p : Plan) (st st' : XS), B.xplan hk n ops p st = some st' → Region.noSelect ops = true → B.loadsX ops = true → ∀ (k : Nat) (listed : Array Bool), p = B.planX ops true k listed → DC ops listed →
    ∀ (m0 : Mem) (w0 : World) (n0 : Nat) (dfr : List Deferred) (m : Mem) (bk : List Bk) (a : Act) (w : World), SatX B m0 w0 n0 dfr m bk st a w →
    ∀ Q : Exit → Act → World → Prop, (∀ c a w, ¬ Q (.panic c) a w) → (∀ a' w', RchX B m0 w0 n0 dfr m bk st' a' w' → Q .normal a' w') → wpG (cW B) B.P ops Q (Kept w) k listed a w
  call : ∀ (f : FuncId) (args : List EV) (hp : List XO) (v : EV) (hp' : List XO), B.xcall hk n f args hp = some (v, hp') →
    ∀ (m0 : Mem) (w0 : World) (n0 : Nat) (m : Mem) (bk : List Bk) (w : World) (us : List Value), SatM B m0 w0 n0 m bk hp w → RepL B.P m args (JX B.P bk) us → CallX B m0 w0 n0 m bk f us w v hp'

theorem many_each {hk : Hooks} {ops : Array Oper} {st : XS} : ∀ (n : Nat) (l : List (Nat × Plan)) (st' : XS), B.xmany hk n ops l st = some st' → l ≠ [] ∧ ∀ q ∈ l, ∃ n' o st1, n' < n ∧ ops[q.1]? = some o ∧ B.xop1 hk n' ops o st = some st1 ∧ B.xplan hk n' ops q.2 st1 = some st'
  | 0, l, st', h => by unfold Base.xmany at h; cases h
  | n + 1, l, st', h => by
    unfold Base.xmany at h
    split at h
    · cases h
    · rename_i i p r
      refine ⟨fun q => (by cases q), ?_⟩
      split at h
      · rename_i o ho
        split at h
        · rename_i st1 h1
          split at h
          · rename_i st2 h2
            split at h
            · cases h
              intro q hq
              obtain rfl : q = (i, p) := by simpa using hq
              exact ⟨n, o, st1, Nat.lt_succ_self n, ho, h1, h2⟩
            · split at h
              · rename_i st3 h3
                obtain ⟨he, h⟩ := cond_some h
                cases h
                have := eqXS_sound he
                subst this
                intro q hq
                rcases List.mem_cons.1 hq with rfl | hq
                · exact ⟨n, o, st1, Nat.lt_succ_self n, ho, h1, h2⟩
                · obtain ⟨n', o', st1', e1, e2, e3, e4⟩ := (many_each n r _ h3).2 q hq
                  exact ⟨n', o', st1', Nat.lt_succ_of_lt e1, e2, e3, e4⟩
              · cases h
          · cases h
        · cases h
      · cases h

theorem planX_one {ops : Array Oper} {ld : Bool} {k : Nat} {listed : Array Bool} {i : Nat} {p : Plan} (h : .one i p = B.planX ops ld k listed) :
    ∃ k', k = k' + 1 ∧ ((Region.ready .any ops listed).find? fun i => B.quietAtX ops ld i && Region.free .any ops listed i) = some i ∧ p = B.planX ops ld k' (listed.setIfInBounds i true) := by
  cases k with
  | zero =>
    unfold Base.planX at h
    split at h <;> cases h
  | succ k =>
    unfold Base.planX at h
    split at h
    · rename_i j hj; cases h; exact ⟨k, rfl, hj, rfl⟩
    · cases h

theorem planX_many {ops : Array Oper} {ld : Bool} {k : Nat} {listed : Array Bool} {l : List (Nat × Plan)} (h : .many l = B.planX ops ld k listed) :
    ∃ k', k = k' + 1 ∧ l = (Region.ready .any ops listed).map fun i => (i, B.planX ops ld k' (listed.setIfInBounds i true)) := by
  cases k with
  | zero =>
    unfold Base.planX at h
    split at h <;> cases h
  | succ k =>
    unfold Base.planX at h
    split at h
    · cases h
    · cases h; exact ⟨k, rfl, rfl⟩

theorem planX_done {ops : Array Oper} {ld : Bool} {k : Nat} {listed : Array Bool} (h : .done = B.planX ops ld k listed) : k = 0 ∧ Region.ready .any ops listed = [] := by
  cases k with
  | zero =>
    unfold Base.planX at h
    split at h
    · rename_i hr; exact ⟨rfl, hr⟩
    · cases h
  | succ k =>
    unfold Base.planX at h
    split at h <;> cases h

theorem still_writer {o : Op} (h : B.isStillX o = true ∨ isLoad o = true) : (cW B).isWriter o = false := by
  cases o <;> first | rfl | (rcases h with h | h <;> cases h; done) | skip
  case call cl =>
    obtain ⟨callee, args, argTypes⟩ := cl
    cases callee with
    | value f => rcases h with h | h <;> cases h
    | invoke r nm => rcases h with h | h <;> cases h
    | builtin b => cases b <;> first | rfl | (rcases h with h | h <;> cases h; done)

theorem calleeX_spec {o : Op} {f : FuncId} {args : List EV} (S : EnvX B m bk st.env a) (h : B.calleeX st.env o = some (f, args)) : ∃ us, RepL B.P m args (JX B.P bk) us ∧ ∀ (dst : Option Tmp) (ty pos after guard) (w : World), (execOp a.eval ⟨dst, o, ty, pos, after, guard⟩).run B.P w = (callFunc f us.toArray).run B.P w := by
  unfold Base.calleeX at h
  split at h
  · rename_i g cargs cargT
    split at h
    · rename_i f' xa xb he
      cases h
      have hf := xev_sound S g
      rw [he] at hf
      obtain ⟨xs, ys, e1, e2, e3⟩ := hf
      have hargs := xevs_sound S cargs.toList
      refine ⟨xs ++ cargs.toList.map a.eval ++ ys, RepL_append (RepL_append e2 hargs) e3, fun dst ty pos after guard w => ?_⟩
      simp only [execOp, resolve, Sem.run_bind, e1, Deferred.ofValue, Sem.run_pure, Result.andThen_ok, invoke]
      simp [map_toArray]
    · cases h
  · cases h


theorem resX_sound {hp : List XO} (S : SatM B m0 w0 n0 m bk hp w) {env : List EV} (E : EnvX B m bk env a) : ∀ (l : List ResultVar) {vs : List EV}, resX B env hp l = some vs → ∃ us, RepL B.P m vs (JX B.P bk) us ∧ (l.mapM (resOf a.tmps)).run B.P w = .ok us w
  | [], vs, h => by cases h; exact ⟨[], RepL_nil.2 rfl, by simp⟩
  | .tmp t :: r, vs, h => by
    obtain ⟨vs', h1, rfl⟩ := map_some' (show (resX B env hp r).map (fun vs => at0 env t :: vs) = some vs from h)
    obtain ⟨us, h2, h3⟩ := resX_sound S E r h1
    refine ⟨_, RepL_cons.2 ⟨_, _, rfl, E t, h2⟩, ?_⟩
    simp only [List.mapM_cons, resOf, Sem.run_bind, Sem.run_pure, Result.andThen_ok, h3]
  | .cell ad t :: r, vs, h => by
    obtain ⟨v, hv, h⟩ := bind_some' (show ((ptrX hp (at0 env ad)).bind fun q => B.ldX t q.1 q.2).bind (fun v => (resX B env hp r).map fun vs => v :: vs) = some vs from h)
    obtain ⟨vs', h1, rfl⟩ := map_some' h
    obtain ⟨q, hq, hld⟩ := bind_some' hv
    obtain ⟨us, h2, h3⟩ := resX_sound S E r h1
    obtain ⟨b, o, cvs, e1, r1, r2⟩ := ptrX_sound S (E ad) hq
    obtain ⟨v', u, rfl, l2, l3⟩ := ldK_sound (c := cB B) (b := b) (o := o) (ldX_ldK hld) r1
    have hl := l3 w r2
    have hl' : (loadVar t ⟨b, o + q.2, none⟩).run B.P w = .ok u w := by
      have : (Instr.loadAt t (.pointer (some ⟨b, o + q.2, none⟩))) = loadVar t ⟨b, o + q.2, none⟩ := by simp [Instr.loadAt, Instr.sureAddr]
      rw [← this]; exact hl
    refine ⟨_, RepL_cons.2 ⟨_, _, rfl, l2, h2⟩, ?_⟩
    simp only [List.mapM_cons, resOf, Sem.run_bind, e1, asAddr, Sem.run_pure, Result.andThen_ok, hl', h3]

theorem resultsX {hp : List XO} (S : SatM B m0 w0 n0 m bk hp w) {env : List EV} (E : EnvX B m bk env a) {fn : Func} {vs : List EV} (h : resX B env hp fn.results.toList = some vs) :
    ∃ us, RepL B.P m vs (JX B.P bk) us ∧ (results fn a.tmps).run B.P w = .ok (if h : us.toArray.size = 1 then us.toArray[0] else .tuple us.toArray) w := by
  obtain ⟨us, h2, h3⟩ := resX_sound S E _ h
  refine ⟨us, h2, ?_⟩
  have hm : (fn.results.mapM (resOf a.tmps)).run B.P w = .ok us.toArray w := by
    rw [Array.mapM_eq_mapM_toList]
    simp only [map_eq_pure_bind, Sem.run_bind, h3, Result.andThen_ok, Sem.run_pure]
  have he : results fn a.tmps = (do let vs ← fn.results.mapM (resOf a.tmps); pure (if h : vs.size = 1 then vs[0] else .tuple vs)) := by
    unfold results
    congr 1
  rw [he]
  simp only [Sem.run_bind, hm, Result.andThen_ok, Sem.run_pure]

theorem bots_at0 : ∀ (n i : Nat), at0 (bots n) i = .bot
  | 0, _ => rfl
  | n + 1, 0 => rfl
  | n + 1, i + 1 => bots_at0 n i

theorem bots_length : ∀ n : Nat, (bots n).length = n
  | 0 => rfl
  | n + 1 => by simp [bots, bots_length n]

theorem at0_append (l r : List EV) (i : Nat) : at0 (l ++ r) i = if i < l.length then at0 l i else at0 r (i - l.length) := by
  rw [at0_eq, at0_eq, at0_eq]
  split
  · rename_i h; rw [List.getElem?_append_left h]
  · rename_i h; rw [List.getElem?_append_right (Nat.le_of_not_lt h)]

/-- A frame, as it begins. -/
theorem enterX {hp : List XO} (S : SatM B m0 w0 n0 m bk hp w) {args : List EV} {us : List Value} (h : RepL B.P m args (JX B.P bk) us) {n : Nat} (hn : args.length ≤ n) :
    SatX B m0 w0 n0 [] m bk { env := args ++ bots (n - args.length), hp := hp } { tmps := us.toArray ++ Array.replicate (n - us.toArray.size) undef, defers := [] } w := by
  have hl := RepL_length h
  refine ⟨S, fun i => ?_, ?_, rfl⟩
  · show Rep B.P m (at0 (args ++ bots (n - args.length)) i) (JX B.P bk) ((us.toArray ++ Array.replicate (n - us.toArray.size) undef).getD i undef)
    rw [at0_append]
    by_cases hi : i < args.length
    · rw [if_pos hi, at0_eq]
      obtain ⟨u, h1, h2⟩ := RepL_get h (List.getElem?_eq_getElem hi)
      have : (us.toArray ++ Array.replicate (n - us.toArray.size) undef).getD i undef = u := by
        rw [Array.getD_eq_getD_getElem?, Array.getElem?_append_left (by simp; omega)]
        simp [h1]
      rw [this, List.getElem?_eq_getElem hi]
      exact h2
    · rw [if_neg hi, bots_at0]; trivial
  · show (us.toArray ++ Array.replicate (n - us.toArray.size) undef).size = (args ++ bots (n - args.length)).length
    simp [bots_length]
    omega

theorem calleeX_hard {env : List EV} {o : Op} {q : FuncId × List EV} (h : B.calleeX env o = some q) : B.isHardX o = true := by
  cases o <;> first | (cases h; done) | skip
  case call cl =>
    obtain ⟨callee, args, argTypes⟩ := cl
    cases callee with
    | value f => rfl
    | invoke r nm => cases h
    | builtin b => cases h

theorem still_quiet {o : Op} (hs : B.isStillX o = true ∨ isLoad o = true) (env : List EV) (hp : List XO) : B.loudX env hp o = none ∧ B.calleeX env o = none := by
  cases o <;> first | exact ⟨rfl, rfl⟩ | (rcases hs with hs | hs <;> cases hs; done) | skip
  case convert q d x =>
    refine ⟨?_, rfl⟩
    rcases hs with hs | hs
    · simp only [Base.isStillX] at hs
      split at hs
      · rename_i k hu
        simp only [Base.loudX, Base.convX, hu]
        split
        · split
          · split <;> first | rfl | (rename_i h1 h2; cases h2)
          · rfl
        · rfl
      · cases hs
    · cases hs
  case call cl =>
    obtain ⟨callee, args, argTypes⟩ := cl
    cases callee with
    | value f => rcases hs with hs | hs <;> cases hs
    | invoke r nm => rcases hs with hs | hs <;> cases hs
    | builtin b => cases b <;> first | exact ⟨rfl, rfl⟩ | (rcases hs with hs | hs <;> cases hs; done)

theorem xop1_still {hk : Hooks} {n : Nat} {ops : Array Oper} {o : Oper} {st1 : XS} (hs : B.isStillX o.op = true ∨ isLoad o.op = true) (h : B.xop1 hk n ops o st = some st1) :
    okDstX st.env o.dst = true ∧ ((wantX st.env ops o = some false ∧ st1 = { st with env := putX st.env o.dst (.raw undef) }) ∨ (wantX st.env ops o = some true ∧ ∃ v, B.quietX st.env st.hp o.op = some v ∧ st1 = { st with env := putX st.env o.dst v })) := by
  cases n with
  | zero => unfold Base.xop1 at h; cases h
  | succ n =>
    unfold Base.xop1 at h
    obtain ⟨hd, h⟩ := cond_some h
    refine ⟨hd, ?_⟩
    split at h
    · cases h
    · rename_i hw; cases h; exact .inl ⟨hw, rfl⟩
    · rename_i hw
      refine .inr ⟨hw, ?_⟩
      split at h
      · rename_i v hq; cases h; exact ⟨v, hq, rfl⟩
      · rw [(still_quiet hs st.env st.hp).1, (still_quiet hs st.env st.hp).2] at h
        cases h

/-- A STEP DEEPER. -/
theorem RunOK.step {hk : Hooks} (H : HkOK B hk) {n : Nat} (ih : ∀ n' ≤ n, RunOK B hk n') : RunOK B hk (n + 1) := by
  have I := ih n (Nat.le_refl n)
  have L : ∀ (b : Code) (st : XS) (ex : XE) (st' : XS), B.xrun hk (n + 1) (.loop b) st = some (ex, st') → ∀ (m0 : Mem) (w0 : World) (n0 : Nat) (dfr : List Deferred) (m : Mem) (bk : List Bk) (a : Act) (w : World), SatX B m0 w0 n0 dfr m bk st a w →
      ∀ Q : Exit → Act → World → Prop, (∀ e a' w', PX B m0 w0 n0 dfr m bk ex st' e a' w' → Q e a' w') → Code.rounds B.P b Q (n + 1) a w := by
    intro b st ex st' h m0 w0 n0 dfr m bk a w S Q hQ
    unfold Base.xrun at h
    dsimp only at h
    cases h1 : B.xrun hk n b st with
    | none => rw [h1] at h; cases h
    | some q =>
      obtain ⟨e1, st1⟩ := q
      rw [h1] at h
      rw [rounds_succ]
      refine wp_mono (I.run _ _ _ _ h1 m0 w0 n0 dfr m bk a w S) fun e a' w' r => ?_
      cases e with
      | normal =>
        obtain ⟨rfl, m', bk', S', g1, g2⟩ := r
        exact I.loop _ _ _ _ h m0 w0 n0 dfr m' bk' a' w' S' Q fun e a2 w2 q => hQ e a2 w2 (q.back g1 g2)
      | ret => obtain ⟨rfl, r⟩ := r; cases h; exact hQ _ _ _ ⟨rfl, r⟩
      | exit id => obtain ⟨rfl, r⟩ := r; cases h; exact hQ _ _ _ ⟨rfl, r⟩
      | goto l => exact r.elim
      | panic ch => exact r.elim
      | outgrown => exact r.elim
  refine ⟨?_, L, ?_, ?_, ?_, ?_, ?_⟩
  · -- code
    intro c st ex st' h m0 w0 n0 dfr m bk a w S
    unfold Base.xrun at h
    cases c with
    | skip => cases h; exact wp_skip ⟨rfl, .refl S⟩
    | label l => cases h; exact wp_label ⟨rfl, .refl S⟩
    | ret => cases h; exact wp_ret ⟨rfl, .refl S⟩
    | exit id => cases h; exact wp_exit ⟨rfl, .refl S⟩
    | region id ops draw =>
      cases draw with
      | false =>
        obtain ⟨st2, h1, e⟩ := map_some' (show (B.xops hk n ops ops.toList st).map _ = _ from h)
        cases e
        exact wp_region_list (I.ops _ _ _ _ h1 m0 w0 n0 dfr m bk a w S _ fun a' w' r => ⟨rfl, r⟩)
      | true =>
        obtain ⟨hd, h⟩ := cond_some (show cond (B.drawOKX ops) _ none = _ from h)
        obtain ⟨st2, h1, e⟩ := map_some' h
        cases e
        unfold Base.drawOKX at hd
        simp only [Bool.and_eq_true] at hd
        have S1 : SatX B m0 w0 n0 dfr m bk st a w.drew := { S with mem := S.mem.drew }
        cases hl : B.loadsX ops with
        | false =>
          rw [hl] at h1
          exact wp_region_any hd.1 (I.plan _ _ _ _ h1 hd.2 false _ _ rfl (fun q => (by cases q)) m0 w0 n0 dfr m bk a w.drew S1 _ (fun _ _ _ q => q.elim) fun a' w' r => ⟨rfl, r⟩)
        | true =>
          rw [hl] at h1
          exact wp_region_any hd.1 (wpAny_of_G _ _ _ _ (I.planG _ _ _ _ h1 hd.2 hl _ _ rfl (DC_init _ _) m0 w0 n0 dfr m bk a w.drew S1 _ (fun _ _ _ q => q.elim) fun a' w' r => ⟨rfl, r⟩))
    | seq x y =>
      dsimp only at h
      cases h1 : B.xrun hk n x st with
      | none => rw [h1] at h; cases h
      | some q =>
        obtain ⟨e1, st1⟩ := q
        rw [h1] at h
        refine wp_seq (wp_mono (I.run _ _ _ _ h1 m0 w0 n0 dfr m bk a w S) fun e a' w' r => ?_)
        cases e with
        | normal =>
          obtain ⟨rfl, m', bk', S', g1, g2⟩ := r
          exact wp_mono (I.run _ _ _ _ h m0 w0 n0 dfr m' bk' a' w' S') fun e a2 w2 q => q.back g1 g2
        | ret => obtain ⟨rfl, r⟩ := r; cases h; exact ⟨rfl, r⟩
        | exit id => obtain ⟨rfl, r⟩ := r; cases h; exact ⟨rfl, r⟩
        | goto l => exact r.elim
        | panic ch => exact r.elim
        | outgrown => exact r.elim
    | cond x p q =>
      have hx := xev_sound S.env x
      dsimp only at h
      split at h
      · rename_i z he
        rw [he] at hx
        have hz : a.eval x = .bool z := hx
        cases z with
        | true => exact wp_cond hz (I.run _ _ _ _ h m0 w0 n0 dfr m bk a w S)
        | false => exact wp_cond hz (I.run _ _ _ _ h m0 w0 n0 dfr m bk a w S)
      · cases h
    | block id b =>
      dsimp only at h
      cases h1 : B.xrun hk n b st with
      | none => rw [h1] at h; cases h
      | some q =>
        obtain ⟨e1, st1⟩ := q
        rw [h1] at h
        refine wp_block (wp_mono (I.run _ _ _ _ h1 m0 w0 n0 dfr m bk a w S) fun e a' w' r => ?_)
        cases e with
        | normal => obtain ⟨rfl, r⟩ := r; cases h; exact ⟨rfl, r⟩
        | ret => obtain ⟨rfl, r⟩ := r; cases h; exact ⟨rfl, r⟩
        | exit j =>
          obtain ⟨rfl, r⟩ := r
          dsimp only at h
          show if j = id then _ else _
          by_cases hj : j = id
          · rw [if_pos hj]
            subst hj
            rw [Nat.beq_refl] at h
            cases h; exact ⟨rfl, r⟩
          · rw [if_neg hj]
            cases hb : Nat.beq j id with
            | true => exact absurd (beq_eq hb) hj
            | false => rw [hb] at h; cases h; exact ⟨rfl, r⟩
        | goto l => exact r.elim
        | panic ch => exact r.elim
        | outgrown => exact r.elim
    | scope b =>
      refine wp_scope_straight (wp_mono (I.run b st ex st' h m0 w0 n0 dfr m bk a w S) fun e a' w' r => ?_)
      cases e with
      | goto l => exact r.elim
      | _ => exact r
    | loop b => exact wp_loop_rounds (n + 1) (L b st ex st' (by unfold Base.xrun; exact h) m0 w0 n0 dfr m bk a w S _ fun _ _ _ q => q)
    | _ => cases h
  · -- the operations of a region
    intro ops l st st' h m0 w0 n0 dfr m bk a w S Q hQ
    unfold Base.xops at h
    cases l with
    | nil => cases h; exact hQ _ _ (.refl S)
    | cons o r =>
      dsimp only at h
      cases h1 : B.xop1 hk n ops o st with
      | none => rw [h1] at h; cases h
      | some st1 =>
        rw [h1] at h
        unfold wpList
        rcases I.op1 _ _ _ _ h1 m0 w0 n0 dfr m bk a w S (wpList B.P ops Q r) Q (fun a' w' ⟨m', bk', S', g1, g2⟩ _ => I.ops _ _ _ _ h m0 w0 n0 dfr m' bk' a' w' S' Q fun a2 w2 q => hQ _ _ (q.back g1 g2)) with ⟨h1, h2⟩ | ⟨h1, h2⟩
        · rw [if_pos h1]; exact .inl h2
        · rw [if_neg (by rw [h1]; exact Bool.false_ne_true)]; exact h2
  · -- one operation
    intro ops o st st' h m0 w0 n0 dfr m bk a w S next Q hn
    unfold Base.xop1 at h
    obtain ⟨hd, h⟩ := cond_some h
    split at h
    · cases h
    · rename_i hw
      cases h
      exact .inr ⟨wantX_sound S.env hw, hn _ _ (.refl (S.put hd rfl)) fun _ => .refl w⟩
    · rename_i hw
      refine .inl ⟨wantX_sound S.env hw, ?_⟩
      split at h
      · rename_i v hq
        cases h
        obtain ⟨u, h1, h2⟩ := quietX_sound S o hq
        unfold Oper.wp
        rw [h2, Oper.upon_value]
        exact hn _ _ (.refl (S.put hd h1)) fun _ => .refl w
      · split at h
        · rename_i v hp' hl
          cases h
          exact loudX_sound S o hl fun u w' r => hn _ _ (S.res hd r)
        · split at h
          · rename_i f args hc
            split at h
            · rename_i v hp' hx
              cases h
              obtain ⟨us, h1, h2⟩ := calleeX_spec S.env hc
              have hh : B.isHardX o.op = true := calleeX_hard hc
              have hno : ∀ {p : Prop}, B.isHardX o.op = false → p := fun q => (by rw [hh] at q; cases q)
              unfold Oper.wp
              rw [h2 o.dst o.type o.pos o.after o.guard w]
              rcases I.call _ _ _ _ _ hx m0 w0 n0 m bk w us S.mem h1 with ⟨u, w', e1, e2⟩ | ⟨e1, e2⟩
              · rw [e1, Oper.upon_value]
                exact hn _ _ (S.res hd e2) hno
              · rw [run_callFunc e1, Oper.upon_enter]
                refine e2.mono fun e w' ⟨u, q1, q2⟩ => ?_
                subst q1
                exact hn _ _ (S.res hd q2) hno
            · cases h
          · cases h
  · -- a region that draws its order
    intro ops p st st' h hs ld k listed hpl hL m0 w0 n0 dfr m bk a w S Q hp hQ
    unfold Base.xplan at h
    cases p with
    | done =>
      cases h
      obtain ⟨rfl, hr⟩ := planX_done hpl
      exact ⟨hr, hQ _ _ (.refl S)⟩
    | stuck => cases h
    | one i p =>
      obtain ⟨k, rfl, hf, rfl⟩ := planX_one hpl
      have hmem := List.mem_of_find?_eq_some hf
      have hp' := List.find?_some hf
      simp only [Bool.and_eq_true] at hp'
      dsimp only at h
      split at h
      · rename_i o ho
        split at h
        · rename_i st1 h1
          have hst : B.isStillX o.op = true := by
            have := hp'.1
            unfold Base.quietAtX at this
            rw [ho] at this
            simp only [Bool.or_eq_true, Bool.and_eq_true] at this
            rcases this with q | ⟨q1, q2⟩
            · exact q
            · have h5 := hL q1 i (by unfold opAt; rw [ho]; exact q2)
              rw [unlisted hmem] at h5
              cases h5
          have go : ∀ {v : EV} {u : Value}, okDstX st.env o.dst = true → Rep B.P m v (JX B.P bk) u → st1 = { st with env := putX st.env o.dst v } → Yields B.P ops o u a → wpAny B.P .any ops Q (k + 1) listed a w := by
            intro v u hd hu e hy
            subst e
            exact wpAny_first ho (Region.noSelect_spec hs) (fun _ _ _ q => (hp _ _ _ q).elim) k listed a w (Region.free_spec ho hp'.2) hmem hy (I.plan _ _ _ _ h hs ld _ _ rfl (fun q j hj => getD_set_true (hL q j hj)) m0 w0 n0 dfr m bk _ w (S.put hd hu) Q hp hQ)
          obtain ⟨hd, ⟨hw, e⟩ | ⟨hw, v, hq, e⟩⟩ := xop1_still (.inl hst) h1
          · exact go (v := .raw undef) (u := undef) hd rfl e (.inr ⟨wantX_sound S.env hw, rfl⟩)
          · obtain ⟨u, hu, e'⟩ := stillX_sound S.env o hst hq
            exact go hd hu e (.inl ⟨wantX_sound S.env hw, e'⟩)
        · cases h
      · cases h
    | many l =>
      obtain ⟨k, rfl, rfl⟩ := planX_many hpl
      obtain ⟨hne, hall⟩ := many_each n _ _ h
      refine ⟨fun q => absurd (by rw [q]; rfl) hne, fun j hj => ?_⟩
      obtain ⟨n', o, st1, e1, e2, e3, e4⟩ := hall _ (List.mem_map.2 ⟨j, hj, rfl⟩)
      have J := ih n' (Nat.le_of_lt e1)
      exact wpOp_of e2 (J.op1 _ _ _ _ e3 m0 w0 n0 dfr m bk a w S _ Q fun a' w' ⟨m', bk', S', g1, g2⟩ _ => J.plan _ _ _ _ e4 hs ld _ _ rfl (fun q i hi => getD_set_true (hL q i hi)) m0 w0 n0 dfr m' bk' a' w' S' Q hp fun a2 w2 q => hQ _ _ (q.back g1 g2))
  · -- such a region, loads first
    intro ops p st st' h hs hld k listed hpl hD m0 w0 n0 dfr m bk a w S Q hp hQ
    have hld' := hld
    unfold Base.loadsX at hld'
    simp only [Bool.and_eq_true] at hld'
    obtain ⟨hwr, hall0⟩ := hld'
    unfold Base.xplan at h
    cases p with
    | done =>
      cases h
      obtain ⟨rfl, hr⟩ := planX_done hpl
      exact ⟨hr, hQ _ _ (.refl S)⟩
    | stuck => cases h
    | one i p =>
      obtain ⟨k, rfl, hf, rfl⟩ := planX_one hpl
      have hmem := List.mem_of_find?_eq_some hf
      have hp' := List.find?_some hf
      simp only [Bool.and_eq_true] at hp'
      dsimp only at h
      split at h
      · rename_i o ho
        split at h
        · rename_i st1 h1
          have hst : B.isStillX o.op = true ∨ isLoad o.op = true := by
            have := hp'.1
            unfold Base.quietAtX at this
            rw [ho] at this
            simp only [Bool.or_eq_true, Bool.and_eq_true] at this
            rcases this with q | ⟨q1, q2⟩
            · exact .inl q
            · exact .inr q2
          have go : ∀ {v : EV} {u : Value}, okDstX st.env o.dst = true → Rep B.P m v (JX B.P bk) u → st1 = { st with env := putX st.env o.dst v } → YieldsIf B.P ops (fun w' => isLoad o.op = true → Kept w w') o u a → wpG (cW B) B.P ops Q (Kept w) (k + 1) listed a w := by
            intro v u hd hu e hy
            subst e
            exact wpG_first ho (Region.noSelect_spec hs) (fun _ _ _ q => (hp _ _ _ q).elim) hwr (still_writer hst) k listed a w hD (Region.free_spec ho hp'.2) hmem hy (.refl w) (I.planG _ _ _ _ h hs hld _ _ rfl (hD.set hmem) m0 w0 n0 dfr m bk _ w (S.put hd hu) Q hp hQ)
          obtain ⟨hd, ⟨hw, e⟩ | ⟨hw, v, hq, e⟩⟩ := xop1_still hst h1
          · exact go (v := .raw undef) (u := undef) hd rfl e (.inr ⟨wantX_sound S.env hw, rfl⟩)
          · rcases hst with hst | hst
            · obtain ⟨u, hu, e'⟩ := stillX_sound S.env o hst hq
              exact go hd hu e (.inl ⟨wantX_sound S.env hw, fun w' _ => e' w'⟩)
            · obtain ⟨u, hu, e'⟩ := loadQ_sound S o hst hq
              exact go hd hu e (.inl ⟨wantX_sound S.env hw, fun w' q => e' w' (q hst)⟩)
        · cases h
      · cases h
    | many l =>
      obtain ⟨k, rfl, rfl⟩ := planX_many hpl
      obtain ⟨hne, hall⟩ := many_each n _ _ h
      refine ⟨fun q => absurd (by rw [q]; rfl) hne, fun j hj => ?_⟩
      obtain ⟨n', o, st1, e1, e2, e3, e4⟩ := hall _ (List.mem_map.2 ⟨j, hj, rfl⟩)
      have J := ih n' (Nat.le_of_lt e1)
      refine wpOp_of e2 (J.op1 _ _ _ _ e3 m0 w0 n0 dfr m bk a w S _ Q fun a' w' ⟨m', bk', S', g1, g2⟩ hk => ?_)
      cases hjw : (cW B).isWriter o.op with
      | true =>
        have hjw' : opAt ops j (cW B).isWriter = true := by unfold opAt; rw [e2]; exact hjw
        exact .inl ⟨hjw', J.plan _ _ _ _ e4 hs true _ _ rfl (fun _ i hi => getD_set_true (loads_listed hwr hD hj hjw' hi)) m0 w0 n0 dfr m' bk' a' w' S' Q hp fun a2 w2 q => hQ _ _ (q.back g1 g2)⟩
      | false =>
        have hjw' : opAt ops j (cW B).isWriter = false := by unfold opAt; rw [e2]; exact hjw
        have hsoft : B.isHardX o.op = false := by
          have := List.all_eq_true.1 hall0 o (Array.mem_toList_iff.2 (Array.mem_of_getElem? e2))
          rw [hjw] at this
          simpa using this
        exact .inr ⟨hjw', hk hsoft, wpG_mono (fun w'' q => (hk hsoft).trans q) _ _ _ _ (J.planG _ _ _ _ e4 hs hld _ _ rfl (hD.set hj) m0 w0 n0 dfr m' bk' a' w' S' Q hp fun a2 w2 q => hQ _ _ (q.back g1 g2))⟩
  · -- a call
    intro f args hp v hp' h m0 w0 n0 m bk w us S hargs
    unfold Base.xcall at h
    split at h
    · rename_i q hq
      cases h
      exact H f args hp v hp' hq m0 w0 n0 m bk w us S hargs
    · split at h
      · rename_i fn hf
        split at h
        · rename_i b hb
          obtain ⟨hc, h⟩ := cond_some h
          simp only [Bool.and_eq_true, Bool.not_eq_true'] at hc
          refine .inr ⟨⟨fn, b, hf, hb, hc.2⟩, calls_of_wp hf hb ?_⟩
          have hl := RepL_length hargs
          have S1 := enterX S hargs (ble_le hc.1)
          have fin : ∀ {st2 : XS} {a2 : Act} {w2 : World}, (resX B st2.env st2.hp fn.results.toList).map (fun vs => (retV vs, st2.hp)) = some (v, hp') → RchX B m0 w0 n0 [] m bk st2 a2 w2 →
              a2.defers = [] ∧ ∃ u, (results fn a2.tmps).run B.P w2 = .ok u w2 ∧ ∃ u', Ending.returned u = .returned u' ∧ ResX B m0 w0 n0 m bk v hp' u' w2 := by
            intro st2 a2 w2 h2 ⟨m', bk', S2, g1, g2⟩
            obtain ⟨vs, q1, q2⟩ := map_some' h2
            cases q2
            obtain ⟨us2, q3, q4⟩ := resultsX S2.mem S2.env q1
            exact ⟨S2.defers, _, q4, _, rfl, m', bk', S2.mem, g1, g2, retV_rep q3⟩
          split at h
          · rename_i st2 hx
            refine wp_mono (I.run _ _ _ _ hx m0 w0 n0 [] m bk _ w S1) fun e a2 w2 r => ?_
            cases e with
            | normal => exact fin h r.2
            | ret => exact fin h r.2
            | exit id => cases r.1
            | goto l => exact r.elim
            | panic ch => exact r.elim
            | outgrown => exact r.elim
          · rename_i st2 hx
            refine wp_mono (I.run _ _ _ _ hx m0 w0 n0 [] m bk _ w S1) fun e a2 w2 r => ?_
            cases e with
            | normal => exact fin h r.2
            | ret => exact fin h r.2
            | exit id => cases r.1
            | goto l => exact r.elim
            | panic ch => exact r.elim
            | outgrown => exact r.elim
          · cases h
          · cases h
        · cases h
      · cases h

theorem runOK {hk : Hooks} (H : HkOK B hk) : ∀ n, RunOK B hk n := by
  intro n
  induction n using Nat.strongRecOn with
  | _ n ih =>
    cases n with
    | zero =>
      refine ⟨?_, ?_, ?_, ?_, ?_, ?_, ?_⟩
      · intro c st ex st' h; unfold Base.xrun at h; cases h
      · intro c st ex st' h; unfold Base.xrun at h; cases h
      · intro ops l st st' h; unfold Base.xops at h; cases h
      · intro ops o st st' h; unfold Base.xop1 at h; cases h
      · intro ops p st st' h; unfold Base.xplan at h; cases h
      · intro ops p st st' h; unfold Base.xplan at h; cases h
      · intro f args hp v hp' h; unfold Base.xcall at h; cases h
    | succ n => exact RunOK.step H fun n' hn => ih n' (Nat.lt_succ_of_le hn)
end
end Go.Proofs.YtgeefhjlfdidmaaGreatDoor.V


/- A RUN: own memory that is written no more, read as typed values; functions that are told by their contracts. No condition of its own but these contracts. -/
namespace Go.Proofs.YtgeefhjlfdidmaaGreatDoor.V
open Go Go.RowKit
set_option linter.unusedVariables false
set_option linter.unusedSimpArgs false

/-- An object is written no more. -/
def frz1 (hp : List XO) (i : Nat) : List XO :=
  match objX hp i with
  | .cells _ cs => setX hp i (.froz cs)
  | _ => hp

def frzX : List Nat → List XO → List XO
  | [], hp => hp
  | i :: r, hp => frzX r (frz1 hp i)

/-- What objects lead to: so many steps. -/
def closeX (hp : List XO) : Nat → List Nat → List Nat
  | 0, l => l
  | n + 1, l => l ++ closeX hp n (l.flatMap fun i => match cellsOfO (objX hp i) with
    | some cs => EV.idsL cs
    | none => [])

def cellsF (hp : List XO) (i : Nat) : Option (List EV) :=
  match objX hp i with
  | .froz cs => some cs
  | _ => none

/-- The elements of a row. -/
def rowsF {α : Type} (f : List EV → Option α) (cs : List EV) (size : Nat) : Nat → Nat → Option (List α)
  | 0, _ => some []
  | n + 1, o => match f ((cs.drop o).take size), rowsF f cs size n (o + size) with
    | some x, some r => some (x :: r)
    | _, _ => none

def boolF : List EV → Option Bool
  | [.p .bool b] => some b
  | _ => none

def intF (k : IntKind) : List EV → Option Int
  | [.p (.int k') n] => if k' = k then some n else none
  | _ => none

def castV {t s : Shape} (h : t = s) (x : t.Val) : s.Val := h ▸ x

def slF (hp : List XO) (s : Shape) (f : List EV → Option s.Val) : List EV → Option (List s.Val)
  | [.raw (.slice none 0 0)] => some []
  | [.p t x] => if h : t = .slice s then some (castV h x) else none
  | [.rp i n c o] => match cellsF hp i with
    | some cs => cond (Nat.ble (o + n * s.size) cs.length) (rowsF f cs s.size n o) none
    | none => none
  | _ => none

def pairF {α β : Type} : Option α → Option β → Option (α × β)
  | some a, some b => some (a, b)
  | _, _ => none

/-- Cells as a value of a shape. -/
def decX (hp : List XO) : (s : Shape) → List EV → Option s.Val
  | .bool, cs => boolF cs
  | .int k, cs => intF k cs
  | .slice s, cs => slF hp s (decX hp s) cs
  | .st f, cs => decX hp f cs
  | .unit, cs => cond cs.isEmpty (some ()) none
  | .pair a b, cs => pairF (decX hp a (cs.take a.size)) (decX hp b (cs.drop a.size))
  | _, _ => none

/-- One value. -/
def decVX (hp : List XO) : (s : Shape) → EV → Option s.Val
  | .st f, .agg cs => decX hp f cs
  | .st _, _ => none
  | .unit, _ => none
  | .pair _ _, _ => none
  | s, v => decX hp s [v]

/-- A row of arguments. -/
def decAX (hp : List XO) : (s : Shape) → List EV → Option s.Val
  | .unit, l => cond l.isEmpty (some ()) none
  | .pair a b, v :: r => pairF (decVX hp a v) (decAX hp b r)
  | .pair _ _, [] => none
  | s, [v] => decVX hp s v
  | _, _ => none

/-- A function's answer at some arguments. -/
structure TH where
  f : FuncId
  ins : Shape
  out : Shape
  x : ins.Val
  r : out.Val

def TH.try (t : TH) (args : List EV) (hp : List XO) : Option (EV × List XO) :=
  match decAX hp t.ins args with
  | some y => cond (eqV t.ins y t.x) (some (t.out.enc t.r, hp)) none
  | none => none

def thHook : List TH → Hooks
  | [], _, _, _ => none
  | t :: l, f, args, hp => cond (Nat.beq t.f f) (match t.try args (frzX (closeX hp 5 (EV.idsL args)) hp) with
    | some q => some q
    | none => thHook l f args hp) (thHook l f args hp)

section
variable {B : Base} {m0 : Mem} {w0 : World} {n0 : Nat} {dfr : List Deferred} {m : Mem} {bk : List Bk} {st : XS} {a : Act} {w : World}

/-- One object more is written no more. -/
theorem SatM.frz1 {hp : List XO} (S : SatM B m0 w0 n0 m bk hp w) (i : Nat) : ∃ m', SatM B m0 w0 n0 m' bk (frz1 hp i) w ∧ m.le m' := by
  unfold V.frz1
  split
  · rename_i T cs ho
    have hlive : objX hp i ≠ .dead := by rw [ho]; exact fun q => by cases q
    have hlt := objX_lt hlive
    obtain ⟨q, hq⟩ : ∃ q, bk[i]? = some q := ⟨_, List.getElem?_eq_getElem (by rw [S.len]; exact hlt)⟩
    have hO := S.objs i q hq
    rw [ho] at hO
    obtain ⟨hb, hT, hn0, hmb, us, vs, e1, e0, e2, e3, e4⟩ := hO
    let m' : Mem := fun b o => if b = q.b then vs[o]? else m b o
    have hle : m.le m' := fun b o v h => by
      show (if b = q.b then vs[o]? else m b o) = some v
      by_cases e : b = q.b
      · rw [e, hmb o] at h; cases h
      · rw [if_neg e]; exact h
    have hat : ∀ (j : Nat) v, vs[j]? = some v → w.cell? ⟨q.b, j, none⟩ = some v := fun j v hj => by
      refine cell_of e1 j v ?_
      rw [← e4, List.getElem?_take] at hj
      split at hj
      · exact hj
      · cases hj
    refine ⟨m', ?_, hle⟩
    refine { hold := fun b o v h => ?_, tab := S.tab.mono hle, ext := ⟨Mem.le_trans S.ext.1 hle, fun b o hb' => ?_⟩, below := S.below, base := S.base, len := by rw [setX_length]; exact S.len, objs := fun j r hr => ?_, apart := fun j k r t hne hr ht hbt => ?_ }
    · have h : (if b = q.b then vs[o]? else m b o) = some v := h
      by_cases e : b = q.b
      · rw [if_pos e] at h; rw [e]; exact hat o v h
      · rw [if_neg e] at h; exact S.hold b o v h
    · show (if b = q.b then vs[o]? else m b o) = m0 b o
      rw [if_neg (by omega)]
      exact S.ext.2 b o hb'
    · rw [objX_set _ _ hlt]
      by_cases e : j = i
      · subst e
        rw [hq] at hr
        cases hr
        rw [if_pos rfl]
        refine ⟨hb, vs, RepL_mono hle _ (fun _ _ h => h) e2, fun o v h => ?_⟩
        show (if q.b = q.b then vs[o]? else m q.b o) = some v
        rw [if_pos rfl]; exact h
      · rw [if_neg e]
        obtain ⟨h1, h2⟩ := S.objs j r hr
        refine ⟨h1, ?_⟩
        by_cases hd : objX hp j = .dead
        · rw [hd]; trivial
        · have hne : r.b ≠ q.b := fun hbb => by
            rcases S.apart j i r q e hr hq hbb with h | h
            · exact hd h
            · exact hlive h
          refine SatO.mono hle (fun o h => ?_) rfl (fun _ _ h => h) h2
          show (if r.b = q.b then vs[o]? else m r.b o) = none
          rw [if_neg hne]; exact h
    · rw [objX_set _ _ hlt, objX_set _ _ hlt]
      have := S.apart j k r t hne hr ht hbt
      by_cases ej : j = i
      · subst ej
        rw [if_pos rfl, if_neg (fun e => hne e.symm)]
        exact .inr (this.resolve_left hlive)
      · rw [if_neg ej]
        by_cases ek : k = i
        · subst ek; exact .inl (this.resolve_right hlive)
        · rw [if_neg ek]; exact this
  · exact ⟨m, S, Mem.le_refl m⟩

theorem SatM.frzX : ∀ (l : List Nat) {hp : List XO} {m : Mem}, SatM B m0 w0 n0 m bk hp w → ∃ m', SatM B m0 w0 n0 m' bk (frzX l hp) w ∧ m.le m'
  | [], hp, m, S => ⟨m, S, Mem.le_refl m⟩
  | i :: r, hp, m, S => by
    obtain ⟨m1, S1, h1⟩ := S.frz1 i
    obtain ⟨m2, S2, h2⟩ := SatM.frzX r S1
    exact ⟨m2, S2, Mem.le_trans h1 h2⟩

/-- Behind a call: of what was there nothing has turned. -/
theorem SatM.world {hp : List XO} (S : SatM B m0 w0 n0 m bk hp w) {m' : Mem} {w' : World} (he : Mem.ext w.heap.size m m') (hh : Holds w' m') (hb : Below w.heap.size w w') : SatM B m0 w0 n0 m' bk hp w' := by
  have hsz := S.n0le
  refine { hold := hh, tab := S.tab.mono he.1, ext := Mem.ext_trans S.ext (Mem.ext_mono he hsz), below := S.below.trans (hb.mono hsz), base := S.base, len := S.len, objs := fun i q h => ?_, apart := S.apart }
  obtain ⟨h1, h2⟩ := S.objs i q h
  exact ⟨Nat.lt_of_lt_of_le h1 hb.size, SatO.mono he.1 (fun o k => by rw [he.2 q.b o h1]; exact k) (hb.block q.b h1) (fun _ _ k => k) h2⟩

/-! ### Typed values of frozen memory -/

theorem cellsF_spec {hp : List XO} (S : SatM B m0 w0 n0 m bk hp w) {i : Nat} {q : Bk} {cs : List EV} (hq : bk[i]? = some q) (h : cellsF hp i = some cs) : ∃ vs, RepL B.P m cs (JX B.P bk) vs ∧ ∀ (j : Nat) v, vs[j]? = some v → m q.b j = some v := by
  unfold cellsF at h
  split at h
  · rename_i cs' ho
    cases h
    have := (S.objs i q hq).2
    rw [ho] at this
    exact this
  · cases h

theorem rowsF_spec {α : Type} {f : List EV → Option α} {cs : List EV} {size : Nat} : ∀ (n o : Nat) (xs : List α), rowsF f cs size n o = some xs → xs.length = n ∧ ∀ i x, xs[i]? = some x → f ((cs.drop (o + i * size)).take size) = some x
  | 0, o, xs, h => by cases h; exact ⟨rfl, fun i x hx => by simp at hx⟩
  | n + 1, o, xs, h => by
    unfold rowsF at h
    split at h
    · rename_i x r h1 h2
      cases h
      obtain ⟨e1, e2⟩ := rowsF_spec n (o + size) r h2
      refine ⟨by simp [e1], fun i y hy => ?_⟩
      cases i with
      | zero => simp at hy; subst hy; simpa using h1
      | succ i =>
        have := e2 i y (by simpa using hy)
        rwa [show o + size + i * size = o + (i + 1) * size by rw [Nat.add_mul]; omega] at this
    · cases h

theorem pairF_spec {α β : Type} {x : Option α} {y : Option β} {q : α × β} (h : pairF x y = some q) : x = some q.1 ∧ y = some q.2 := by
  unfold pairF at h
  split at h
  · cases h; exact ⟨rfl, rfl⟩
  · cases h

theorem decX_sound {hp : List XO} (S : SatM B m0 w0 n0 m bk hp w) : ∀ (s : Shape) (cs : List EV) (x : s.Val) (us : List Value), decX hp s cs = some x → RepL B.P m cs (JX B.P bk) us → (Reps B.P s).C m x us := by
  intro s
  induction s with
  | bool =>
    intro cs x us h r
    simp only [decX, boolF] at h
    split at h
    · cases h
      obtain ⟨u, us', rfl, r1, r2⟩ := RepL_cons.1 r
      rw [RepL_nil.1 r2]
      exact ⟨u, rfl, r1⟩
    · cases h
  | int k =>
    intro cs x us h r
    simp only [decX, intF] at h
    split at h
    · split at h
      · rename_i e; subst e
        cases h
        obtain ⟨u, us', rfl, r1, r2⟩ := RepL_cons.1 r
        rw [RepL_nil.1 r2]
        exact ⟨u, rfl, r1⟩
      · cases h
    · cases h
  | slice s ih =>
    intro cs x us h r
    simp only [decX, slF] at h
    split at h
    · cases h
      obtain ⟨u, us', rfl, r1, r2⟩ := RepL_cons.1 r
      rw [RepL_nil.1 r2]
      obtain rfl : u = .slice none 0 0 := r1
      exact ⟨_, rfl, none, 0, rfl, Nat.le_refl _, .inl rfl⟩
    · split at h
      · rename_i e; subst e
        cases h
        obtain ⟨u, us', rfl, r1, r2⟩ := RepL_cons.1 r
        rw [RepL_nil.1 r2]
        exact ⟨u, rfl, r1⟩
      · cases h
    · rename_i i n c o
      split at h
      · rename_i cs' hcs
        obtain ⟨hb, h⟩ := cond_some h
        have hb := ble_le hb
        obtain ⟨u, us', rfl, r1, r2⟩ := RepL_cons.1 r
        rw [RepL_nil.1 r2]
        obtain ⟨q, ad, cap, hq, rfl, hn, _, had, _⟩ := r1
        obtain ⟨vs, v1, v2⟩ := cellsF_spec S hq hcs
        obtain ⟨e1, e2⟩ := rowsF_spec _ _ _ h
        have hvl : vs.length = cs'.length := RepL_length v1
        refine ⟨_, rfl, some ad, cap, by rw [e1], by rw [e1]; exact hn, ?_⟩
        rcases had with z | rfl
        · refine .inl (List.eq_nil_of_length_eq_zero ?_)
          omega
        · refine .inr ⟨q.b, o, rfl, fun k y hy => ?_⟩
          have hk : k < n := by rw [← e1]; exact (List.getElem?_eq_some_iff.1 hy).1
          refine ⟨(vs.drop (o + k * s.size)).take s.size, ih _ _ _ (e2 k y hy) (RepL_take _ (RepL_drop _ v1)), fun j u hj => ?_⟩
          rw [List.getElem?_take] at hj
          split at hj
          · rw [List.getElem?_drop] at hj
            exact v2 _ _ hj
          · cases hj
      · cases h
    · cases h
  | st f ih => intro cs x us h r; exact ih cs x us h r
  | unit =>
    intro cs x us h r
    simp only [decX] at h
    obtain ⟨h1, h⟩ := cond_some h
    have : cs = [] := by simpa using h1
    subst this
    exact RepL_nil.1 r
  | pair a b iha ihb =>
    intro cs x us h r
    simp only [decX] at h
    obtain ⟨h1, h2⟩ := pairF_spec h
    have ha := iha _ _ _ h1 (RepL_take a.size r)
    have hb := ihb _ _ _ h2 (RepL_drop a.size r)
    exact ⟨_, _, (List.take_append_drop a.size us).symm, ha, hb⟩
  | _ => intro cs x us h r; simp only [decX] at h; cases h

theorem decVX_sound {hp : List XO} (S : SatM B m0 w0 n0 m bk hp w) (s : Shape) (v : EV) (x : s.Val) (u : Value) (h : decVX hp s v = some x) (r : Rep B.P m v (JX B.P bk) u) : (Reps B.P s).V m x u := by
  have r1 : RepL B.P m [v] (JX B.P bk) [u] := RepL_cons.2 ⟨u, [], rfl, r, RepL_nil.2 rfl⟩
  cases s with
  | bool => obtain ⟨u', e, k⟩ := decX_sound S .bool [v] x [u] h r1; cases e; exact k
  | int k => obtain ⟨u', e, k⟩ := decX_sound S (.int k) [v] x [u] h r1; cases e; exact k
  | slice s => obtain ⟨u', e, k⟩ := decX_sound S (.slice s) [v] x [u] h r1; cases e; exact k
  | st f =>
    cases v with
    | agg cs => obtain ⟨us, e, k⟩ := r; exact ⟨us, e, decX_sound S f _ _ _ h k⟩
    | _ => cases h
  | unit => cases h
  | pair a b => cases h
  | _ => simp only [decVX, decX] at h; cases h


theorem decAX_sound {hp : List XO} (S : SatM B m0 w0 n0 m bk hp w) : ∀ (s : Shape) (l : List EV) (x : s.Val) (us : List Value), decAX hp s l = some x → RepL B.P m l (JX B.P bk) us → (Reps B.P s).A m x us := by
  have one : ∀ (s : Shape) (l : List EV) (x : s.Val) (us : List Value), (∀ m x us, (∃ u, us = [u] ∧ (Reps B.P s).V m x u) → (Reps B.P s).A m x us) → (match l with
      | [v] => decVX hp s v
      | _ => none) = some x → RepL B.P m l (JX B.P bk) us → (Reps B.P s).A m x us := by
    intro s l x us hA h r
    split at h
    · obtain ⟨u, us', rfl, r1, r2⟩ := RepL_cons.1 r
      rw [RepL_nil.1 r2]
      exact hA _ _ _ ⟨u, rfl, decVX_sound S s _ x u h r1⟩
    · cases h
  intro s
  induction s with
  | bool => intro l x us h r; exact one .bool l x us (fun _ _ _ k => k) (by revert h; cases l with | nil => exact id | cons v t => cases t <;> exact id) r
  | int k => intro l x us h r; exact one (.int k) l x us (fun _ _ _ k => k) (by revert h; cases l with | nil => exact id | cons v t => cases t <;> exact id) r
  | slice s _ => intro l x us h r; exact one (.slice s) l x us (fun _ _ _ k => k) (by revert h; cases l with | nil => exact id | cons v t => cases t <;> exact id) r
  | st f _ => intro l x us h r; exact one (.st f) l x us (fun _ _ _ ⟨u, e, cs, k1, k2⟩ => ⟨cs, by rw [e, k1], k2⟩) (by revert h; cases l with | nil => exact id | cons v t => cases t <;> exact id) r
  | unit =>
    intro l x us h r
    simp only [decAX] at h
    obtain ⟨h1, h⟩ := cond_some h
    have : l = [] := by simpa using h1
    subst this
    exact RepL_nil.1 r
  | pair a b _ ihb =>
    intro l x us h r
    cases l with
    | nil => cases h
    | cons v t =>
      simp only [decAX] at h
      obtain ⟨h1, h2⟩ := pairF_spec h
      obtain ⟨u, us', rfl, r1, r2⟩ := RepL_cons.1 r
      exact ⟨u, us', rfl, decVX_sound S a v x.1 u h1 r1, ihb t x.2 us' h2 r2⟩
  | _ => intro l x us h r; cases l with
    | nil => cases h
    | cons v t => cases t <;> cases h

/-- What is told by contracts is so. -/
theorem thHook_ok : ∀ (l : List TH), (∀ t ∈ l, FnE B t.f (t.ins.compsE t.x) t.out (· = t.r)) → HkOK B (thHook l)
  | [], _ => fun f args hp v hp' h => by cases h
  | t :: l, hl => by
    intro f args hp v hp' h m0 w0 n0 m bk w us S r
    have ih := thHook_ok l (fun q hq => hl q (List.mem_cons_of_mem _ hq)) f args hp v hp'
    unfold thHook at h
    cases hf : Nat.beq t.f f with
    | false => rw [hf] at h; exact ih h m0 w0 n0 m bk w us S r
    | true =>
      rw [hf] at h
      simp only [cond_true] at h
      have hf := beq_eq hf
      split at h
      · rename_i q ht
        cases h
        unfold TH.try at ht
        split at ht
        · rename_i y hy
          obtain ⟨he, ht⟩ := cond_some ht
          have he := eqV_sound _ _ _ he
          cases ht
          obtain ⟨m1, S1, hle⟩ := SatM.frzX (closeX hp 5 (EV.idsL args)) S
          have hA := decAX_sound S1 t.ins args y us hy (RepL_mono hle _ (fun _ _ k => k) r)
          rw [he] at hA
          obtain ⟨hc, hF⟩ := hl t (List.mem_cons_self ..)
          subst hf
          refine .inr ⟨hc, (hF m1 w us S1.tab S1.hold (RepL_comps _ pureJ hA)).mono fun e w' ⟨v, m2, e1, e2, e3, e4, rr, q1, q2⟩ => ⟨v, e1, m2, bk, S1.world e2 e3 e4, Mem.le_trans hle e2.1, fun _ _ k => k, ?_⟩⟩
          subst q1
          exact Rep_enc _ _ q2
        · cases ht
      · exact ih h m0 w0 n0 m bk w us S r

/-- One after the other. -/
theorem HkOK.or {h1 h2 : Hooks} (k1 : HkOK B h1) (k2 : HkOK B h2) : HkOK B (fun f args hp => match h1 f args hp with
    | some q => some q
    | none => h2 f args hp) := by
  intro f args hp v hp' h
  dsimp only at h
  cases hq : h1 f args hp with
  | none => rw [hq] at h; exact k2 f args hp v hp' h
  | some q => rw [hq] at h; cases h; exact k1 f args hp v hp' hq
end
end Go.Proofs.YtgeefhjlfdidmaaGreatDoor.V

