/- The calculus of the program's functions and their contracts, part 10. No condition of its own. -/
import Derived.Test.YtgeefhjlfdidmaaGreatDoorM9
import Derived.Recover
import Derived.Lib.Bytealg
import Derived.ChangeArms
import Derived.Lib.LaidTab


/- The conditions of functions of the program, printed by a program of this session (wip/vc/vc.py), each tied to the function's own code by the kernel. -/
namespace Go.Proofs.YtgeefhjlfdidmaaGreatDoor.V
open Go
set_option linter.unusedVariables false
/- lustrum/denote.must, panicking -/
noncomputable def gp_denote_must : Cfg := { toBase := bs, lv := fun _ => ([], [], []), rows := [] }
def cp_denote_must (s : List (Int × Int)) (e : Int) (Q : Nat → Int → Prop) : Prop := (cond (!decide (e = (0 : Int))) (Q 51 e) False)
theorem ep_denote_must (s : List (Int × Int)) (e : Int) (Q : Nat → Int → Prop) : gp_denote_must.fnPK [] 95 [(.p (.slice sRun) s), (.p (.int .i64) e)] Q = cp_denote_must s e Q := by kernel_rfl
/- lustrum/denote.units, panicking -/
noncomputable def gp_denote_units : Cfg := { toBase := bs, lv := fun _ => ([], [], []), rows := [], han := hanL bs [(9, .raw (.tup (.pair (.slice sRun) (.int .i64))))] }
def cp_denote_units (k : Int) (y : ByteArray) (m : ByteArray) (d : ByteArray) (Q : Nat → Int → Prop) : Prop := (callAP bs 9 [(.agg [(.p (.int .i64) k), (.raw (.string y)), (.raw (.string m)), (.raw (.string d))])] (.tup (.pair (.slice sRun) (.int .i64))) (fun r1 => (callPP bs 95 [(.p (.slice sRun) r1.1), (.p (.int .i64) r1.2)] Q)))
theorem ep_denote_units (k : Int) (y : ByteArray) (m : ByteArray) (d : ByteArray) (Q : Nat → Int → Prop) : gp_denote_units.fnPK [95] 53 [(.agg [(.p (.int .i64) (0 : Int)), (.p (.int .i64) k), (.raw (.string y)), (.raw (.string m)), (.raw (.string d)), (.p .bool false), (.p .bool false), (.raw (.slice none 0 0))])] Q = cp_denote_units k y m d Q := by kernel_rfl
/- lustrum/denote.leaves, panicking -/
noncomputable def gp_denote_leaves : Cfg := { toBase := bs, lv := fun _ => ([], [], []), rows := [4] }
def cp_denote_leaves (k : Int) (y : ByteArray) (m : ByteArray) (d : ByteArray) (Q : Nat → Int → Prop) : Prop := (cond (decide ((0 : Int) = (0 : Int))) ((((callPP bs 53 [(.agg [(.p (.int .i64) (0 : Int)), (.p (.int .i64) k), (.raw (.string y)), (.raw (.string m)), (.raw (.string d)), (.p .bool false), (.p .bool false), (.raw (.slice none 0 0))])] Q) ∧ ((callPP bs 53 [(.agg [(.p (.int .i64) (0 : Int)), (.p (.int .i64) k), (.raw (.string y)), (.raw (.string m)), (.raw (.string d)), (.p .bool false), (.p .bool false), (.raw (.slice none 0 0))])] Q) ∧ (callPP bs 53 [(.agg [(.p (.int .i64) (0 : Int)), (.p (.int .i64) k), (.raw (.string y)), (.raw (.string m)), (.raw (.string d)), (.p .bool false), (.p .bool false), (.raw (.slice none 0 0))])] Q))) ∧ (((callPP bs 53 [(.agg [(.p (.int .i64) (0 : Int)), (.p (.int .i64) k), (.raw (.string y)), (.raw (.string m)), (.raw (.string d)), (.p .bool false), (.p .bool false), (.raw (.slice none 0 0))])] Q) ∧ (callPP bs 53 [(.agg [(.p (.int .i64) (0 : Int)), (.p (.int .i64) k), (.raw (.string y)), (.raw (.string m)), (.raw (.string d)), (.p .bool false), (.p .bool false), (.raw (.slice none 0 0))])] Q)) ∧ (callPP bs 53 [(.agg [(.p (.int .i64) (0 : Int)), (.p (.int .i64) k), (.raw (.string y)), (.raw (.string m)), (.raw (.string d)), (.p .bool false), (.p .bool false), (.raw (.slice none 0 0))])] Q))) ∧ ((((callPP bs 53 [(.agg [(.p (.int .i64) (0 : Int)), (.p (.int .i64) k), (.raw (.string y)), (.raw (.string m)), (.raw (.string d)), (.p .bool false), (.p .bool false), (.raw (.slice none 0 0))])] Q) ∧ (callPP bs 53 [(.agg [(.p (.int .i64) (0 : Int)), (.p (.int .i64) k), (.raw (.string y)), (.raw (.string m)), (.raw (.string d)), (.p .bool false), (.p .bool false), (.raw (.slice none 0 0))])] Q)) ∧ (callPP bs 53 [(.agg [(.p (.int .i64) (0 : Int)), (.p (.int .i64) k), (.raw (.string y)), (.raw (.string m)), (.raw (.string d)), (.p .bool false), (.p .bool false), (.raw (.slice none 0 0))])] Q)) ∧ (callPP bs 53 [(.agg [(.p (.int .i64) (0 : Int)), (.p (.int .i64) k), (.raw (.string y)), (.raw (.string m)), (.raw (.string d)), (.p .bool false), (.p .bool false), (.raw (.slice none 0 0))])] Q))) (cond (decide ((0 : Int) = (1 : Int))) False (loopP (S := (Unit × Int)) (fun z1 back2 => False) ((), (0 : Int)))))
theorem ep_denote_leaves (k : Int) (y : ByteArray) (m : ByteArray) (d : ByteArray) (Q : Nat → Int → Prop) : gp_denote_leaves.fnPK [53] 25 [(.agg [(.p (.int .i64) (0 : Int)), (.p (.int .i64) k), (.raw (.string y)), (.raw (.string m)), (.raw (.string d)), (.p .bool false), (.p .bool false), (.raw (.slice none 0 0))])] Q = cp_denote_leaves k y m d Q := by kernel_rfl
end Go.Proofs.YtgeefhjlfdidmaaGreatDoor.V


/- A RUN of this program: functions without a body; the function that recovers, where nothing panics. No condition of its own. -/
namespace Go.Proofs.YtgeefhjlfdidmaaGreatDoor.V
open Go Go.RowKit
set_option linter.unusedVariables false
set_option linter.unusedSimpArgs false

/-! ### Functions without a body -/

def exHook : Hooks := fun f args hp =>
  cond (Nat.beq f 252) (match args with
    | [.raw (.string s), .p (.int .u8) c] => some (.p (.int .i64) (Lib.indexByte s.data.toList (Int.toNat c).toUInt8), hp)
    | _ => none)
  (cond (Nat.beq f 161) (match args with
    | [.raw (.string s), .p (.int .u8) c] => some (.p (.int .i64) ((Lib.countByte s.data.toList (Int.toNat c).toUInt8 : Nat) : Int), hp)
    | _ => none)
  (cond (Nat.beq f 139) (match args with
    | [v] => some (v, hp)
    | _ => none) none))

theorem exHook_ok : HkOK bs exHook := by
  intro f args hp v hp' h m0 w0 n0 m bk w us S r
  have same : ∀ {v : EV} {u : Value}, Rep bs.P m v (JX bs.P bk) u → ResX bs m0 w0 n0 m bk v hp u w := fun k => ⟨m, bk, S, Mem.le_refl m, fun _ _ q => q, k⟩
  unfold exHook at h
  cases h1 : Nat.beq f 252 with
  | true =>
    rw [h1] at h
    have h1 := beq_eq h1
    subst h1
    simp only [cond_true] at h
    split at h
    · rename_i s c
      cases h
      obtain ⟨u1, us1, rfl, r1, r2⟩ := RepL_cons.1 r
      obtain ⟨u2, us2, rfl, r3, r4⟩ := RepL_cons.1 r2
      rw [RepL_nil.1 r4]
      obtain rfl : u1 = .string s := r1
      obtain rfl : u2 = .int .u8 c := r3
      refine .inl ⟨_, w, ?_, same rfl⟩
      rw [run_callFunc_extern (P := bs.P) (fn := Tryz.f252) (by kernel_rfl) (by kernel_rfl) (by kernel_rfl) (by kernel_rfl) (e := Extern.BytealgIndexByte.indexByte) (by kernel_rfl), Lib.run_indexByteString]
      rfl
    · cases h
  | false =>
    rw [h1] at h
    simp only [cond_false] at h
    cases h2 : Nat.beq f 161 with
    | true =>
      rw [h2] at h
      have h2 := beq_eq h2
      subst h2
      simp only [cond_true] at h
      split at h
      · rename_i s c
        cases h
        obtain ⟨u1, us1, rfl, r1, r2⟩ := RepL_cons.1 r
        obtain ⟨u2, us2, rfl, r3, r4⟩ := RepL_cons.1 r2
        rw [RepL_nil.1 r4]
        obtain rfl : u1 = .string s := r1
        obtain rfl : u2 = .int .u8 c := r3
        refine .inl ⟨_, w, ?_, same rfl⟩
        rw [run_callFunc_extern (P := bs.P) (fn := Tryz.f161) (by kernel_rfl) (by kernel_rfl) (by kernel_rfl) (by kernel_rfl) (e := Extern.BytealgCount.count) (by kernel_rfl), Lib.run_countString]
        rfl
      · cases h
    | false =>
      rw [h2] at h
      simp only [cond_false] at h
      cases h3 : Nat.beq f 139 with
      | true =>
        rw [h3] at h
        have h3 := beq_eq h3
        subst h3
        simp only [cond_true] at h
        split at h
        · cases h
          obtain ⟨u1, us1, rfl, r1, r2⟩ := RepL_cons.1 r
          rw [RepL_nil.1 r2]
          refine .inl ⟨_, w, ?_, same r1⟩
          rw [run_callFunc_extern (P := bs.P) (fn := Tryz.f139) (by kernel_rfl) (by kernel_rfl) (by kernel_rfl) (by kernel_rfl) (e := Extern.AbiNoEscape.same) (by kernel_rfl)]
          rfl
        · cases h
      | false => rw [h3] at h; cases h

/-! ### The deferred function, where nothing panics -/

theorem recovers_none (p q : Value) (w : World) : CallsD bs.P 24 #[p, q] .returning w (fun e u w' => ∃ v, e = .returned v ∧ u = .returning ∧ w' = w) := by
  refine callsD_of_wpS (fn := Tryz.f24) (by kernel_rfl) rfl fun c0 cs hm => ?_
  have hrec : recoverD (c0 :: cs) = none := by simp [recoverD, hm]
  refine wpS_seq (wpS_region ?_)
  simp [wpOpsS, List.range, List.range.loop, Region.wanted, execOp, resolve, invoke, builtin, hrec, Oper.upon, Act.put, Act.eval]
  refine wpS_of_wp (wp_seq (wp_region_list ?_))
  have hu : bs.P.underlying 20 = some (.interface #[]) := by kernel_rfl
  obtain ⟨e1, e2, e3, e4⟩ := nilX_sound (B := bs) (m := fun _ _ => none) (bk := []) (w := w) (t := 20) (x := .raw .nilIface) (u := .nilIface) (v := .nilIface) (b := true) (by rw [hu]; rfl) rfl (.tmp 4) .nilIface
  simp [wpList, Region.wanted, Oper.wp, execOp, Oper.upon, Act.put, Act.eval]
  refine .inl ?_
  simp only [e2 .neq, e4, e1, Sem.run_bind, Sem.run_pure, Result.andThen_ok, Bool.not_true]
  refine .inl ?_
  show Code.wp bs.P (Code.cond (Operand.tmp 5) _ Code.skip) _ _ w
  refine wp_cond_false (by rfl) (wp_skip ⟨rfl, .returning, ?_, .tuple #[], ?_, ⟨_, rfl⟩, rfl, rfl⟩)
  · rw [← hm]
  · kernel_rfl

/-! ### denote.Of, where nothing panics -/

def seqL : Code → Code
  | .seq a _ => a
  | c => c
def seqR : Code → Code
  | .seq _ b => b
  | c => c

noncomputable def ofBody : Code := (Tryz.f8.body).getD .skip

/-- The two operations that lay the deferred call, and what they defer. -/
def ofDefer (B : Base) (hk : Hooks) (n : Nat) (c : Code) (st : XS) : Option XS :=
  match c with
  | .region _ ops false => match ops.toList with
    | [o1, o2] => match B.xop1 hk n ops o1 st with
      | some st => match o2.dst, o2.op, o2.guard with
        | none, .defer { callee := .value (.tmp t), args := ax, .. }, none => cond ax.isEmpty (match at0 st.env t with
          | .clo (.func g) [] [p, q] => cond (Nat.beq g 24) (some st) none
          | _ => none) none
        | _, _, _ => none
      | none => none
    | _ => none
  | _ => none

noncomputable def ofRun (hk : Hooks) (n : Nat) (args : List EV) (hp : List XO) : Option (EV × List XO) :=
  cond (Nat.ble args.length Tryz.f8.ntmps) (match bs.xrun hk n (seqL ofBody) { env := args ++ bots (Tryz.f8.ntmps - args.length), hp := hp } with
  | some (.normal, st) => match bs.xrun hk n (seqL (seqR ofBody)) st with
    | some (.normal, st) => match ofDefer bs hk n (seqL (seqR (seqR ofBody))) st with
      | some st => match bs.xrun hk n (seqR (seqR (seqR ofBody))) st with
        | some (.ret, st) => (resX bs st.env st.hp Tryz.f8.results.toList).map fun vs => (retV vs, st.hp)
        | _ => none
      | none => none
    | _ => none
  | _ => none) none

noncomputable def ofHook (hk : Hooks) (n : Nat) : Hooks := fun f args hp => cond (Nat.beq f 8) (ofRun hk n args hp) none

theorem ofHook_ok {hk : Hooks} (H : HkOK bs hk) (n : Nat) : HkOK bs (ofHook hk n) := by
  intro f args hp v hp' h m0 w0 n0 m bk w us S r
  unfold ofHook at h
  replace h := cond_some h
  obtain ⟨hf, h⟩ := h
  have hf := beq_eq hf
  subst hf
  unfold ofRun at h
  replace h := cond_some h
  obtain ⟨hn, h⟩ := h
  have I := runOK H n
  have hfn : bs.P.funcs[8]? = some Tryz.f8 := by kernel_rfl
  have hbody : Tryz.f8.body = some ofBody := rfl
  refine .inr ⟨⟨_, _, hfn, hbody, by kernel_rfl⟩, calls_of_wp_defers hfn hbody ?_⟩
  have S0 := enterX S r (ble_le hn)
  have hsplit : ofBody = .seq (seqL ofBody) (.seq (seqL (seqR ofBody)) (.seq (seqL (seqR (seqR ofBody))) (seqR (seqR (seqR ofBody))))) := rfl
  split at h
  · rename_i st1 h1
    split at h
    · rename_i st2 h2
      split at h
      · rename_i st3 h3
        split at h
        · rename_i st4 h4
          obtain ⟨vs, h5, h6⟩ := map_some' h
          cases h6
          rw [hsplit]
          refine wp_seq (wp_mono (I.run _ _ _ _ h1 m0 w0 n0 [] m bk _ w S0) fun e a1 w1 r1 => ?_)
          cases e with
          | normal =>
            obtain ⟨_, m1, bk1, S1, g1, k1⟩ := r1
            refine wp_seq (wp_mono (I.run _ _ _ _ h2 m0 w0 n0 [] m1 bk1 _ w1 S1) fun e a2 w2 r2 => ?_)
            cases e with
            | normal =>
              obtain ⟨_, m2, bk2, S2, g2, k2⟩ := r2
              refine wp_seq ?_
              unfold ofDefer at h3
              split at h3
              · rename_i id ops hc
                split at h3
                · rename_i o1 o2 ho
                  split at h3
                  · rename_i st3' h3'
                    split at h3
                    · rename_i t ax ats hd hop hg
                      obtain ⟨hemp, h3⟩ := cond_some h3
                      split at h3
                      · rename_i g p q hclo
                        obtain ⟨hgg, h3⟩ := cond_some h3
                        cases h3
                        have hgg := beq_eq hgg
                        subst hgg
                        rw [hc]
                        refine wp_region_list ?_
                        rw [ho]
                        unfold wpList
                        have fin : ∀ a3 w3, RchX bs m0 w0 n0 [] m2 bk2 st3 a3 w3 → wpList bs.P ops (Exit.then (Code.wp bs.P (seqR (seqR (seqR ofBody))) (bodyPostD bs.P Tryz.f8 fun e w' => ∃ u, e = .returned u ∧ ResX bs m0 w0 n0 m bk (retV vs) st4.hp u w')) (bodyPostD bs.P Tryz.f8 fun e w' => ∃ u, e = .returned u ∧ ResX bs m0 w0 n0 m bk (retV vs) st4.hp u w')) [o2] a3 w3 := by
                          intro a3 w3 ⟨m3, bk3, S3, g3, k3⟩
                          have hax : ax = #[] := by simpa using hemp
                          subst hax
                          have ht := S3.env t
                          rw [hclo] at ht
                          obtain ⟨xs, ys, e1, e2, e3⟩ := ht
                          rw [RepL_nil.1 e2] at e1
                          obtain ⟨up, ys1, rfl, _, e5⟩ := RepL_cons.1 e3
                          obtain ⟨uq, ys2, rfl, _, e7⟩ := RepL_cons.1 e5
                          rw [RepL_nil.1 e7] at e1
                          obtain ⟨dst, op, ty, pos, after, guard⟩ := o2
                          dsimp only at hd hop hg
                          subst hd hop hg
                          unfold wpList
                          rw [if_pos (show Region.wanted _ _ = true from rfl)]
                          refine .inl ?_
                          unfold Oper.wp
                          have hrun : (execOp a3.eval ⟨none, .defer { callee := .value (.tmp t), args := #[], argTypes := ats }, ty, pos, after, none⟩).run bs.P w3 = .ok (.defer { target := .fn (.func 24) #[up, uq], args := #[] }) w3 := by
                            have he : a3.eval (.tmp t) = .func (.func 24) #[] #[up, uq] := e1
                            simp [execOp, resolve, he, Deferred.ofValue]
                          rw [hrun, Oper.upon_defer]
                          have S4 : SatX bs m0 w0 n0 [{ target := .fn (.func 24) #[up, uq], args := #[] }] m3 bk3 st3 { a3 with defers := { target := .fn (.func 24) #[up, uq], args := #[] } :: a3.defers } w3 :=
                            { S3 with defers := by rw [S3.defers] }
                          refine wp_mono (I.run _ _ _ _ h4 m0 w0 n0 _ m3 bk3 _ w3 S4) fun e a5 w5 r5 => ?_
                          cases e with
                          | ret =>
                            obtain ⟨_, m5, bk5, S5, g5, k5⟩ := r5
                            show Leaves _ _ _ _ a5.defers _ _
                            rw [S5.defers]
                            refine ⟨by simp, .func 24, #[up, uq], 24, #[up, uq], rfl, ?_, (recovers_none up uq w5).mono fun e u' w' ⟨vv, q1, q2, q3⟩ => ?_⟩
                            · show (callFunc 24 (#[] ++ #[up, uq])).run bs.P w5 = _
                              rw [run_callFunc ⟨Tryz.f24, _, by kernel_rfl, rfl, by kernel_rfl⟩]
                              rfl
                            · subst q1 q2 q3
                              obtain ⟨us2, q3, q4⟩ := resultsX S5.mem S5.env h5
                              refine ⟨_, q4, _, rfl, m5, bk5, S5.mem, ?_, ?_, retV_rep q3⟩
                              · exact Mem.le_trans g1 (Mem.le_trans g2 (Mem.le_trans g3 g5))
                              · exact fun i b k => k5 i b (k3 i b (k2 i b (k1 i b k)))
                          | _ => first | exact r5.elim | cases r5.1
                        rcases I.op1 _ _ _ _ h3' m0 w0 n0 [] m2 bk2 a2 w2 S2 _ (Exit.then (Code.wp bs.P (seqR (seqR (seqR ofBody))) (bodyPostD bs.P Tryz.f8 fun e w' => ∃ u, e = .returned u ∧ ResX bs m0 w0 n0 m bk (retV vs) st4.hp u w')) (bodyPostD bs.P Tryz.f8 fun e w' => ∃ u, e = .returned u ∧ ResX bs m0 w0 n0 m bk (retV vs) st4.hp u w')) (fun a3 w3 k _ => fin a3 w3 k) with ⟨q1, q2⟩ | ⟨q1, q2⟩
                        · rw [if_pos q1]; exact .inl q2
                        · rw [if_neg (by rw [q1]; exact Bool.false_ne_true)]; exact q2
                      · cases h3
                    · cases h3
                  · cases h3
                · cases h3
              · cases h3
            | _ => first | exact r2.elim | cases r2.1
          | _ => first | exact r1.elim | cases r1.1
        · cases h
      · cases h
    · cases h
  · cases h
end Go.Proofs.YtgeefhjlfdidmaaGreatDoor.V


/- The answers of typed functions that the run of awake meets, and a run as a contract. No condition of its own. -/
namespace Go.Proofs.YtgeefhjlfdidmaaGreatDoor.V
open Go Go.RowKit
set_option linter.unusedVariables false
set_option linter.unusedSimpArgs false

def awL : List Leaf := [(true, 0, [(724641, 724641)], [(724731, 724731)]), (false, 4, [(198, 198)], [])]

theorem aw_m1 : marksF VCal.ufirst 1 [(23808, 23808)] = ([(724641, 724641)], true) := by kernel_rfl
theorem aw_m2 : marksF VCal.ufirst 1 [(23810, 23810)] = ([(724701, 724701)], true) := by kernel_rfl
theorem aw_m3 : marksF VCal.ufirst 4 [(198, 198)] = ([(723180, 723180)], true) := by kernel_rfl
theorem aw_m4 : marksF VCal.ulast 1 [(23810, 23810)] = ([(724731, 724731)], true) := by kernel_rfl
theorem aw_day : dayF (·.1) awL = (723180, 0) := by kernel_rfl

theorem awFew : FewL 1000 awL := ⟨by decide, fun f hf => by
  simp only [awL, List.mem_cons, List.not_mem_nil, or_false] at hf
  rcases hf with rfl | rfl <;> exact ⟨by decide, by decide⟩⟩

theorem aw_dec {p : Prop} (i : Decidable p) (h : p) : @decide p i = true := by
  cases i with
  | isTrue _ => rfl
  | isFalse k => exact absurd h k

theorem aw_pos : ∃ f ∈ awL, CoversF f 724641 :=
  ⟨(true, 0, [(724641, 724641)], [(724731, 724731)]), List.mem_cons_self .., show (724641 : Int) ≤ 724641 ∧ (724641 : Int) ≤ 724731 from ⟨by decide, by decide⟩⟩

abbrev shM : Shape := .pair (.int .i64) (.slice sRun)
abbrev shO : Shape := .tup (.pair (.slice sRun) .bool)
def awTH : List TH := [⟨n_image_Starts, shM, shO, ((1 : Int), [((23808 : Int), (23808 : Int))]), ([((724641 : Int), (724641 : Int))], true)⟩, ⟨n_image_Starts, shM, shO, ((1 : Int), [((23810 : Int), (23810 : Int))]), ([((724701 : Int), (724701 : Int))], true)⟩,
  ⟨n_image_Starts, shM, shO, ((4 : Int), [((198 : Int), (198 : Int))]), ([((723180 : Int), (723180 : Int))], true)⟩, ⟨n_image_Ends, shM, shO, ((1 : Int), [((23810 : Int), (23810 : Int))]), ([((724731 : Int), (724731 : Int))], true)⟩,
  ⟨n_env_Earliest, .slice sApiLeaf, .tup (.pair (.int .i64) (.int .i64)), awL, ((723180 : Int), (0 : Int))⟩, ⟨n_cover_Possible, .pair (.slice sApiLeaf) (.int .i64), .bool, (awL, (724641 : Int)), true⟩]

theorem awTH_ok : ∀ t ∈ awTH, FnE bs t.f (t.ins.compsE t.x) t.out (· = t.r) := by
  intro t ht
  simp only [awTH, List.mem_cons, List.not_mem_nil, or_false] at ht
  rcases ht with rfl | rfl | rfl | rfl | rfl | rfl
  · have h := ok_image_Starts (u := 1) (s := [(23808, 23808)]) (by decide); rw [aw_m1] at h; exact h
  · have h := ok_image_Starts (u := 1) (s := [(23810, 23810)]) (by decide); rw [aw_m2] at h; exact h
  · have h := ok_image_Starts (u := 4) (s := [(198, 198)]) (by decide); rw [aw_m3] at h; exact h
  · have h := ok_image_Ends (u := 1) (s := [(23810, 23810)]) (by decide); rw [aw_m4] at h; exact h
  · have h := ok_env_Earliest awFew; rw [aw_day] at h; exact h
  · exact (ok_cover_Possible (d := 724641) awFew).mono fun r hr => hr.trans (aw_dec _ aw_pos)

noncomputable def awH0 : Hooks := fun f args hp => match thHook awTH f args hp with
  | some q => some q
  | none => exHook f args hp

theorem awH0_ok : HkOK bs awH0 := (thHook_ok awTH awTH_ok).or exHook_ok

theorem JX_pure {P : Program} {bk : List Bk} : ∀ (e : EV) (u : Value), pureJ e u → JX P bk e u := fun _ _ h => h.elim

/-- A run that ends with a value of a shape, as a contract. -/
theorem fnE_run {hk : Hooks} (H : HkOK bs hk) {n : Nat} {f : FuncId} {args : List EV} {s : Shape} {r : s.Val} (hc : Callable bs.P f) (h : ∃ hp', bs.xcall hk n f args [] = some (.p s r, hp')) : FnE bs f args s (· = r) := by
  obtain ⟨hp', h⟩ := h
  refine ⟨hc, fun m w us htab hh ha => ?_⟩
  have S : SatM bs m w w.heap.size m [] [] w := { hold := hh, tab := htab, ext := Mem.ext_refl _ _, below := Below.refl _ _, base := Nat.le_refl _, len := rfl, objs := fun i q hq => (by simp at hq), apart := fun i j q r _ hq => (by simp at hq) }
  rcases (runOK H n).call f args [] _ _ h m w w.heap.size m [] w us S (RepL_mono (Mem.le_refl m) args JX_pure ha) with ⟨u, w', h1, _⟩ | ⟨_, hC⟩
  · rw [run_callFunc hc] at h1; cases h1
  · refine hC.mono fun e w' ⟨u, h1, m', bk', S', hle, _, hr⟩ => ⟨u, m', h1, S'.ext, S'.hold, S'.below, r, rfl, hr⟩

/-- A run's answer, if it is a bool; a number. -/
def xBool : Option (EV × List XO) → Option Bool
  | some (.p .bool b, _) => some b
  | _ => none

def xInt : Option (EV × List XO) → Option Int
  | some (.p (.int .i64) n, _) => some n
  | _ => none

theorem xBool_spec {o : Option (EV × List XO)} {b : Bool} (h : xBool o = some b) : ∃ hp', o = some (.p .bool b, hp') := by
  unfold xBool at h
  split at h
  · cases h; exact ⟨_, rfl⟩
  · cases h

theorem xInt_spec {o : Option (EV × List XO)} {n : Int} (h : xInt o = some n) : ∃ hp', o = some (.p (.int .i64) n, hp') := by
  unfold xInt at h
  split at h
  · cases h; exact ⟨_, rfl⟩
  · cases h
end Go.Proofs.YtgeefhjlfdidmaaGreatDoor.V


/- Contracts at very values that answer with a very value; runs as contracts. No condition of its own. -/
namespace Go.Proofs.YtgeefhjlfdidmaaGreatDoor.V
open Go Go.RowKit
set_option linter.unusedVariables false
set_option linter.unusedSimpArgs false

/-- Called at these values a function answers with that one. -/
def FnV (B : Base) (f : FuncId) (args : List EV) (v : EV) : Prop :=
  Callable B.P f ∧ ∀ m w us, TabOK B.tab m → Holds w m → RepL B.P m args pureJ us → Calls B.P f us.toArray w (PostOf (fun m u => Rep B.P m v pureJ u) m w)

structure RH where
  f : FuncId
  args : List EV
  v : EV

def rhHook : List RH → Hooks
  | [] => fun _ _ _ => none
  | t :: l => fun f args hp => cond (Nat.beq t.f f && eqEL args t.args && noIds (EV.idsL t.args)) (some (t.v, hp)) (rhHook l f args hp)

theorem noIds_nil {l : List Nat} (h : noIds l = true) : l = [] := by
  unfold noIds at h
  split at h
  · rfl
  · cases h

theorem rhHook_ok {B : Base} : ∀ (l : List RH), (∀ t ∈ l, FnV B t.f t.args t.v) → HkOK B (rhHook l)
  | [], _ => fun f args hp v hp' h => by cases h
  | t :: l, hl => by
    intro f args hp v hp' h m0 w0 n0 m bk w us S r
    unfold rhHook at h
    cases hb : (Nat.beq t.f f && eqEL args t.args && noIds (EV.idsL t.args)) with
    | true =>
      rw [hb] at h
      simp only [Bool.and_eq_true] at hb
      have hf := beq_eq hb.1.1
      have ha := eqEL_sound _ _ hb.1.2
      have hn := noIds_nil hb.2
      subst hf
      cases h
      obtain ⟨hc, hF⟩ := hl t (List.mem_cons_self ..)
      rw [ha] at r
      refine .inr ⟨hc, (hF m w us S.tab S.hold (RepL_noIds _ hn r)).mono fun e w' ⟨u, m2, e1, e2, e3, e4, q⟩ => ⟨u, e1, m2, bk, S.world e2 e3 e4, e2.1, fun _ _ k => k, Rep_mono (Mem.le_refl m2) _ JX_pure q⟩⟩
    | false =>
      rw [hb] at h
      exact rhHook_ok l (fun q hq => hl q (List.mem_cons_of_mem _ hq)) f args hp v hp' h m0 w0 n0 m bk w us S r

theorem FnE.toV {B : Base} {f : FuncId} {args : List EV} {s : Shape} {r : s.Val} (h : FnE B f args s (· = r)) : FnV B f args (s.enc r) :=
  ⟨h.1, fun m w us a b c => (h.2 m w us a b c).mono fun e w' ⟨v, m', e1, e2, e3, e4, x, q1, q2⟩ => ⟨v, m', e1, e2, e3, e4, by subst q1; exact Rep_enc s _ q2⟩⟩

theorem satM_start {B : Base} {m : Mem} {w : World} (htab : TabOK B.tab m) (hh : Holds w m) : SatM B m w w.heap.size m [] [] w :=
  { hold := hh, tab := htab, ext := Mem.ext_refl _ _, below := Below.refl _ _, base := Nat.le_refl _, len := rfl, objs := fun i q hq => (by simp at hq), apart := fun i j q r _ hq => (by simp at hq) }

theorem run_calls {hk : Hooks} (H : HkOK bs hk) {n : Nat} {f : FuncId} {args : List EV} {v : EV} {hp' : List XO} (hc : Callable bs.P f) (h : bs.xcall hk n f args [] = some (v, hp')) {m : Mem} {w : World} {us : List Value} (htab : TabOK bs.tab m) (hh : Holds w m) (ha : RepL bs.P m args pureJ us) :
    Calls bs.P f us.toArray w fun e w' => ∃ u, e = .returned u ∧ ResX bs m w w.heap.size m [] v hp' u w' := by
  rcases (runOK H n).call f args [] _ _ h m w w.heap.size m [] w us (satM_start htab hh) (RepL_mono (Mem.le_refl m) args JX_pure ha) with ⟨u, w', h1, _⟩ | ⟨_, hC⟩
  · rw [run_callFunc hc] at h1; cases h1
  · exact hC

/-- A run that ends with a string. -/
def xStr : Option (EV × List XO) → Option ByteArray
  | some (.raw (.string b), _) => some b
  | _ => none

theorem fnV_str {hk : Hooks} (H : HkOK bs hk) {n : Nat} {f : FuncId} {args : List EV} {b : ByteArray} (hc : Callable bs.P f) (h : (xStr (bs.xcall hk n f args [])).map (eqS b) = some true) : FnV bs f args (.raw (.string b)) := by
  cases hx : bs.xcall hk n f args [] with
  | none => rw [hx] at h; cases h
  | some q =>
    obtain ⟨v, hp'⟩ := q
    rw [hx] at h
    have hv : v = .raw (.string b) := by
      unfold xStr at h
      split at h
      · rename_i b' _ e
        cases e
        have := eqS_spec.1 (Option.some.inj h)
        rw [this]
      · cases h
    subst hv
    refine ⟨hc, fun m w us htab hh ha => ?_⟩
    refine (run_calls H hc hx htab hh ha).mono fun e w' ⟨u, h1, m', bk', S', hle, _, hr⟩ => ⟨u, m', h1, S'.ext, S'.hold, S'.below, hr⟩

/-- A run's answer of several values, as typed ones: what they lead to is written no more. -/
def xTup (f : Shape) : Option (EV × List XO) → Option f.Val
  | some (.tup vs, hp) => decAX (frzX (closeX hp 5 (EV.idsL vs)) hp) f vs
  | _ => none

theorem fnE_tup {hk : Hooks} (H : HkOK bs hk) {n : Nat} {f : FuncId} {args : List EV} {s : Shape} {r : s.Val} (hc : Callable bs.P f) (h : xTup s (bs.xcall hk n f args []) = some r) : FnE bs f args (.tup s) (· = r) := by
  cases hx : bs.xcall hk n f args [] with
  | none => rw [hx] at h; cases h
  | some q =>
    obtain ⟨v, hp'⟩ := q
    rw [hx] at h
    unfold xTup at h
    split at h
    · rename_i vs hp e
      cases e
      refine ⟨hc, fun m w us htab hh ha => ?_⟩
      refine (run_calls H hc hx htab hh ha).mono fun e w' ⟨u, h1, m', bk', S', hle, _, hr⟩ => ?_
      obtain ⟨qs, e1, e2⟩ := hr
      obtain ⟨m1, S1, hle1⟩ := SatM.frzX (closeX hp' 5 (EV.idsL vs)) S'
      exact ⟨u, m1, h1, S1.ext, S1.hold, S1.below, r, rfl, qs, e1, decAX_sound S1 s vs r qs h (RepL_mono hle1 _ (fun _ _ k => k) e2)⟩
    · cases h

/-! ### A run's end, told once -/

/-- All objects but some are given up. -/
def deadL (keep : List Nat) : List XO → List XO
  | [] => []
  | x :: r => cond (keep.contains r.length) x .dead :: deadL keep r

theorem deadL_length (keep : List Nat) : ∀ l : List XO, (deadL keep l).length = l.length
  | [] => rfl
  | x :: r => by simp [deadL, deadL_length keep r]

theorem getO_deadL (keep : List Nat) : ∀ (l : List XO) (i : Nat), getO (deadL keep l) i = getO l i ∨ getO (deadL keep l) i = .dead
  | [], i => .inl rfl
  | x :: r, 0 => by
    show cond _ x XO.dead = x ∨ cond _ x XO.dead = XO.dead
    cases keep.contains r.length
    · exact .inr rfl
    · exact .inl rfl
  | x :: r, i + 1 => getO_deadL keep r i

theorem objX_deadL (keep : List Nat) (l : List XO) (i : Nat) : objX (deadL keep l) i = objX l i ∨ objX (deadL keep l) i = .dead := by
  unfold objX
  rw [deadL_length]
  cases Nat.blt i l.length
  · exact .inl rfl
  · exact getO_deadL keep l _

theorem SatM.deadL {B : Base} {m0 : Mem} {w0 : World} {n0 : Nat} {m : Mem} {bk : List Bk} {hp : List XO} {w : World} (keep : List Nat) (S : SatM B m0 w0 n0 m bk hp w) : SatM B m0 w0 n0 m bk (deadL keep hp) w := by
  refine { S with len := by rw [deadL_length]; exact S.len, objs := fun i q hq => ?_, apart := fun i j q r hij hi hj hb => ?_ }
  · obtain ⟨h1, h2⟩ := S.objs i q hq
    refine ⟨h1, ?_⟩
    rcases objX_deadL keep hp i with e | e
    · rw [e]; exact h2
    · rw [e]; trivial
  · rcases S.apart i j q r hij hi hj hb with e | e
    · rcases objX_deadL keep hp i with k | k
      · exact .inl (k.trans e)
      · exact .inl k
    · rcases objX_deadL keep hp j with k | k
      · exact .inr (k.trans e)
      · exact .inr k

/-- At these very values, nothing laid yet: this answer, over these objects. -/
def atHook (f : FuncId) (args : List EV) (v : EV) (h : List XO) : Hooks := fun f' args' hp => cond (Nat.beq f f' && eqEL args' args && hp.isEmpty) (some (v, h)) none

theorem atHook_ok {hk : Hooks} (H : HkOK bs hk) {n : Nat} {f : FuncId} {args : List EV} {v : EV} {keep : List Nat} {h : List XO} (hc : Callable bs.P f)
    (hr : (bs.xcall hk n f args []).map (fun q => eqE q.1 v && eqOL (deadL keep q.2) h) = some true) : HkOK bs (atHook f args v h) := by
  intro f' args' hp v' hp' hh m0 w0 n0 m bk w us S r
  unfold atHook at hh
  obtain ⟨hb, hh2⟩ := cond_some hh
  clear hh
  simp only [Bool.and_eq_true] at hb
  have hf := beq_eq hb.1.1
  have ha := eqEL_sound _ _ hb.1.2
  have he : hp = [] := List.isEmpty_iff.1 hb.2
  cases hh2
  subst hf; subst ha; subst he
  cases hx : bs.xcall hk n f args' [] with
  | none => rw [hx] at hr; cases hr
  | some q =>
    obtain ⟨v1, h1⟩ := q
    rw [hx] at hr
    simp only [Option.map_some, Option.some.injEq, Bool.and_eq_true] at hr
    have e1 := eqE_sound _ _ hr.1
    have e2 := eqOL_sound _ _ hr.2
    subst e1; subst e2
    have up : ∀ {u w'}, ResX bs m0 w0 n0 m bk v1 h1 u w' → ResX bs m0 w0 n0 m bk v1 (deadL keep h1) u w' := fun ⟨m', bk', S', a, b, c⟩ => ⟨m', bk', S'.deadL keep, a, b, c⟩
    rcases (runOK H n).call f args' [] _ _ hx m0 w0 n0 m bk w us S r with ⟨u, w', k1, k2⟩ | ⟨k1, k2⟩
    · exact .inl ⟨u, w', k1, up k2⟩
    · exact .inr ⟨k1, k2.mono fun e w' ⟨u, e1, e2⟩ => ⟨u, e1, up e2⟩⟩
end Go.Proofs.YtgeefhjlfdidmaaGreatDoor.V


/- The program's nodes that are points; units and leaves, or a panic. No condition of its own. -/
namespace Go.Proofs.YtgeefhjlfdidmaaGreatDoor.V
open Go Go.RowKit
set_option linter.unusedVariables false
set_option linter.unusedSimpArgs false

theorem pn_of {B : Base} {g : Cfg} {pn : List FuncId} {f : FuncId} {args : List EV} {Q : Nat → Int → Prop} {C : Prop} (e : g.fnPK pn f args Q = C) (hb : g.toBase = B) (H : HanOK g) (h : C) : FnP B f args Q := by rw [← hb]; exact fnP_sound H (e.mpr h)

/-- A point's units. -/
def ptS (k : Int) (y m : ByteArray) : Runs := if k = 1 then makeF ((setF y).flatMap (partR 12 (insM m 12))) else if k = 2 then makeF ((setF y).flatMap (partR 4 (insM m 4))) else setF y

theorem ptS_spec {k : Int} {y m d : ByteArray} (h : saneP k y m d = true) (hk : 1 ≤ k) : Sane (ptS k y m) ∧ ∀ u, mem (ptS k y m) u ↔ inPt k y m u := by
  obtain ⟨hy, _⟩ := saneP_spec h hk
  unfold ptS inPt
  split
  · exact ⟨make_sane _, fun u => by rw [mem_make]; exact parts_spec (.inl rfl) hy u⟩
  · split
    · exact ⟨make_sane _, fun u => by rw [mem_make]; exact parts_spec (.inr rfl) hy u⟩
    · obtain ⟨f1, _, f3, _⟩ := setF_spec y
      exact ⟨f1, fun u => by rw [f3 u]; exact ⟨fun q => q.2, fun q => ⟨hy, q⟩⟩⟩

def setP (k : Int) (y m d : ByteArray) : Runs × Int := if saneP k y m d = true then knownF k (ptS k y m) else ([], 2)

theorem ok_point_SetF {k : Int} {y m d : ByteArray} (hk : 1 ≤ k) : FnE bs n_point_Set [ptE k y m d] (.tup (.pair (.slice sRun) (.int .i64))) (· = setP k y m d) := by
  refine (ok_point_Set hk).mono fun r hr => ?_
  unfold setP
  cases h : saneP k y m d with
  | false => exact hr.1 h
  | true =>
    obtain ⟨s, h1, _, h3, h4⟩ := hr.2 h
    obtain ⟨g1, g2⟩ := ptS_spec h hk
    rw [h4, sane_ext h1 g1 fun n => by rw [h3 n, g2 n]]
    rfl

/-- A node that is a point, as an abstract value. -/
abbrev ndE (k : Int) (y m d : ByteArray) : EV := .agg [.p (.int .i64) (0 : Int), .p (.int .i64) k, .raw (.string y), .raw (.string m), .raw (.string d), .p .bool false, .p .bool false, .raw (.slice none 0 0)]

section
variable {k : Int} {y m d : ByteArray}

theorem ok_ref10_Count : FnE bs n_lustrumref10_Count [ndE k y m d] (.int .i64) (· = (1 : Int)) := by
  refine ok_of (e_lustrumref10_Count k y m d _) rfl ?_
  unfold c_lustrumref10_Count
  refine loopP_of (fun z : Int × Int => z = (1, 0)) (fun _ => 0) ?_ rfl
  rintro _ A rfl back
  exact cond_dec (fun h => absurd h (by decide)) fun _ => rfl

theorem ok_ref10_short : FnE bs n_lustrumref10_short [ndE k y m d] .bool (fun r => r = true → y.size ≤ 10) := by
  refine ok_of (e_lustrumref10_short k y m d _) rfl ?_
  unfold c_lustrumref10_short
  refine cond_dec (fun h => (fun q => by cases q)) fun h1 => cond_dec (fun h => (fun q => by cases q)) fun h2 => cond_dec (fun h => (fun q => by cases q)) fun h3 => ?_
  refine loopP_of (fun z : Int => z = 0) (fun _ => 0) ?_ rfl
  rintro _ A rfl back
  exact cond_dec (fun h => absurd h (by decide)) fun _ => fun _ => by omega

theorem ok_ref10_Few : FnE bs n_lustrumref10_Few [ndE k y m d] .bool (fun r => r = true → y.size ≤ 10) := by
  refine ok_han (e_lustrumref10_Few k y m d _) rfl (HanOK.ofList [(n_lustrumref10_Count, .raw (.int .i64)), (n_lustrumref10_short, .raw .bool)] rfl rfl trivial) ?_
  unfold c_lustrumref10_Few
  exact callAP_eq ok_ref10_Count (cond_dec (fun _ => callAP_of ok_ref10_short fun r hr => hr) fun _ => fun q => by cases q)

theorem ok_ref15_plain (hy : y.size ≤ 10) : FnE bs n_lustrumref15_plain [ndE k y m d] .bool (fun _ => True) := by
  refine ok_of (e_lustrumref15_plain k y m d _) rfl ?_
  unfold c_lustrumref15_plain
  refine loopP_of (fun z : Int × Int => 0 ≤ z.2 ∧ z.2 ≤ y.size) (fun z => (10 - z.2).toNat) ?_ ⟨Int.le_refl _, by dsimp only; omega⟩
  rintro ⟨v, i⟩ A ⟨h0, h1⟩ back
  dsimp only at h0 h1 ⊢
  have e : i < 10 → w64 (i + 1) = i + 1 := fun _ => w64_of (by omega)
  refine cond_dec (fun h => ⟨⟨h0, h⟩, cond_dec (fun _ => back _ ?_ ?_) fun _ => back _ ?_ ?_⟩) fun h => ?_
  · dsimp only; rw [e (by omega)]; omega
  · dsimp only; rw [e (by omega)]; omega
  · dsimp only; rw [e (by omega)]; omega
  · dsimp only; rw [e (by omega)]; omega
  · refine loopP_of (fun z : Int => z = 0) (fun _ => 0) ?_ rfl
    rintro _ A rfl back
    exact cond_dec (fun h => absurd h (by decide)) fun _ => trivial

theorem ok_ref15_Small : FnE bs n_lustrumref15_Small [ndE k y m d] .bool (fun _ => True) := by
  refine ok_han (e_lustrumref15_Small k y m d _) rfl (HanOK.ofList [(n_lustrumref10_Few, .raw .bool), (n_lustrumref10_Count, .raw (.int .i64)), (n_lustrumref15_plain, .raw .bool)] rfl rfl trivial) ?_
  unfold c_lustrumref15_Small
  exact callAP_of ok_ref10_Few fun r hr => cond_bool (fun h => callAP_eq ok_ref10_Count (cond_dec (fun _ => callAP_of (ok_ref15_plain (hr h)) fun _ _ => trivial) fun _ => trivial)) fun _ => trivial

theorem tree_Count_run (k : Int) (y m d : ByteArray) : xInt (bs.xcall exHook 1000 21 [ndE k y m d] []) = some 1 := by kernel_rfl
theorem tree_Deep_run (k : Int) (y m d : ByteArray) : xInt (bs.xcall exHook 1000 22 [ndE k y m d] []) = some 0 := by kernel_rfl

theorem ok_tree_Count : FnE bs 21 [ndE k y m d] (.int .i64) (· = (1 : Int)) :=
  fnE_run exHook_ok ⟨Tryz.f21, _, by kernel_rfl, rfl, by kernel_rfl⟩ (xInt_spec (tree_Count_run k y m d))

theorem ok_tree_Deep : FnE bs 22 [ndE k y m d] (.int .i64) (· = (0 : Int)) :=
  fnE_run exHook_ok ⟨Tryz.f22, _, by kernel_rfl, rfl, by kernel_rfl⟩ (xInt_spec (tree_Deep_run k y m d))

theorem ok_tree_End : FnE bs n_tree_End [ndE k y m d] .bool (· = saneP k y m d) := by
  refine ok_han (e_tree_End k y m d _) rfl (HanOK.ofList [(n_point_Sane, .raw .bool), (50, .raw .bool)] rfl rfl trivial) ?_
  unfold c_tree_End
  exact cond_dec (fun _ => cond_dec (fun _ => callAP_eq (ok_point_Sane k y m d) rfl) fun h => absurd rfl h) fun h => absurd rfl h

theorem ok_tree_right : FnE bs n_tree_right [ndE k y m d] .bool (· = saneP k y m d) := by
  refine ok_han (e_tree_right k y m d _) rfl (HanOK.ofList [(n_tree_End, .raw .bool), (50, .raw .bool)] rfl rfl trivial) ?_
  unfold c_tree_right
  exact cond_dec (fun _ => callAP_eq ok_tree_End rfl) fun h => absurd rfl h

theorem ok_tree_Sane : FnE bs n_tree_Sane [ndE k y m d] .bool (· = saneP k y m d) := by
  refine ok_han (e_tree_Sane k y m d _) rfl (HanOK.ofList [(21, .raw (.int .i64)), (22, .raw (.int .i64)), (n_tree_right, .raw .bool)] rfl rfl trivial) ?_
  unfold c_tree_Sane
  exact callAP_eq ok_tree_Count (cond_dec (fun _ => callAP_eq ok_tree_Deep (cond_dec (fun _ => callAP_eq ok_tree_right rfl) fun h => absurd (by decide) h)) fun h => absurd (by decide) h)

/-! ### Units, or a panic -/

theorem ok_denote_must {s : Runs} : FnE bs n_denote_must ((Shape.pair (.slice sRun) (.int .i64)).compsE (s, (0 : Int))) (.slice sRun) (· = s) := by
  refine ok_of (e_denote_must (s, (0 : Int)) _) rfl ?_
  unfold c_denote_must
  exact cond_not (fun h => absurd (of_decide_eq_false h) (by simp)) fun _ => rfl

theorem ok_denote_units (hk : 1 ≤ k) (h : (setP k y m d).2 = 0) : FnE bs n_denote_units [ndE k y m d] (.slice sRun) (· = (setP k y m d).1) := by
  refine ok_han (e_denote_units k y m d _) rfl (HanOK.ofList [(n_point_Set, .raw (.tup (.pair (.slice sRun) (.int .i64))))] rfl rfl trivial) ?_
  unfold c_denote_units
  refine callAP_eq (ok_point_SetF hk) ?_
  dsimp only
  rw [h]
  exact callP_eq ok_denote_must rfl

theorem ok_denote_leaves (hk : 1 ≤ k) (h : (setP k y m d).2 = 0) : FnE bs n_denote_leaves [ndE k y m d] (.slice sApiLeaf) (· = [(false, k, (setP k y m d).1, [])]) := by
  refine ok_han (e_denote_leaves k y m d _) rfl (HanOK.ofList [(n_denote_units, .raw (.slice sRun))] rfl rfl trivial) ?_
  unfold c_denote_leaves
  have u := callAP_eq (ok_denote_units hk h) (K := fun r1 : Runs => [(false, k, r1, [])] = [(false, k, (setP k y m d).1, ([] : Runs))]) rfl
  exact cond_dec (fun _ => ⟨u, u, u⟩) fun h => absurd rfl h

theorem pn_denote_must {s : Runs} {e : Int} (h : e ≠ 0) : FnP bs n_denote_must [.p (.slice sRun) s, .p (.int .i64) e] (fun t n => t = 51 ∧ n = e) := by
  refine pn_of (ep_denote_must s e _) rfl (HanOK.none rfl rfl) ?_
  unfold cp_denote_must
  exact cond_not (fun _ => ⟨rfl, rfl⟩) fun q => absurd (of_decide_eq_true q) h

theorem pn_denote_units (hk : 1 ≤ k) (h : (setP k y m d).2 ≠ 0) : FnP bs n_denote_units [ndE k y m d] (fun t n => t = 51 ∧ n = (setP k y m d).2) := by
  refine pn_of (ep_denote_units k y m d _) rfl (HanOK.ofList [(n_point_Set, .raw (.tup (.pair (.slice sRun) (.int .i64))))] rfl rfl trivial) ?_
  unfold cp_denote_units
  exact callAP_eq (ok_point_SetF hk) ⟨_, pn_denote_must h, fun t n q => q⟩

theorem pn_denote_leaves (hk : 1 ≤ k) (h : (setP k y m d).2 ≠ 0) : FnP bs n_denote_leaves [ndE k y m d] (fun t n => t = 51 ∧ n = (setP k y m d).2) := by
  refine pn_of (ep_denote_leaves k y m d _) rfl (HanOK.none rfl rfl) ?_
  unfold cp_denote_leaves
  have u : ∀ Q : Nat → Int → Prop, (∀ t n, t = 51 ∧ n = (setP k y m d).2 → Q t n) → callPP bs n_denote_units [ndE k y m d] Q := fun Q hq => ⟨_, pn_denote_units hk h, hq⟩
  have u1 := u (fun t n => t = 51 ∧ n = (setP k y m d).2) fun _ _ q => q
  refine cond_dec (fun _ => ?_) fun h => absurd rfl h
  repeat' first
    | exact u1
    | refine ⟨?_, ?_⟩
end
end Go.Proofs.YtgeefhjlfdidmaaGreatDoor.V


/- denote.Of at a point: its family, or an error. No condition of its own. -/
namespace Go.Proofs.YtgeefhjlfdidmaaGreatDoor.V
open Go Go.RowKit
set_option linter.unusedVariables false
set_option linter.unusedSimpArgs false

noncomputable def gOf : Cfg := { toBase := bs, lv := fun _ => ([], [], []), rows := [], han := hanL bs [(n_tree_Sane, .raw .bool), (n_denote_leaves, .raw (.slice sApiLeaf))] }

theorem gOf_ok : HanOK gOf := HanOK.ofList [(n_tree_Sane, .raw .bool), (n_denote_leaves, .raw (.slice sApiLeaf))] rfl rfl trivial

noncomputable def ofOps : Array Oper := match seqL (seqR (seqR ofBody)) with
  | .region _ ops _ => ops
  | _ => #[]
noncomputable def ofO1 : Oper := (ofOps[0]?).getD default
noncomputable def ofO2 : Oper := (ofOps[1]?).getD default
noncomputable def ofD : Code := seqR (seqR (seqR ofBody))

abbrev ofSt (k : Int) (y m d : ByteArray) : St := { env := fun i => ([ndE k y m d][i]?).getD .bot, hp := [] }

/-- What follows, where code goes on. -/
def nrmK (X : St → Prop) : Ex → St → Prop := fun e st => match e with
  | .normal => X st
  | _ => False

def cloK (st : St) (X : Prop) : Prop := match st.env 7 with
  | .clo (.func 24) [] [.box 1 0, .box 2 0] => X
  | _ => False

abbrev ofOut : Shape := .tup (.pair (.slice sApiLeaf) (.int .i64))

noncomputable def ofFn : Func := Tryz.f8
noncomputable def of1Fn : Func := Tryz.f24
noncomputable def of1Body : Code := of1Fn.body.getD .skip
noncomputable def of1R : Code := match seqR (seqR of1Body) with
  | .cond _ a _ => a
  | c => c

/-- Where nothing panics. -/
def ofNK (R : ofOut.Val → Prop) : Ex → St → Prop := fun e st => match e with
  | .ret => gOf.retK ofFn ofOut st R
  | _ => False

def ofN (R : ofOut.Val → Prop) (st : St) : Prop := cloK st (gOf.vc ofD ofBody.dsts' st (ofNK R))

/-- The deferred function, behind the recovery. -/
def ofRest (R : ofOut.Val → Prop) (st : St) (t : Nat) (n : Int) : Prop :=
  match st.env 2, st.env 3 with
  | .box 1 0, .box 2 0 => gOf.vc of1R of1Body.dsts' { env := fun i => ([EV.box 1 0, EV.box 2 0, EV.ifc t (.p (.int .i64) n)][i]?).getD .bot, hp := st.hp } fun e st2 => match e with
    | .normal => gOf.retK ofFn ofOut { st with hp := st2.hp } R
    | _ => False
  | _, _ => False

/-- Where the leaves panic. -/
def ofP (R : ofOut.Val → Prop) (st : St) : Prop := cloK st (gOf.vcE [n_denote_leaves] ofD ofBody.dsts' st (fun _ _ => False) (ofRest R))

theorem q_ofN (k : Int) (y m d : ByteArray) (R : ofOut.Val → Prop) : gOf.vc (.seq (seqL ofBody) (seqL (seqR ofBody))) ofBody.dsts' (ofSt k y m d) (nrmK fun st => gOf.opK ofBody.dsts' ofOps ofO1 st (ofN R)) = callAP bs n_tree_Sane [ndE k y m d] .bool fun r1 => cond (!r1) False (callAP bs n_denote_leaves [ndE k y m d] (.slice sApiLeaf) fun r2 => R (r2, (0 : Int))) := by kernel_rfl

theorem q_ofP (k : Int) (y m d : ByteArray) (R : ofOut.Val → Prop) : gOf.vc (.seq (seqL ofBody) (seqL (seqR ofBody))) ofBody.dsts' (ofSt k y m d) (nrmK fun st => gOf.opK ofBody.dsts' ofOps ofO1 st (ofP R)) = callAP bs n_tree_Sane [ndE k y m d] .bool fun r1 => cond (!r1) False (callPP bs n_denote_leaves [ndE k y m d] fun t n => cond (Nat.beq t 51) (R (([] : List Leaf), n)) False) := by kernel_rfl

theorem cloK_spec {st : St} {X : Prop} (h : cloK st X) : st.env 7 = .clo (.func 24) [] [.box 1 0, .box 2 0] ∧ X := by
  unfold cloK at h
  split at h
  · rename_i e; exact ⟨e, h⟩
  · exact h.elim

/-- The frame of what comes behind the deferred call. -/
theorem Sat.later {c : Cfg} {m0 : Mem} {w0 : World} {fx : Fx} {m : Mem} {bk : List Cn} {st : St} {a : Act} {w : World} (S : Sat c m0 w0 fx m bk st a w) (d : Deferred) :
    Sat c m0 w0 { W := fx.W, tmps := a.tmps, fe := fun _ => none, gh := J st.hp bk, n0 := fx.n0, keep := fun _ => False, dfr := d :: fx.dfr } m bk st { a with defers := d :: a.defers } w :=
  { hold := S.hold, tab := S.tab, ext := S.ext, below := S.below, len := S.len, ents := S.ents, apart := S.apart, env := S.env, defers := by show d :: a.defers = d :: fx.dfr; rw [S.defers], fix := ⟨rfl, fun _ _ => rfl, fun q hq => by rw [S.fix.1]; exact S.fix.2.2.1 q hq, fun _ _ _ q => by cases q⟩, gh := fun _ _ q => q, base := S.base, keep := fun _ q => q.elim }

abbrev dfOf (p q : Value) : Deferred := { target := .fn (.func 24) #[p, q], args := #[] }

theorem vc_seq {c : Cfg} {a b : Code} {W : List Nat} {st : St} {K : Ex → St → Prop} (h : c.vc (.seq a b) W st K) : c.vc a W st (fun e st => match e with
    | .normal => c.vc b W st K
    | .ret => K .ret st
    | .exit id => K (.exit id) st) := h

theorem walk_gen {c : Cfg} (H : HanOK c) {g : FuncId} {A B D : Code} {ops : Array Oper} {o1 : Oper} {rid : Nat} {ty : TypeId} {pos : String} {after : Array Edge} {tm : Nat} (hL : ops.toList = [o1, ⟨none, .defer { callee := .value (.tmp tm), args := #[], argTypes := #[] }, ty, pos, after, none⟩]) {KD : St → Prop}
    (hclo : ∀ st, KD st → st.env tm = .clo (.func g) [] [.box 1 0, .box 2 0]) {m0 : Mem} {w0 : World} {fx : Fx} {m : Mem} {bk : List Cn} {st : St} {a : Act} {w : World} {Q : Exit → Act → World → Prop} (S : Sat c m0 w0 fx m bk st a w)
    (kk : c.vc (.seq A B) fx.W st (nrmK fun st => c.opK fx.W ops o1 st KD))
    (fin : ∀ (st : St) (m' : Mem) (bk' : List Cn) (a' : Act) (w' : World) (up uq : Value), KD st → Sat c m0 w0 fx m' bk' st a' w' → J st.hp bk' (.box 1 0) up → J st.hp bk' (.box 2 0) uq →
      D.wp c.P Q { a' with defers := { target := .fn (.func g) #[up, uq], args := #[] } :: a'.defers } w') : (Code.seq A (.seq B (.seq (.region rid ops false) D))).wp c.P Q a w := by
  refine wp_seq (wp_mono (vc_sound H A S (vc_seq kk)) fun e a1 w1 h1 => ?_)
  cases e with
  | normal =>
    obtain ⟨st1, m1, bk1, k1, S1⟩ := h1
    refine wp_seq (wp_mono (vc_sound H B S1 k1) fun e a2 w2 h2 => ?_)
    cases e with
    | normal =>
      obtain ⟨st2, m2, bk2, k2, S2⟩ := h2
      refine wp_seq (wp_region_list ?_)
      rw [hL]
      have fin2 : ∀ a3 w3, Reach c m0 w0 fx KD a3 w3 → wpList c.P ops (Exit.then (Code.wp c.P D Q) Q) [⟨none, .defer { callee := .value (.tmp tm), args := #[], argTypes := #[] }, ty, pos, after, none⟩] a3 w3 := by
        intro a3 w3 ⟨st3, m3, bk3, k3, S3⟩
        have ht := S3.env tm
        rw [hclo st3 k3] at ht
        obtain ⟨xs, ys, e1, e2, e3⟩ := ht
        rw [RepL_nil.1 e2] at e1
        obtain ⟨up, ys1, rfl, j1, e5⟩ := RepL_cons.1 e3
        obtain ⟨uq, ys2, rfl, j2, e7⟩ := RepL_cons.1 e5
        rw [RepL_nil.1 e7] at e1
        unfold wpList
        rw [if_pos (show Region.wanted _ _ = true from rfl)]
        refine .inl ?_
        unfold Oper.wp
        have hrun : (execOp a3.eval ⟨none, .defer { callee := .value (.tmp tm), args := #[], argTypes := #[] }, ty, pos, after, none⟩).run c.P w3 = .ok (.defer { target := .fn (.func g) #[up, uq], args := #[] }) w3 := by
          have he : a3.eval (.tmp tm) = .func (.func g) #[] #[up, uq] := e1
          simp [execOp, resolve, he, Deferred.ofValue]
        rw [hrun, Oper.upon_defer]
        exact fin st3 m3 bk3 a3 w3 up uq k3 S3 j1 j2
      unfold wpList
      rcases op_sound H S2 (ops := ops) (o := o1) (next := fun a3 w3 => wpList c.P ops (Exit.then (Code.wp c.P D Q) Q) [⟨none, .defer { callee := .value (.tmp tm), args := #[], argTypes := #[] }, ty, pos, after, none⟩] a3 w3) (Q := Exit.then (Code.wp c.P D Q) Q) k2 (fun a3 w3 k _ => fin2 a3 w3 k) with ⟨q1, q2⟩ | ⟨q1, q2⟩
      · rw [if_pos q1]; exact .inl q2
      · rw [if_neg (by rw [q1]; exact Bool.false_ne_true)]; exact q2
    | ret => obtain ⟨_, _, _, h, _⟩ := h2; exact h.elim
    | exit id => obtain ⟨_, _, _, h, _⟩ := h2; exact h.elim
    | goto l => exact False.elim h2
    | panic ch => exact False.elim h2
    | outgrown => exact False.elim h2
  | ret => obtain ⟨_, _, _, h, _⟩ := h1; exact h.elim
  | exit id => obtain ⟨_, _, _, h, _⟩ := h1; exact h.elim
  | goto l => exact False.elim h1
  | panic ch => exact False.elim h1
  | outgrown => exact False.elim h1

theorem of_ops : ofOps.toList = [ofO1, ⟨none, .defer { callee := .value (.tmp 7), args := #[], argTypes := #[] }, ofO2.type, ofO2.pos, ofO2.after, none⟩] := by kernel_rfl

/-- The condition, not to be unfolded. -/
structure OfW (KD : St → Prop) (k : Int) (y m d : ByteArray) : Prop where
  h : gOf.vc (.seq (seqL ofBody) (seqL (seqR ofBody))) ofBody.dsts' (ofSt k y m d) (nrmK fun st => gOf.opK ofBody.dsts' ofOps ofO1 st KD)

theorem OfW.at {KD : St → Prop} {k : Int} {y m d : ByteArray} (kk : OfW KD k y m d) {W : List Nat} (hW : W = ofBody.dsts') : gOf.vc (.seq (seqL ofBody) (seqL (seqR ofBody))) W (ofSt k y m d) (nrmK fun st => gOf.opK W ofOps ofO1 st KD) := by
  subst hW
  cases kk
  assumption

theorem ofN_spec {R : ofOut.Val → Prop} {st : St} (h : ofN R st) : gOf.vc ofD ofBody.dsts' st (ofNK R) := (cloK_spec h).2
theorem ofP_spec {R : ofOut.Val → Prop} {st : St} (h : ofP R st) : gOf.vcE [n_denote_leaves] ofD ofBody.dsts' st (fun _ _ => False) (ofRest R) := (cloK_spec h).2

theorem of_walk {KD : St → Prop} {k : Int} {y m d : ByteArray} (kk : OfW KD k y m d) (hclo : ∀ st, KD st → st.env 7 = .clo (.func 24) [] [.box 1 0, .box 2 0]) {m0 : Mem} {w0 : World} {fx : Fx} {bk : List Cn} {a : Act} {w : World} {Q : Exit → Act → World → Prop}
    (hW : fx.W = ofBody.dsts') (S : Sat gOf m0 w0 fx m0 bk (ofSt k y m d) a w)
    (fin : ∀ (st : St) (m' : Mem) (bk' : List Cn) (a' : Act) (w' : World) (up uq : Value), KD st → Sat gOf m0 w0 fx m' bk' st a' w' → J st.hp bk' (.box 1 0) up → J st.hp bk' (.box 2 0) uq →
      ofD.wp gOf.P Q { a' with defers := dfOf up uq :: a'.defers } w') : ofBody.wp gOf.P Q a w := by
  have hsplit : ofBody = .seq (seqL ofBody) (.seq (seqL (seqR ofBody)) (.seq (.region 3 ofOps false) ofD)) := rfl
  rw [hsplit]
  exact walk_gen gOf_ok of_ops hclo S (kk.at hW) fin

theorem of_fn : bs.P.funcs[8]? = some ofFn := by kernel_rfl
theorem of_body : ofFn.body = some ofBody := rfl
theorem of_callable : Callable bs.P 8 := ⟨_, _, of_fn, of_body, by kernel_rfl⟩

theorem of_dsts : ∀ d ∈ ofBody.dsts', d < ofFn.ntmps := by
  have h : ofBody.dsts'.all (fun d => Nat.blt d ofFn.ntmps) = true := by kernel_rfl
  exact fun d hd => Nat.le_of_ble_eq_true (List.all_eq_true.1 h d hd)

theorem of1_call (p q : Value) (w : World) : (invoke (dfOf p q).target (dfOf p q).args).run bs.P w = .ok (.enter 24 #[p, q]) w := by
  show (callFunc 24 (#[] ++ #[p, q])).run bs.P w = _
  rw [run_callFunc ⟨Tryz.f24, _, by kernel_rfl, rfl, by kernel_rfl⟩]
  rfl

theorem ok_Of_n {k : Int} {y m d : ByteArray} {R : ofOut.Val → Prop} (kk : OfW (ofN R) k y m d) : FnE bs 8 [ndE k y m d] ofOut R := by
  refine ⟨of_callable, fun m w us ht hh hargs => calls_of_wp_defers of_fn of_body ?_⟩
  refine of_walk kk (fun st h => (cloK_spec h).1) rfl (sat_enter ht hh hargs of_dsts) fun st m' bk' a' w' up uq hk S' j1 j2 => ?_
  refine wp_mono (vc_sound (K := ofNK R) gOf_ok ofD (S'.later (dfOf up uq)) (ofN_spec hk)) fun e a5 w5 h => ?_
  cases e with
  | ret =>
    obtain ⟨st5, m5, bk5, k5, S5⟩ := h
    show Leaves _ _ _ _ a5.defers _ _
    rw [S5.defers]
    refine ⟨by simp, .func 24, #[up, uq], 24, #[up, uq], rfl, of1_call up uq w5, (recovers_none up uq w5).mono fun e u' w' ⟨vv, q1, q2, q3⟩ => ?_⟩
    subst q1 q2 q3
    obtain ⟨v, r1, r2⟩ := ret_sound S5 k5
    exact ⟨v, r1, v, _, rfl, Mem.ext_trans S5.ext (frzM_ext S5 (fun i => ∃ x, st5.hp[i]? = some x)), frzM_holds S5 _, S5.below, r2⟩
  | normal => obtain ⟨_, _, _, h, _⟩ := h; exact h.elim
  | exit id => obtain ⟨_, _, _, h, _⟩ := h; exact h.elim
  | goto l => exact False.elim h
  | panic ch => exact False.elim h
  | outgrown => exact False.elim h

/-- The deferred function, where a number is panicked with. -/
theorem recovers_num (p q : Value) (t : Nat) (n : Int) (w : World) {R : Ending → FrameMode → World → Prop}
    (h : ∀ a : Act, a.defers = [] → a.tmps.size = of1Fn.ntmps → a.tmps.getD 0 undef = p → a.tmps.getD 1 undef = q → a.tmps.getD 2 undef = .iface t (.int .i64 n) →
      of1R.wp bs.P (fun e a' w' => e = .normal ∧ a'.defers = [] ∧ R (.returned (.tuple #[])) (.panicking [{ v := .iface t (.int .i64 n), recovered := true }]) w') a w) :
    CallsD bs.P 24 #[p, q] (.panicking (pnV t n)) w R := by
  refine callsD_of_wpS (fn := Tryz.f24) (by kernel_rfl) rfl fun c0 cs hm => ?_
  have hrec : recoverD (c0 :: cs) = some (.iface t (.int .i64 n), { c0 with mode := .panicking [{ v := .iface t (.int .i64 n), recovered := true }] } :: cs) := by simp [recoverD, hm, pnV]
  refine wpS_seq (wpS_region ?_)
  simp [wpOpsS, List.range, List.range.loop, Region.wanted, execOp, resolve, invoke, builtin, hrec, Oper.upon, Act.put, Act.eval]
  refine wpS_of_wp (wp_seq (wp_region_list ?_))
  have hu : bs.P.underlying 20 = some (.interface #[]) := by kernel_rfl
  obtain ⟨e1, e2, e3, e4⟩ := nilX_sound (B := bs) (m := fun _ _ => none) (bk := []) (w := w) (t := 20) (x := .ifc t (.p (.int .i64) n)) (u := .iface t (.int .i64 n)) (v := .nilIface) (b := false) (by rw [hu]; rfl) ⟨_, rfl, rfl⟩ (.tmp 4) .nilIface
  simp [wpList, Region.wanted, Oper.wp, execOp, Oper.upon, Act.put, Act.eval]
  refine .inl ?_
  simp only [e2 .neq, e4, e1, Sem.run_bind, Sem.run_pure, Result.andThen_ok, Bool.not_false]
  refine .inl ?_
  show Code.wp bs.P (Code.cond (Operand.tmp 5) of1R Code.skip) _ _ w
  refine wp_cond (t := true) rfl (wp_mono (h _ rfl rfl rfl rfl rfl) fun e a' w' ⟨q1, q2, q3⟩ => ?_)
  subst q1
  exact ⟨q2, _, rfl, .tuple #[], by kernel_rfl, q3⟩

theorem of1_dsts : ∀ d ∈ of1Body.dsts', d < of1Fn.ntmps := by
  have h : of1Body.dsts'.all (fun d => Nat.blt d of1Fn.ntmps) = true := by kernel_rfl
  exact fun d hd => Nat.le_of_ble_eq_true (List.all_eq_true.1 h d hd)

theorem ofRest_spec {R : ofOut.Val → Prop} {st : St} {t : Nat} {n : Int} (h : ofRest R st t n) : gOf.vc of1R of1Body.dsts' { env := fun i => ([EV.box 1 0, EV.box 2 0, EV.ifc t (.p (.int .i64) n)][i]?).getD .bot, hp := st.hp } fun e st2 => match e with
    | .normal => gOf.retK ofFn ofOut { st with hp := st2.hp } R
    | _ => False := by
  unfold ofRest at h
  split at h
  · exact h
  · exact h.elim

theorem ok_Of_p {k : Int} {y m d : ByteArray} {R : ofOut.Val → Prop} (kk : OfW (ofP R) k y m d) : FnE bs 8 [ndE k y m d] ofOut R := by
  refine ⟨of_callable, fun m w us ht hh hargs => calls_of_wp_defers of_fn of_body ?_⟩
  refine of_walk kk (fun st h => (cloK_spec h).1) rfl (sat_enter ht hh hargs of_dsts) fun st m' bk' a' w' up uq hk S' j1 j2 => ?_
  refine wp_mono (vcE_sound (K := fun _ _ => False) (KP := ofRest R) (pn := [n_denote_leaves]) gOf_ok ofD (S'.later (dfOf up uq)) (ofP_spec hk)) fun e a5 w5 h => ?_
  cases e with
  | panic ch =>
    obtain ⟨st5, t, n, kp, hch, m5, bk5, S5⟩ := h
    subst hch
    have g1 : J st5.hp bk5 (.box 1 0) up := S5.gh (.box 1 0) up j1
    have g2 : J st5.hp bk5 (.box 2 0) uq := S5.gh (.box 2 0) uq j2
    show Leaves _ _ _ _ a5.defers _ _
    rw [S5.defers]
    refine ⟨by simp, .func 24, #[up, uq], 24, #[up, uq], rfl, of1_call up uq w5, recovers_num up uq t n w5 fun a hd hs h0 h1 h2 => ?_⟩
    have S6 : Sat gOf m5 w { W := of1Body.dsts', tmps := a.tmps, fe := fun _ => none, gh := J st5.hp bk5, n0 := w.heap.size, keep := fun _ => False, dfr := [] } m5 bk5 { env := fun i => ([EV.box 1 0, EV.box 2 0, EV.ifc t (.p (.int .i64) n)][i]?).getD .bot, hp := st5.hp } a w5 := by
      refine { hold := S5.hold, tab := S5.tab, ext := Mem.ext_refl _ m5, below := S5.below, len := S5.len, ents := S5.ents, apart := S5.apart, env := fun i => ?_, defers := hd, fix := ⟨rfl, fun _ _ => rfl, fun q hq => by rw [hs]; exact of1_dsts q hq, fun _ _ _ q => by cases q⟩, gh := fun _ _ q => q, base := Nat.le_refl _, keep := fun _ q => q.elim }
      match i with
      | 0 => show J st5.hp bk5 (.box 1 0) (a.tmps.getD 0 undef); rw [h0]; exact g1
      | 1 => show J st5.hp bk5 (.box 2 0) (a.tmps.getD 1 undef); rw [h1]; exact g2
      | 2 => show Rep _ _ (.ifc t (.p (.int .i64) n)) _ (a.tmps.getD 2 undef); rw [h2]; exact ⟨_, rfl, rfl⟩
      | i + 3 => trivial
    refine wp_mono (vc_sound gOf_ok of1R S6 (ofRest_spec kp)) fun e a6 w6 h6 => ?_
    cases e with
    | normal =>
      obtain ⟨st6, m6, bk6, k6, S7⟩ := h6
      have S8 : Sat gOf m w { W := ofBody.dsts', tmps := a'.tmps, fe := fun _ => none, gh := J st.hp bk', n0 := w.heap.size, keep := fun _ => False, dfr := dfOf up uq :: [] } m6 bk6 { st5 with hp := st6.hp } a5 w6 :=
        { hold := S7.hold, tab := S7.tab, ext := Mem.ext_trans S5.ext S7.ext, below := S7.below, len := S7.len, ents := S7.ents, apart := S7.apart, env := fun i => Rep_mono S7.ext.1 _ S7.gh (S5.env i), defers := S5.defers, fix := ⟨S5.fix.1, S5.fix.2.1, S5.fix.2.2.1, fun _ _ _ q => by cases q⟩, gh := fun e u q => S7.gh e u (S5.gh e u q), base := Nat.le_refl _, keep := fun _ q => q.elim }
      obtain ⟨v, r1, r2⟩ := ret_sound S8 k6
      refine ⟨rfl, S7.defers, ?_⟩
      exact ⟨v, r1, v, _, rfl, Mem.ext_trans S8.ext (frzM_ext S8 (fun i => ∃ x, st6.hp[i]? = some x)), frzM_holds S8 _, S8.below, r2⟩
    | ret => obtain ⟨_, _, _, h, _⟩ := h6; exact h.elim
    | exit id => obtain ⟨_, _, _, h, _⟩ := h6; exact h.elim
    | goto l => exact False.elim h6
    | panic ch => exact False.elim h6
    | outgrown => exact False.elim h6
  | ret => obtain ⟨_, _, _, h, _⟩ := h; exact h.elim
  | normal => obtain ⟨_, _, _, h, _⟩ := h; exact h.elim
  | exit id => obtain ⟨_, _, _, h, _⟩ := h; exact h.elim
  | goto l => exact False.elim h
  | outgrown => exact False.elim h

/-- What denote.Of answers of a node that is a point of months or greater units. -/
theorem ok_denote_Of {k : Int} {y m d : ByteArray} (hk : 1 ≤ k) (hs : saneP k y m d = true) : FnE bs 8 [ndE k y m d] ofOut (· = if (setP k y m d).2 = 0 then ([(false, k, (setP k y m d).1, [])], (0 : Int)) else ([], (setP k y m d).2)) := by
  by_cases h : (setP k y m d).2 = 0
  · rw [if_pos h]
    refine ok_Of_n ?_
    constructor
    rw [q_ofN]
    exact callAP_eq ok_tree_Sane (cond_not (fun q => by rw [hs] at q; cases q) fun _ => callAP_eq (ok_denote_leaves hk h) rfl)
  · rw [if_neg h]
    refine ok_Of_p ?_
    constructor
    rw [q_ofP]
    refine callAP_eq ok_tree_Sane (cond_not (fun q => by rw [hs] at q; cases q) fun _ => ⟨_, pn_denote_leaves hk h, fun t n q => ?_⟩)
    obtain ⟨rfl, rfl⟩ := q
    exact rfl
end Go.Proofs.YtgeefhjlfdidmaaGreatDoor.V


/- TopUnits: a point's units are counted one by one. No condition of its own. -/
namespace Go.Proofs.YtgeefhjlfdidmaaGreatDoor.V
open Go Go.RowKit
set_option linter.unusedVariables false
set_option linter.unusedSimpArgs false

theorem sorted_same : ∀ {l1 l2 : List Int}, l1.Pairwise (· < ·) → l2.Pairwise (· < ·) → (∀ x, x ∈ l1 ↔ x ∈ l2) → l1 = l2
  | [], [], _, _, _ => rfl
  | [], b :: l2, _, _, h => by have := (h b).2 (List.mem_cons_self ..); cases this
  | a :: l1, [], _, _, h => by have := (h a).1 (List.mem_cons_self ..); cases this
  | a :: l1, b :: l2, h1, h2, h => by
    obtain ⟨p1, q1⟩ := List.pairwise_cons.1 h1
    obtain ⟨p2, q2⟩ := List.pairwise_cons.1 h2
    have e : a = b := by
      rcases List.mem_cons.1 ((h a).1 (List.mem_cons_self ..)) with e | e
      · exact e
      · rcases List.mem_cons.1 ((h b).2 (List.mem_cons_self ..)) with e2 | e2
        · exact e2.symm
        · have := p1 b e2
          have := p2 a e
          omega
    subst e
    rw [sorted_same q1 q2 fun x => ?_]
    constructor
    · intro hx
      rcases List.mem_cons.1 ((h x).1 (List.mem_cons_of_mem _ hx)) with e | e
      · subst e; have := p1 x hx; omega
      · exact e
    · intro hx
      rcases List.mem_cons.1 ((h x).2 (List.mem_cons_of_mem _ hx)) with e | e
      · subst e; have := p2 x hx; omega
      · exact e

/-- How many of the first numbers match. -/
def cntM (k : Int) (y m : ByteArray) (i : Int) : Nat := ((upTo 0 (i - 1)).filter (matchB k y m)).length

theorem cntM_succ {k : Int} {y m : ByteArray} {i : Int} (h : 0 ≤ i) : cntM k y m (i + 1) = cntM k y m i + (if matchB k y m i = true then 1 else 0) := by
  unfold cntM
  rw [show i + 1 - 1 = i by omega, pt_snoc h, List.filter_append, List.length_append]
  congr 1
  cases hb : matchB k y m i <;> simp [List.filter, hb]

theorem cntM_le {k : Int} {y m : ByteArray} : ∀ (n : Nat) {i : Int}, 0 ≤ i → cntM k y m i ≤ cntM k y m (i + n)
  | 0, i, _ => by simp
  | n + 1, i, h => by
    have := cntM_le (k := k) (y := y) (m := m) n h
    have e := cntM_succ (k := k) (y := y) (m := m) (i := i + n) (by omega)
    rw [show i + ((n + 1 : Nat) : Int) = i + n + 1 by omega, e]
    omega

section
variable {k : Int} {y m d : ByteArray}

theorem ptS_nums (h : saneP k y m d = true) (hk : 1 ≤ k) : nums (ptS k y m) = (upTo 0 (VCal.ucount k - 1)).filter (matchB k y m) := by
  obtain ⟨h1, h2⟩ := ptS_spec h hk
  refine sorted_same (nums_sorted h1) (List.Pairwise.filter _ (upTo_sorted _ _)) fun x => ?_
  rw [mem_nums, h2, inPt_match h hk, List.mem_filter, mem_upTo]
  constructor
  · rintro ⟨a, b, c⟩; exact ⟨⟨a, by omega⟩, c⟩
  · rintro ⟨⟨a, b⟩, c⟩; exact ⟨a, by omega, c⟩

theorem ptS_count (h : saneP k y m d = true) (hk : 1 ≤ k) : (nums (ptS k y m)).length = cntM k y m (VCal.ucount k) := by
  rw [ptS_nums h hk]
  rfl

theorem ptS_within (h : saneP k y m d = true) (hk : 1 ≤ k) : Within (ptS k y m) (VCal.ucount k - 1) := by
  obtain ⟨h1, h2⟩ := ptS_spec h hk
  refine ⟨h1, ?_⟩
  by_cases hn : ptS k y m = []
  · exact .inl hn
  · have a := (inPt_match h hk _).1 ((h2 _).1 (mem_lo h1 hn))
    have b := (inPt_match h hk _).1 ((h2 _).1 (mem_hi h1 hn))
    exact .inr ⟨a.1, by omega⟩

theorem ptS_units (h : saneP k y m d = true) (hk : 1 ≤ k) : unitsF k (ptS k y m) = ptS k y m := by
  obtain ⟨h1, h2⟩ := ptS_spec h hk
  refine sane_ext (units_sane _ _) h1 fun n => ?_
  rw [mem_units, make_self h1, h2, inPt_match h hk]
  constructor
  · rintro ⟨a, _⟩; exact a
  · intro a; exact ⟨a, a.1, a.2.1⟩

theorem ptS_known (h : saneP k y m d = true) (hk : 1 ≤ k) : setP k y m d = if 400 < cntM k y m (VCal.ucount k) then ([], 8) else (ptS k y m, 0) := by
  have e : (marksF VCal.ufirst k (ptS k y m)).2 = !decide (400 < cntM k y m (VCal.ucount k)) := by
    unfold marksF
    have hk0 : ¬ k = 0 := by omega
    rw [if_neg hk0, ptS_units h hk, ptS_count h hk]
    split
    · rename_i hg; rw [decide_eq_true hg]; rfl
    · rename_i hg; rw [decide_eq_false hg]; rfl
  unfold setP
  rw [if_pos h]
  unfold knownF
  rw [e]
  by_cases hg : 400 < cntM k y m (VCal.ucount k)
  · rw [if_pos hg, decide_eq_true hg, if_neg (by simp)]
  · rw [if_neg hg, decide_eq_false hg, if_pos (by simp)]

theorem ptS_pairs (h : saneP k y m d = true) (hk : 1 ≤ k) (hn : cntM k y m (VCal.ucount k) ≤ 400) : (pairsF (false, k, ptS k y m, []) 1000).length = cntM k y m (VCal.ucount k) := by
  obtain ⟨_, hc⟩ := saneP_spec h hk
  have h5 : k ≤ 5 := by rcases hc with ⟨e, _⟩ | ⟨e, _⟩ | ⟨e, _⟩ | ⟨e, _⟩ | ⟨e, _⟩ <;> omega
  have hs : LeafSane (false, k, ptS k y m, []) := by
    unfold LeafSane
    rw [if_neg (by simp)]
    exact ⟨⟨by dsimp only; omega, h5⟩, ptS_within h hk, rfl⟩
  unfold pairsF
  rw [← ptS_count h hk] at hn ⊢
  by_cases he : ptS k y m = []
  · have hO : ofF (false, k, ptS k y m, []) = none := by
      unfold ofF
      rw [if_pos (.inr he)]
    rw [hO, he]
    simp [famPairs, nums]
  · have hO : ofF (false, k, ptS k y m, []) = some (.inl (k, ptS k y m)) := by
      unfold ofF
      rw [if_neg (by
        rintro (q | q)
        · exact q hs
        · exact he q), if_pos rfl]
    rw [hO]
    show ((unitPairs k (ptS k y m)).take _).length = _
    unfold unitPairs
    rw [List.length_take, List.length_map]
    omega

theorem ok_TopUnits_of (haw : FnE bs 4 [] .bool (· = true)) : FnE bs n_lustrumtop_TopUnits [ptE k y m d] .bool (· = true) := by
  refine ok_han (e_lustrumtop_TopUnits k y m d _) rfl (HanOK.ofList [(n_lustrumref15_Small, .raw .bool), (n_tree_Sane, .raw .bool), (8, .raw ofOut), (n_point_Set, .raw (.tup (.pair (.slice sRun) (.int .i64)))), (n_lustrumtop_matches, .raw .bool), (5, .inl g_lustrumtop_TopUnits__tree_Of)] rfl rfl ⟨rfl, HanOK.none rfl rfl, trivial⟩) ?_
  unfold c_lustrumtop_TopUnits
  refine callP_eq (ins := .unit) (out := .bool) (x := ()) (v := true) haw ?_
  refine cond_dec (fun _ => rfl) fun hk => ?_
  have hk : 1 ≤ k := by omega
  refine callAP_of ok_ref15_Small fun r2 _ => cond_not (fun _ => rfl) fun _ => callAP_eq ok_tree_Sane (cond_not (fun _ => rfl) fun hs => ?_)
  have hO := ok_denote_Of hk hs
  have hP := ok_point_SetF (d := d) (y := y) (m := m) hk
  obtain ⟨hy, hc⟩ := saneP_spec hs hk
  obtain ⟨h1, h2⟩ := ptS_spec hs hk
  have hcnt := VCal.ucount_pos k
  have hsz : y.size ≤ 1000 ∧ m.size ≤ 1000 := by
    have hm : bl m = [] → m.size = 0 := fun e => by rw [← bl_length, e]; rfl
    rcases hc with ⟨_, a, b, _⟩ | ⟨_, a, b, _⟩ | ⟨_, a, b⟩ | ⟨_, a, b⟩ | ⟨_, a, b⟩
    · omega
    · omega
    · have := hm b; omega
    · have := hm b; omega
    · have := hm b; omega
  have hlen : (ptS k y m).length < 100000000000 := by
    have := sane_few (B := 3652425) h1 (by decide) fun u hu => by have := (inPt_match hs hk u).1 ((h2 u).1 hu); omega
    omega
  have hpl := ptS_pairs hs hk
  have hcn := ptS_count hs hk
  have hkn := ptS_known hs hk
  have hmono : ∀ i : Int, 0 ≤ i → i ≤ VCal.ucount k → cntM k y m i ≤ cntM k y m (VCal.ucount k) := fun i h0 hi => by
    have := cntM_le (k := k) (y := y) (m := m) (VCal.ucount k - i).toNat h0
    rw [show i + ((VCal.ucount k - i).toNat : Int) = VCal.ucount k by omega] at this
    exact this
  by_cases hw : 400 < cntM k y m (VCal.ucount k)
  · rw [if_pos hw] at hkn
    rw [hkn] at hO hP
    refine callAP_eq (v := ([], (8 : Int))) hO (callAP_eq (v := ([], (8 : Int))) hP ?_)
    refine cond_not (fun q => absurd (of_decide_eq_false q) (by simp)) fun _ => ?_
    refine loopP_of (fun z : Int × Int => 0 ≤ z.2 ∧ z.2 ≤ VCal.ucount k ∧ z.1 = cntM k y m z.2 ∧ z.1 ≤ 401) (fun z => (VCal.ucount k - z.2).toNat) ?_ ⟨Int.le_refl _, by dsimp only; omega, by dsimp only [cntM]; rw [upTo_nil (by omega)]; rfl, by decide⟩
    rintro ⟨c, i⟩ A ⟨i0, i1, i2, i3⟩ back
    dsimp only at i0 i1 i2 i3 ⊢
    subst i2
    have hm := hmono i i0 i1
    refine callP_eq ok_unit_Count (cond_dec (fun hlt => cond_dec (fun hle => ?_) fun hgt => cond_dec (fun _ => rfl) fun q => by omega) fun hge => cond_dec (fun _ => rfl) fun q => ?_)
    · have hs1 := cntM_succ (k := k) (y := y) (m := m) i0
      have e1 : w64 (i + 1) = i + 1 := w64_of (by omega)
      have e2 : w64 ((cntM k y m i : Int) + 1) = cntM k y m i + 1 := w64_of (by omega)
      refine callAP_eq (ok_matches (d := d) hsz.1 hsz.2 i0 (by omega)) (cond_bool (fun hb => back _ ⟨?_, ?_, ?_, ?_⟩ ?_) fun hb => back _ ⟨?_, ?_, ?_, ?_⟩ ?_)
      · dsimp only; rw [e1]; omega
      · dsimp only; rw [e1]; omega
      · dsimp only; rw [e1, e2, hs1, if_pos hb]; simp
      · dsimp only; rw [e2]; omega
      · dsimp only; rw [e1]; omega
      · dsimp only; rw [e1]; omega
      · dsimp only; rw [e1]; omega
      · dsimp only; rw [e1, hs1, if_neg (by rw [hb]; decide)]; simp
      · dsimp only; omega
      · dsimp only; rw [e1]; omega
    · have : i = VCal.ucount k := by omega
      rw [this] at q
      omega
  · rw [if_neg hw] at hkn
    rw [hkn] at hO hP
    refine callAP_eq (v := ([(false, k, ptS k y m, [])], (0 : Int))) hO (callAP_eq (v := (ptS k y m, (0 : Int))) hP ?_)
    have hpl := hpl (by omega)
    refine cond_not (fun q => absurd (of_decide_eq_false q) (by simp)) fun _ => ?_
    refine loopP_of (fun z : Int × Int => 0 ≤ z.2 ∧ z.2 ≤ VCal.ucount k ∧ z.1 = cntM k y m z.2) (fun z => (VCal.ucount k - z.2).toNat) ?_ ⟨Int.le_refl _, by dsimp only; omega, by dsimp only [cntM]; rw [upTo_nil (by omega)]; rfl⟩
    rintro ⟨c, i⟩ A ⟨i0, i1, i2⟩ back
    dsimp only at i0 i1 i2 ⊢
    subst i2
    have hm := hmono i i0 i1
    refine callP_eq ok_unit_Count (cond_dec (fun hlt => cond_dec (fun hle => ?_) fun hgt => by omega) fun hge => cond_dec (fun q => by omega) fun _ => ?_)
    · have hs1 := cntM_succ (k := k) (y := y) (m := m) i0
      have e1 : w64 (i + 1) = i + 1 := w64_of (by omega)
      have e2 : w64 ((cntM k y m i : Int) + 1) = cntM k y m i + 1 := w64_of (by omega)
      refine callAP_eq (ok_matches (d := d) hsz.1 hsz.2 i0 (by omega)) (cond_bool (fun hb => back _ ⟨?_, ?_, ?_⟩ ?_) fun hb => back _ ⟨?_, ?_, ?_⟩ ?_)
      · dsimp only; rw [e1]; omega
      · dsimp only; rw [e1]; omega
      · dsimp only; rw [e1, e2, hs1, if_pos hb]; simp
      · dsimp only; rw [e1]; omega
      · dsimp only; rw [e1]; omega
      · dsimp only; rw [e1]; omega
      · dsimp only; rw [e1, hs1, if_neg (by rw [hb]; decide)]; simp
      · dsimp only; rw [e1]; omega
    · have hi : i = VCal.ucount k := by omega
      subst hi
      have hC : countF (makeF (ptS k y m)) = (cntM k y m (VCal.ucount k) : Int) := by
        rw [make_self h1, ← hcn]
        exact (nums_count h1).symm
      refine cond_yes rfl ?_
      refine cond_yes rfl ?_
      refine callP_eq (ok_runs_CountA hlen) ?_
      refine cond_dec (fun _ => ?_) fun q => absurd hC q
      refine ⟨⟨Int.le_refl _, Int.zero_lt_one⟩, ?_⟩
      refine callP_eq (ok_leaf_Pairs (f := (false, k, ptS k y m, [])) (n := 1000) (by dsimp only; omega) (by simp)) ?_
      exact decide_eq_true (congrArg Int.ofNat hpl)
end
end Go.Proofs.YtgeefhjlfdidmaaGreatDoor.V


/- What awake's text is parsed to. No condition of its own. -/
namespace Go.Proofs.YtgeefhjlfdidmaaGreatDoor.V
open Go Go.RowKit
set_option linter.unusedVariables false
set_option linter.unusedSimpArgs false

def awS : ByteArray := bytesOf [91, 49, 57, 56, 52, 45, 48, 49, 47, 49, 57, 56, 52, 45, 48, 51, 44, 32, 49, 57, 56, 100, 93]

def awV : EV := .tup [.agg [.p (.int .i64) 2, .p (.int .i64) 0, .raw (.string (bytesOf [])), .raw (.string (bytesOf [])), .raw (.string (bytesOf [])), .p .bool false, .p .bool false, .rp 128 2 30 0], .p (.int .i64) 23, .p (.int .i64) 0]
def awO1 : XO := .cells 27 [.p (.int .i64) 1, .p (.int .i64) 0, .raw (.string (bytesOf [])), .raw (.string (bytesOf [])), .raw (.string (bytesOf [])), .p .bool false, .p .bool false, .rp 97 2 1 0, .p (.int .i64) 0, .p (.int .i64) 4, .raw (.string (bytesOf [49, 57, 56])), .raw (.string (bytesOf [])), .raw (.string (bytesOf [])), .p .bool false, .p .bool false, .raw (.slice none 0 0)]
def awO2 : XO := .cells 27 [.p (.int .i64) 0, .p (.int .i64) 1, .raw (.string (bytesOf [49, 57, 56, 52])), .raw (.string (bytesOf [48, 49])), .raw (.string (bytesOf [])), .p .bool false, .p .bool false, .raw (.slice none 0 0), .p (.int .i64) 0, .p (.int .i64) 1, .raw (.string (bytesOf [49, 57, 56, 52])), .raw (.string (bytesOf [48, 51])), .raw (.string (bytesOf [])), .p .bool false, .p .bool false, .raw (.slice none 0 0)]
def awHp : List XO := [.dead, .dead, awO1] ++ List.replicate 30 .dead ++ awO2 :: List.replicate 97 .dead

theorem aw_parse_callable : Callable bs.P 34 := ⟨Tryz.f34, _, by kernel_rfl, rfl, by kernel_rfl⟩

theorem aw_parse : (bs.xcall exHook 100000 34 [.raw (.string awS)] []).map (fun q => eqE q.1 awV && eqOL (deadL [97, 128] q.2) awHp) = some true := by kernel_rfl

end Go.Proofs.YtgeefhjlfdidmaaGreatDoor.V


/- What the text means that awake asks of. No condition of its own. -/
namespace Go.Proofs.YtgeefhjlfdidmaaGreatDoor.V
open Go Go.RowKit
set_option linter.unusedVariables false
set_option linter.unusedSimpArgs false

theorem aw_sane0 : saneP 1 (bytesOf [49, 57, 56, 52]) (bytesOf [48, 49]) (bytesOf []) = true := by kernel_rfl
theorem aw_set0 : setP 1 (bytesOf [49, 57, 56, 52]) (bytesOf [48, 49]) (bytesOf []) = ([(23808, 23808)], 0) := by kernel_rfl
theorem aw_sane1 : saneP 1 (bytesOf [49, 57, 56, 52]) (bytesOf [48, 51]) (bytesOf []) = true := by kernel_rfl
theorem aw_set1 : setP 1 (bytesOf [49, 57, 56, 52]) (bytesOf [48, 51]) (bytesOf []) = ([(23810, 23810)], 0) := by kernel_rfl
theorem aw_sane2 : saneP 4 (bytesOf [49, 57, 56]) (bytesOf []) (bytesOf []) = true := by kernel_rfl
theorem aw_set2 : setP 4 (bytesOf [49, 57, 56]) (bytesOf []) (bytesOf []) = ([(198, 198)], 0) := by kernel_rfl

def awRH : List RH := [⟨n_point_Sane, [ptE 1 (bytesOf [49, 57, 56, 52]) (bytesOf [48, 49]) (bytesOf [])], .p .bool true⟩, ⟨n_point_Set, [ptE 1 (bytesOf [49, 57, 56, 52]) (bytesOf [48, 49]) (bytesOf [])], (Shape.tup (.pair (.slice sRun) (.int .i64))).enc (([(23808, 23808)] : Runs), (0 : Int))⟩, ⟨n_point_Sane, [ptE 1 (bytesOf [49, 57, 56, 52]) (bytesOf [48, 51]) (bytesOf [])], .p .bool true⟩, ⟨n_point_Set, [ptE 1 (bytesOf [49, 57, 56, 52]) (bytesOf [48, 51]) (bytesOf [])], (Shape.tup (.pair (.slice sRun) (.int .i64))).enc (([(23810, 23810)] : Runs), (0 : Int))⟩, ⟨n_point_Sane, [ptE 4 (bytesOf [49, 57, 56]) (bytesOf []) (bytesOf [])], .p .bool true⟩, ⟨n_point_Set, [ptE 4 (bytesOf [49, 57, 56]) (bytesOf []) (bytesOf [])], (Shape.tup (.pair (.slice sRun) (.int .i64))).enc (([(198, 198)] : Runs), (0 : Int))⟩]

theorem awRH_ok : ∀ t ∈ awRH, FnV bs t.f t.args t.v := by
  intro t ht
  simp only [awRH, List.mem_cons, List.not_mem_nil, or_false] at ht
  rcases ht with rfl | rfl | rfl | rfl | rfl | rfl
  · have h := ok_point_Sane 1 (bytesOf [49, 57, 56, 52]) (bytesOf [48, 49]) (bytesOf []); rw [aw_sane0] at h; exact h.toV
  · have h := ok_point_SetF (k := 1) (y := (bytesOf [49, 57, 56, 52])) (m := (bytesOf [48, 49])) (d := bytesOf []) (by decide); rw [aw_set0] at h; exact h.toV
  · have h := ok_point_Sane 1 (bytesOf [49, 57, 56, 52]) (bytesOf [48, 51]) (bytesOf []); rw [aw_sane1] at h; exact h.toV
  · have h := ok_point_SetF (k := 1) (y := (bytesOf [49, 57, 56, 52])) (m := (bytesOf [48, 51])) (d := bytesOf []) (by decide); rw [aw_set1] at h; exact h.toV
  · have h := ok_point_Sane 4 (bytesOf [49, 57, 56]) (bytesOf []) (bytesOf []); rw [aw_sane2] at h; exact h.toV
  · have h := ok_point_SetF (k := 4) (y := (bytesOf [49, 57, 56])) (m := (bytesOf [])) (d := bytesOf []) (by decide); rw [aw_set2] at h; exact h.toV

noncomputable def awH1 : Hooks := fun f args hp => match rhHook awRH f args hp with
  | some q => some q
  | none => awH0 f args hp

theorem awH1_ok : HkOK bs awH1 := (rhHook_ok awRH awRH_ok).or awH0_ok

noncomputable def awH2 : Hooks := fun f args hp => match ofHook awH1 100000 f args hp with
  | some q => some q
  | none => awH1 f args hp

theorem awH2_ok : HkOK bs awH2 := (ofHook_ok awH1_ok 100000).or awH1_ok

noncomputable def awH : Hooks := fun f args hp => match atHook 34 [.raw (.string awS)] awV awHp f args hp with
  | some q => some q
  | none => awH2 f args hp

theorem awH_ok : HkOK bs awH := (atHook_ok exHook_ok aw_parse_callable aw_parse).or awH2_ok

theorem aw_means_callable : Callable bs.P 14 := ⟨Tryz.f14, _, by kernel_rfl, rfl, by kernel_rfl⟩

theorem aw_means : xTup (.pair (.slice sApiLeaf) (.int .i64)) (bs.xcall awH 100000 14 [.raw (.string awS)] []) = some (awL, (0 : Int)) := by kernel_rfl

theorem ok_means : FnE bs 14 [.raw (.string awS)] (.tup (.pair (.slice sApiLeaf) (.int .i64))) (· = (awL, (0 : Int))) := fnE_tup awH_ok aw_means_callable aw_means
end Go.Proofs.YtgeefhjlfdidmaaGreatDoor.V


/- What the player answers that awake asks of. No condition of its own. -/
namespace Go.Proofs.YtgeefhjlfdidmaaGreatDoor.V
open Go Go.RowKit
set_option linter.unusedVariables false
set_option linter.unusedSimpArgs false

def awList : ByteArray := bytesOf [108, 105, 115, 116]
def awDash : ByteArray := bytesOf [45, 10]

theorem aw_run_callable : Callable bs.P 17 := ⟨Tryz.f17, _, by kernel_rfl, rfl, by kernel_rfl⟩

theorem aw_play : (xStr (bs.xcall exHook 100000 17 [.raw (.string awList)] [])).map (eqS awDash) = some true := by kernel_rfl

theorem ok_play : FnV bs 17 [.raw (.string awList)] (.raw (.string awDash)) := fnV_str exHook_ok aw_run_callable aw_play
end Go.Proofs.YtgeefhjlfdidmaaGreatDoor.V


/- awake answers true. No condition of its own. -/
namespace Go.Proofs.YtgeefhjlfdidmaaGreatDoor.V
open Go Go.RowKit
set_option linter.unusedVariables false
set_option linter.unusedSimpArgs false

noncomputable def awK : Hooks := fun f args hp => match rhHook [⟨14, [.raw (.string awS)], (Shape.tup (.pair (.slice sApiLeaf) (.int .i64))).enc (awL, (0 : Int))⟩, ⟨17, [.raw (.string awList)], .raw (.string awDash)⟩] f args hp with
  | some q => some q
  | none => awH0 f args hp

theorem awK_ok : HkOK bs awK := (rhHook_ok _ fun t ht => by
  simp only [List.mem_cons, List.not_mem_nil, or_false] at ht
  rcases ht with rfl | rfl
  · exact FnE.toV ok_means
  · exact ok_play).or awH0_ok

theorem aw_run : xBool (bs.xcall awK 100000 4 [] []) = some true := by kernel_rfl

theorem aw_callable : Callable bs.P 4 := ⟨Tryz.f4, _, by kernel_rfl, rfl, by kernel_rfl⟩

theorem ok_awake : FnE bs 4 [] .bool (· = true) := fnE_run awK_ok aw_callable (xBool_spec aw_run)
end Go.Proofs.YtgeefhjlfdidmaaGreatDoor.V


/- TopUnits as a row asks it: a point among the arguments, the tables that are laid. No condition of its own. -/
namespace Go.Proofs.YtgeefhjlfdidmaaGreatDoor.V
open Go Go.RowKit
set_option linter.unusedVariables false
set_option linter.unusedSimpArgs false

theorem ok_TopUnits {k : Int} {y m d : ByteArray} : FnE bs n_lustrumtop_TopUnits [ptE k y m d] .bool (· = true) := ok_TopUnits_of ok_awake

theorem units_call {W : World} {k : Int} {y m d : ByteArray} (ht : TabOK bs.tab (allM W)) : Calls bs.P n_lustrumtop_TopUnits #[.agg #[.int .i64 k, .string y, .string m, .string d]] W fun e W' => e = .returned (.bool true) ∧ Below W.heap.size W W' := by
  have ha : RepL bs.P (allM W) [ptE k y m d] pureJ [.agg #[.int .i64 k, .string y, .string m, .string d]] :=
    RepL_cons.2 ⟨_, _, rfl, ⟨[.int .i64 k, .string y, .string m, .string d], rfl, RepL_cons.2 ⟨_, _, rfl, rfl, RepL_cons.2 ⟨_, _, rfl, rfl, RepL_cons.2 ⟨_, _, rfl, rfl, RepL_cons.2 ⟨_, _, rfl, rfl, RepL_nil.2 rfl⟩⟩⟩⟩⟩, RepL_nil.2 rfl⟩
  refine (ok_TopUnits.2 (allM W) W _ ht (allM_holds W) ha).mono fun e W' ⟨v, m', h1, h2, h3, h4, r, h5, h6⟩ => ?_
  subst h5
  have : v = .bool true := h6
  subst this
  exact ⟨h1, h4⟩

/-- An argument that is a number and three strings. -/
theorem open_point {H : Type} {enc : TypeId × Value → H} {P : Program} {w : World} {base : Nat} {spare : Nat → Bool} {held : Bool} {t ti ts : TypeId} {fs : Array Field} {v : Value} {d : DataW H} {ps : List MemPlace} {r : Go.Reach} {b0 : Nat}
    (hu : P.underlying t = some (.struct fs)) (hfs : fs.toList.map (fun f => (f.type, f.offset)) = [(ti, 0), (ts, 1), (ts, 2), (ts, 3)]) (hi : P.underlying ti = some (.int .i64)) (hs : P.underlying ts = some .string) (c0 : P.cellsOf t = 4) (ci : P.cellsOf ti = 1) (cs : P.cellsOf ts = 1)
    (hok : Value.okWide P w r b0 t v) (h : DataW.Trod enc P w base spare held t v d ps) : ∃ k y m d, v = .agg #[.int .i64 k, .string y, .string m, .string d] := by
  obtain ⟨fuel, hf⟩ := h
  obtain ⟨xs, n, _, _, hl, hxl, hp⟩ := DataW.trod_struct hu hf
  have hlen : fs.size = 4 := by
    have := congrArg List.length hfs
    simpa using this
  have part : ∀ (i : Nat) (tt : TypeId) (o : Nat), [(ti, 0), (ts, 1), (ts, 2), (ts, 3)][i]? = some (tt, o) → ∃ x, DataW.trod enc P w base spare held n tt ((v.cells.toList.drop o).take (P.cellsOf tt)) = some x := fun i tt o q => by
    rw [← hfs, List.getElem?_map] at q
    cases hq : fs.toList[i]? with
    | none => rw [hq] at q; cases q
    | some f =>
      rw [hq] at q
      simp only [Option.map_some, Option.some.injEq, Prod.mk.injEq] at q
      obtain ⟨rfl, rfl⟩ := q
      have h1 := hp i f (by simpa using hq)
      have hi4 : i < xs.length := by rw [hxl, ← Array.length_toList]; exact (List.getElem?_eq_some_iff.1 hq).1
      rw [List.getElem?_eq_getElem hi4] at h1
      exact ⟨_, h1⟩
  obtain ⟨x0, p0⟩ := part 0 ti 0 rfl
  obtain ⟨x1, p1⟩ := part 1 ts 1 rfl
  obtain ⟨x2, p2⟩ := part 2 ts 2 rfl
  obtain ⟨x3, p3⟩ := part 3 ts 3 rfl
  obtain ⟨k, e0, _⟩ := DataW.trod_int hi p0
  obtain ⟨y, e1, _⟩ := DataW.trod_string hs p1
  obtain ⟨m, e2, _⟩ := DataW.trod_string hs p2
  obtain ⟨d', e3, _⟩ := DataW.trod_string hs p3
  rw [ci] at e0
  rw [cs] at e1 e2 e3
  rw [c0] at hl
  unfold Value.okWide at hok
  rw [hu] at hok
  obtain ⟨us, e, _⟩ := hok
  subst e
  refine ⟨k, y, m, d', ?_⟩
  have hcells : (Value.agg us).cells = us := rfl
  rw [hcells] at hl e0 e1 e2 e3
  obtain ⟨l⟩ := us
  dsimp only at hl e0 e1 e2 e3
  match l, hl with
  | [a, b, c, d2], _ =>
    simp at e0 e1 e2 e3
    rw [e0, e1, e2, e3]

theorem laid_tail {P : Program} {x : String × DataW Unit} {rest : List (String × DataW Unit)} {W : World} (h : laidMet P (x :: rest) W) : laidMet P rest W := by
  obtain ⟨ps, ⟨g, t, cs, fuel, p, q, _, _, _, _, hq, e⟩, hn, hb⟩ := h
  subst e
  exact ⟨q, hq, (List.nodup_append.1 hn).2.1, fun b off hm => hb b off (List.mem_append_right _ hm)⟩

/-! ### A witness's tables -/

mutual
/-- A table's cells. -/
def cellsD : DataW Unit → List Value
  | .lit (.int k n) => [.int k n]
  | .lit (.string b) => [.string ⟨b.toArray⟩]
  | .lit (.bool b) => [.bool b]
  | .agg ps => cellsDL ps
  | _ => []
def cellsDL : List (DataW Unit) → List Value
  | [] => []
  | d :: r => cellsD d ++ cellsDL r
end

def layD (d : DataW Unit) : Obj → Obj
  | .cells _ t frozen => .cells (cellsD d).toArray t frozen
  | o => o
end Go.Proofs.YtgeefhjlfdidmaaGreatDoor.V

