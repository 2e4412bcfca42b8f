/- For every input lustrum/lustrumlaw22.NarrowIs returns true and never panics, and each argument reads afterwards as it read before; the one package-level variable that it reads is tied to the program's text by the card. No condition of our own. (The row over the condition's own law; written by a program of this session, wip/vc/row.py.) -/
import Derived.Test.YtdlgenbfnahmeaaGreatDoorCards
import Derived.Test.YtdlgenbfnahmeaaGreatDoorTie
import Derived.Test.YtdlgenbfnahmeaaGreatDoorM12
import Derived.Test.YtdlgenbfnahmeaaGreatDoorFactNarrowIs
import Derived.WalkKit
import Derived.ProofKit
import Derived.OpenShut
import Derived.ChangeOld
import Derived.Below
import Derived.SizedLaws
import Derived.Deep.DeepHandedRow
import Derived.Lib.LaidTab
namespace Go.Proofs.YtdlgenbfnahmeaaGreatDoor.narrowIs
open Go.ChangeShapes Go.WideShapes Go.ChangeAt Go.RowKit
set_option linter.unusedVariables false
set_option linter.unusedSimpArgs false

theorem own : ownKnob Tryz.prog.godebug = none := by kernel_rfl
theorem laidOut : laidOutB Tryz.prog = true := by kernel_rfl
theorem gTab : Tryz.prog.globalNamed "lustrum/civil.lengths" = some 0 := by kernel_rfl
theorem gTabType : (Tryz.prog.globals[0]?).map (·.type) = some 157 := by kernel_rfl
theorem cellsTab : Tryz.prog.cellsOf 157 = 13 := by kernel_rfl
theorem cellsInt : Tryz.prog.cellsOf 3 = 1 := by kernel_rfl
theorem lay0 : (V.lay Tryz.prog (.slice (.st (.pair .bool (.pair (.int .i64) (.pair (.slice (.st (.pair (.int .i64) (.int .i64)))) (.slice (.st (.pair (.int .i64) (.int .i64)))))))))).1 22 = true := by kernel_rfl
theorem readable0 : Tryz.prog.readableRec 22 = true := by kernel_rfl
theorem below0 : 22 < Tryz.prog.types.size := of_decide_eq_true (by kernel_rfl)
theorem lay1 : (V.lay Tryz.prog (.slice (.st (.pair .bool (.pair (.int .i64) (.pair (.slice (.st (.pair (.int .i64) (.int .i64)))) (.slice (.st (.pair (.int .i64) (.int .i64)))))))))).1 22 = true := by kernel_rfl
theorem readable1 : Tryz.prog.readableRec 22 = true := by kernel_rfl
theorem below1 : 22 < Tryz.prog.types.size := of_decide_eq_true (by kernel_rfl)
theorem lay2 : (V.lay Tryz.prog (.st (.pair (.int .i64) (.int .i64)))).1 24 = true := by kernel_rfl
theorem readable2 : Tryz.prog.readableRec 24 = true := by kernel_rfl
theorem below2 : 24 < Tryz.prog.types.size := of_decide_eq_true (by kernel_rfl)
theorem tabOK {W : World} (h : laidMetH Tryz.prog Rows.narrowIsRow.laid W) : V.TabOK V.bs.tab (V.allM W) := by
  have t : Lib.TabIs Tryz.prog W "lustrum/civil.lengths" .i64 [0, 31, 28, 31, 30, 31, 30, 31, 31, 30, 31, 30, 31] := Lib.tabIs_of_head (rest := []) gTab gTabType Tryz.underlying157 Tryz.underlying3 cellsInt cellsTab h
  refine V.tab_ok t gTab fun g l' hg => ?_
  have hg : V.tab g = some l' := hg
  unfold V.tab at hg
  split at hg
  · exact ⟨rfl, (Option.some.inj hg).symm⟩
  · cases hg

set_option maxRecDepth 100000 in
theorem contract (H : Type) (enc : TypeId × Value → H) (W : World) (base : Nat) (args : Array Value) (ds gs : List (DataW H)) (before : List MemPlace)
    (hval0 : ∀ (j : Nat) t v, Tryz.f3.params[j]? = some t → args[j]? = some v → Value.okWide Tryz.prog W .any base t v)
    (hW : DataW.Whole enc Tryz.prog Tryz.f3.params.toList Rows.narrowIsSpec.vars false W args.toList ds gs before)
    (hL : laidMetH Tryz.prog Rows.narrowIsRow.laid W) :
    Calls Tryz.prog 3 args W fun e W' => ∃ v, e = .returned v ∧ Rows.narrowIsSpec.post enc Tryz.prog Tryz.f3 false true false false W args v W' := by
  have hval := hval0
  have hW' := hW
  obtain ⟨p, q, hA0, hV, rfl, hfz, hnd⟩ := hW
  have hA : DataW.TrodAll enc Tryz.prog W 0 (fun _ => true) true Tryz.f3.params.toList args.toList ds p := hA0
  rw [Tryz.params3] at hA hval
  obtain ⟨v0, vs0, d0, ds0, p0, q0, hargs0, rfl, hp0, h0, r0⟩ := trodAll_cons hA
  obtain ⟨v1, vs1, d1, ds1, p1, q1, hargs1, rfl, hp1, h1, r1⟩ := trodAll_cons r0
  obtain ⟨v2, vs2, d2, ds2, p2, q2, hargs2, rfl, hp2, h2, r2⟩ := trodAll_cons r1
  obtain ⟨rfl, rfl, rfl⟩ := trodAll_nil r2
  obtain rfl : args = #[v0, v1, v2] := by cases args; simp_all
  obtain ⟨rfl, rfl⟩ := trodVars_none hV
  obtain ⟨y0, V0, R0⟩ := V.open_arg (P := Tryz.prog) (s := (.slice (.st (.pair .bool (.pair (.int .i64) (.pair (.slice (.st (.pair (.int .i64) (.int .i64)))) (.slice (.st (.pair (.int .i64) (.int .i64)))))))))) (lay0) (hval 0 22 v0 rfl rfl) h0
  obtain ⟨y1, V1, R1⟩ := V.open_arg (P := Tryz.prog) (s := (.slice (.st (.pair .bool (.pair (.int .i64) (.pair (.slice (.st (.pair (.int .i64) (.int .i64)))) (.slice (.st (.pair (.int .i64) (.int .i64)))))))))) (lay1) (hval 1 22 v1 rfl rfl) h1
  obtain ⟨y2, V2, R2⟩ := V.open_arg (P := Tryz.prog) (s := (.st (.pair (.int .i64) (.int .i64)))) (lay2) (hval 2 24 v2 rfl rfl) h2
  have lt0 : ∀ x ∈ p0, x.block < W.heap.size := fun x hx => by simpa using hW'.lt x (by simp [hp0, hp1, hp2, hx])
  have lt1 : ∀ x ∈ p1, x.block < W.heap.size := fun x hx => by simpa using hW'.lt x (by simp [hp0, hp1, hp2, hx])
  have lt2 : ∀ x ∈ p2, x.block < W.heap.size := fun x hx => by simpa using hW'.lt x (by simp [hp0, hp1, hp2, hx])
  have hc := V.row_call (c := V.bs) (f := 3) (ins := (.pair (.slice (.st (.pair .bool (.pair (.int .i64) (.pair (.slice (.st (.pair (.int .i64) (.int .i64)))) (.slice (.st (.pair (.int .i64) (.int .i64))))))))) (.pair (.slice (.st (.pair .bool (.pair (.int .i64) (.pair (.slice (.st (.pair (.int .i64) (.int .i64)))) (.slice (.st (.pair (.int .i64) (.int .i64))))))))) (.st (.pair (.int .i64) (.int .i64)))))) (x := (y0, y1, y2)) (V.ok_NarrowIs (y0, y1, y2) R0.1 R1.1) (tabOK hL) (V.args_pair V0 (V.args_pair V1 (V.args_last lay2 V2)))
  refine Calls.mono hc fun e W' ⟨he, bel⟩ => ?_
  subst he
  exact ⟨_, rfl, _, _, _, [], _, [], hW', trodAll_mk1 (shut_bool Tryz.underlying4 _), (trodAll_cons_mk (Below.trod laidOut readable0 below0 h0 bel (lt0)) (trodAll_cons_mk (Below.trod laidOut readable1 below1 h1 bel (lt1)) (trodAll_cons_mk (Below.trod laidOut readable2 below2 h2 bel (lt2)) trodAll_mk0))), rfl, bel.frame _, fun h => by cases h⟩

/-- A WORLD FOR THE WITNESS: the settled one, the table holding what its initialiser lays. -/
noncomputable def laidWorld (os : Os) : World :=
  { World.holding Tryz.prog os ⟨#[], #[], []⟩ with heap := (World.holding Tryz.prog os ⟨#[], #[], []⟩).heap.modify 0 fun
      | .cells _ t frozen => .cells #[.int .i64 0, .int .i64 31, .int .i64 28, .int .i64 31, .int .i64 30, .int .i64 31, .int .i64 30, .int .i64 31, .int .i64 31, .int .i64 30, .int .i64 31, .int .i64 30, .int .i64 31] t frozen
      | o => o }
theorem laid_met (os : Os) : laidMet Tryz.prog Rows.narrowIsRow.laid ((laidWorld os).forCall (fun _ _ => 0) ⟨#[], #[.slice none 0 0, .slice none 0 0, .agg #[.int .i64 0, .int .i64 0]], []⟩).memory :=
  laidMet_of_run' 8 (by kernel_rfl) (by kernel_rfl)
theorem reads (os : Os) {H : Type} (enc : TypeId × Value → H) : ∃ places, DataW.whole enc Tryz.prog ((laidWorld os).forCall (fun _ _ => 0) ⟨#[], #[.slice none 0 0, .slice none 0 0, .agg #[.int .i64 0, .int .i64 0]], []⟩).memory Tryz.f3.params.toList Rows.narrowIsSpec.vars false (#[.slice none 0 0, .slice none 0 0, .agg #[.int .i64 0, .int .i64 0]] : Array Value).toList 8 = some ([.nil, .nil, .agg [.lit (.int .i64 0), .lit (.int .i64 0)]], [], places) :=
  ⟨[], by kernel_rfl⟩

set_option maxRecDepth 100000 in
theorem lifted (os : Os) (started : os.Started) (H : Type) (enc : TypeId × Value → H) (F : Stop.Interp) :
    ReturnsInHanded {} Tryz.checked os 3 .any ((OpenSpec.ofChange Rows.narrowIsSpec).preRow enc Tryz.prog Tryz.f3 Rows.narrowIsRow.domain false Rows.narrowIsRow.laid) (((OpenSpec.ofChange Rows.narrowIsSpec).at F).post enc Tryz.prog Tryz.f3 false true false false) := by
  obtain ⟨places, hx⟩ := reads os enc
  refine returnsInHanded_of_row (C := Tryz.checked) (s := OpenSpec.ofChange Rows.narrowIsSpec) own started (by kernel_rfl) Tryz.func3
    (witness_row_at (enc := enc) (C := Tryz.checked) false (laidWorld os) #[.slice none 0 0, .slice none 0 0, .agg #[.int .i64 0, .int .i64 0]] rfl (by kernel_rfl) (by kernel_rfl) (by kernel_rfl)
      (OpenSpec.preRow_of_cond 8 hx (by kernel_rfl) (fun k hk => by cases hk) (by kernel_rfl) (laid_met os))) ?_
  intro W base args ds gs before hval hW _ _ hsz hL _ _
  exact contract H enc W base args ds gs before hval hW hL

theorem said : Rows.NarrowIsSaid :=
  OpenClaim.holds_of_cond 3 Tryz.f3 rfl rfl rfl rfl rfl rfl rfl ⟨rfl, rfl, rfl, rfl, rfl⟩ rfl rfl rfl rfl rfl (by kernel_rfl) Tryz.func3 facts
    (of_decide_eq_true (by kernel_rfl)) (by unfold Func.isWrapper; first | (rw [if_pos (by decide +kernel)]; kernel_rfl) | (rw [if_neg (by decide +kernel)]; exact ⟨rfl, rfl⟩))
    (fun os started H enc _ F => by rw [OpenClaim.pre_eq_preRow]; exact lifted os started H enc F)

/-- No parameter wants a stand-in; the program's own looks are off: what the card asks. -/
theorem plain (f : FuncId) (fn : Func) (hf : Tryz.pinned.checked.prog.funcNamed "lustrum/lustrumlaw22.NarrowIs" = some f) (hfn : Tryz.pinned.checked.prog.funcs[f]? = some fn) :
    true = Tryz.pinned.checked.prog.looks [] ∧ ∀ (j : Nat) t, fn.params[j]? = some t → Tryz.pinned.checked.prog.wantsStandIn t = false := by
  obtain rfl : f = 3 := Option.some.inj ((show Tryz.prog.funcNamed "lustrum/lustrumlaw22.NarrowIs" = some 3 by kernel_rfl).symm.trans hf) |>.symm
  obtain rfl : fn = Tryz.f3 := (Option.some.inj (Tryz.func3.symm.trans hfn)).symm
  refine ⟨factP.looks, fun j t ht => ?_⟩
  rw [Tryz.params3] at ht
  have ht : t ∈ ([22, 22, 24] : List Nat) := by simpa using Array.mem_of_getElem? ht
  simp only [List.mem_cons, List.not_mem_nil, or_false] at ht
  rcases ht with rfl | rfl | rfl
  · exact (show Tryz.prog.wantsStandIn 22 = false by kernel_rfl)
  · exact (show Tryz.prog.wantsStandIn 22 = false by kernel_rfl)
  · exact (show Tryz.prog.wantsStandIn 24 = false by kernel_rfl)

theorem card : Rows.NarrowIsCardSaid :=
  Claim7.holds_tied_plain_at .later [] _ _ _ _ said (fun _ h => by cases h) cardW (fun _ h => by cases h) narrowIs_row_tie rfl ⟨rfl, rfl⟩ factP.mainIs rfl plain cardG
#print axioms card
end Go.Proofs.YtdlgenbfnahmeaaGreatDoor.narrowIs
namespace Go.Proofs.YtdlgenbfnahmeaaGreatDoor
/-- The card, under a short name, for the claim. -/
theorem narrowIs_holds : Rows.NarrowIsCardSaid := narrowIs.card
end Go.Proofs.YtdlgenbfnahmeaaGreatDoor
