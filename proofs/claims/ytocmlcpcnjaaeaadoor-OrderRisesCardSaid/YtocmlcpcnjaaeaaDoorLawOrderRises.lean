/- For every input lustrum/lustrumlaw21.OrderRises returns true and never panics, and each argument reads afterwards as it read before; the one package-level variable that it reads is tied to the program's text by the card. No condition of our own. (The row over the condition's own law; written by a program of this session, wip/vc/row.py.) -/
import Derived.Test.YtocmlcpcnjaaeaaDoorCards
import Derived.Test.YtocmlcpcnjaaeaaDoorTie
import Derived.Test.YtocmlcpcnjaaeaaDoorM8
import Derived.Test.YtocmlcpcnjaaeaaDoorFactOrderRises
import Derived.WalkKit
import Derived.ProofKit
import Derived.OpenShut
import Derived.ChangeOld
import Derived.Below
import Derived.SizedLaws
import Derived.Deep.DeepHandedRow
import Derived.Lib.LaidTab
namespace Go.Proofs.YtocmlcpcnjaaeaaDoor.orderRises
open Go.ChangeShapes Go.WideShapes Go.ChangeAt Go.RowKit
set_option linter.unusedVariables false
set_option linter.unusedSimpArgs false

theorem own : ownKnob Tryd.prog.godebug = none := by kernel_rfl
theorem laidOut : laidOutB Tryd.prog = true := by kernel_rfl
theorem gTab : Tryd.prog.globalNamed "lustrum/civil.lengths" = some 0 := by kernel_rfl
theorem gTabType : (Tryd.prog.globals[0]?).map (·.type) = some 116 := by kernel_rfl
theorem cellsTab : Tryd.prog.cellsOf 116 = 13 := by kernel_rfl
theorem cellsInt : Tryd.prog.cellsOf 3 = 1 := by kernel_rfl
theorem lay0 : (V.lay Tryd.prog (.slice (.slice (.st (.pair .bool (.pair (.int .i64) (.pair (.slice (.st (.pair (.int .i64) (.int .i64)))) (.slice (.st (.pair (.int .i64) (.int .i64))))))))))).1 38 = true := by kernel_rfl
theorem readable0 : Tryd.prog.readableRec 38 = true := by kernel_rfl
theorem below0 : 38 < Tryd.prog.types.size := of_decide_eq_true (by kernel_rfl)
theorem tabOK {W : World} (h : laidMetH Tryd.prog Rows.orderRisesRow.laid W) : V.TabOK V.bs.tab (V.allM W) := by
  have t : Lib.TabIs Tryd.prog W "lustrum/civil.lengths" .i64 [0, 31, 28, 31, 30, 31, 30, 31, 31, 30, 31, 30, 31] := Lib.tabIs_of_head (rest := []) gTab gTabType Tryd.underlying116 Tryd.underlying3 cellsInt cellsTab h
  refine V.tab_ok t gTab fun g l' hg => ?_
  have hg : V.tab g = some l' := hg
  unfold V.tab at hg
  split at hg
  · exact ⟨rfl, (Option.some.inj hg).symm⟩
  · cases hg

set_option maxRecDepth 100000 in
theorem contract (H : Type) (enc : TypeId × Value → H) (W : World) (base : Nat) (args : Array Value) (ds gs : List (DataW H)) (before : List MemPlace)
    (hval0 : ∀ (j : Nat) t v, Tryd.f5.params[j]? = some t → args[j]? = some v → Value.okWide Tryd.prog W .any base t v)
    (hW : DataW.Whole enc Tryd.prog Tryd.f5.params.toList Rows.orderRisesSpec.vars false W args.toList ds gs before)
    (hL : laidMetH Tryd.prog Rows.orderRisesRow.laid W) :
    Calls Tryd.prog 5 args W fun e W' => ∃ v, e = .returned v ∧ Rows.orderRisesSpec.post enc Tryd.prog Tryd.f5 false true false false W args v W' := by
  have hval := hval0
  have hW' := hW
  obtain ⟨p, q, hA0, hV, rfl, hfz, hnd⟩ := hW
  have hA : DataW.TrodAll enc Tryd.prog W 0 (fun _ => true) true Tryd.f5.params.toList args.toList ds p := hA0
  rw [Tryd.params5] at hA hval
  obtain ⟨v0, vs0, d0, ds0, p0, q0, hargs0, rfl, hp0, h0, r0⟩ := trodAll_cons hA
  obtain ⟨rfl, rfl, rfl⟩ := trodAll_nil r0
  obtain rfl : args = #[v0] := by cases args; simp_all
  obtain ⟨rfl, rfl⟩ := trodVars_none hV
  obtain ⟨y0, V0, R0⟩ := V.open_arg (P := Tryd.prog) (s := (.slice (.slice (.st (.pair .bool (.pair (.int .i64) (.pair (.slice (.st (.pair (.int .i64) (.int .i64)))) (.slice (.st (.pair (.int .i64) (.int .i64))))))))))) (lay0) (hval 0 38 v0 rfl rfl) h0
  have lt0 : ∀ x ∈ p0, x.block < W.heap.size := fun x hx => by simpa using hW'.lt x (by simp [hp0, hx])
  have hc := V.row_call (c := V.bs) (f := 5) (ins := (.slice (.slice (.st (.pair .bool (.pair (.int .i64) (.pair (.slice (.st (.pair (.int .i64) (.int .i64)))) (.slice (.st (.pair (.int .i64) (.int .i64))))))))))) (x := y0) (V.ok_OrderRises y0 R0.1 (fun x hx => (R0.2 x hx).1)) (tabOK hL) (V.args_last lay0 V0)
  refine Calls.mono hc fun e W' ⟨he, bel⟩ => ?_
  subst he
  exact ⟨_, rfl, _, _, _, [], _, [], hW', trodAll_mk1 (shut_bool Tryd.underlying4 _), (trodAll_cons_mk (Below.trod laidOut readable0 below0 h0 bel (lt0)) trodAll_mk0), rfl, bel.frame _, fun h => by cases h⟩

/-- A WORLD FOR THE WITNESS: the settled one, the table holding what its initialiser lays. -/
noncomputable def laidWorld (os : Os) : World :=
  { World.holding Tryd.prog os ⟨#[], #[], []⟩ with heap := (World.holding Tryd.prog os ⟨#[], #[], []⟩).heap.modify 0 fun
      | .cells _ t frozen => .cells #[.int .i64 0, .int .i64 31, .int .i64 28, .int .i64 31, .int .i64 30, .int .i64 31, .int .i64 30, .int .i64 31, .int .i64 31, .int .i64 30, .int .i64 31, .int .i64 30, .int .i64 31] t frozen
      | o => o }
theorem laid_met (os : Os) : laidMet Tryd.prog Rows.orderRisesRow.laid ((laidWorld os).forCall (fun _ _ => 0) ⟨#[], #[.slice none 0 0], []⟩).memory :=
  laidMet_of_run' 8 (by kernel_rfl) (by kernel_rfl)
theorem reads (os : Os) {H : Type} (enc : TypeId × Value → H) : ∃ places, DataW.whole enc Tryd.prog ((laidWorld os).forCall (fun _ _ => 0) ⟨#[], #[.slice none 0 0], []⟩).memory Tryd.f5.params.toList Rows.orderRisesSpec.vars false (#[.slice none 0 0] : Array Value).toList 8 = some ([.nil], [], places) :=
  ⟨[], by kernel_rfl⟩

set_option maxRecDepth 100000 in
theorem lifted (os : Os) (started : os.Started) (H : Type) (enc : TypeId × Value → H) (F : Stop.Interp) :
    ReturnsInHanded {} Tryd.checked os 5 .any ((OpenSpec.ofChange Rows.orderRisesSpec).preRow enc Tryd.prog Tryd.f5 Rows.orderRisesRow.domain false Rows.orderRisesRow.laid) (((OpenSpec.ofChange Rows.orderRisesSpec).at F).post enc Tryd.prog Tryd.f5 false true false false) := by
  obtain ⟨places, hx⟩ := reads os enc
  refine returnsInHanded_of_row (C := Tryd.checked) (s := OpenSpec.ofChange Rows.orderRisesSpec) own started (by kernel_rfl) Tryd.func5
    (witness_row_at (enc := enc) (C := Tryd.checked) false (laidWorld os) #[.slice none 0 0] rfl (by kernel_rfl) (by kernel_rfl) (by kernel_rfl)
      (OpenSpec.preRow_of_cond 8 hx (by kernel_rfl) (fun k hk => by cases hk) (by kernel_rfl) (laid_met os))) ?_
  intro W base args ds gs before hval hW _ _ hsz hL _ _
  exact contract H enc W base args ds gs before hval hW hL

theorem said : Rows.OrderRisesSaid :=
  OpenClaim.holds_of_cond 5 Tryd.f5 rfl rfl rfl rfl rfl rfl rfl ⟨rfl, rfl, rfl, rfl, rfl⟩ rfl rfl rfl rfl rfl (by kernel_rfl) Tryd.func5 facts
    (of_decide_eq_true (by kernel_rfl)) (by unfold Func.isWrapper; first | (rw [if_pos (by decide +kernel)]; kernel_rfl) | (rw [if_neg (by decide +kernel)]; exact ⟨rfl, rfl⟩))
    (fun os started H enc _ F => by rw [OpenClaim.pre_eq_preRow]; exact lifted os started H enc F)

/-- No parameter wants a stand-in; the program's own looks are off: what the card asks. -/
theorem plain (f : FuncId) (fn : Func) (hf : Tryd.pinned.checked.prog.funcNamed "lustrum/lustrumlaw21.OrderRises" = some f) (hfn : Tryd.pinned.checked.prog.funcs[f]? = some fn) :
    true = Tryd.pinned.checked.prog.looks [] ∧ ∀ (j : Nat) t, fn.params[j]? = some t → Tryd.pinned.checked.prog.wantsStandIn t = false := by
  obtain rfl : f = 5 := Option.some.inj ((show Tryd.prog.funcNamed "lustrum/lustrumlaw21.OrderRises" = some 5 by kernel_rfl).symm.trans hf) |>.symm
  obtain rfl : fn = Tryd.f5 := (Option.some.inj (Tryd.func5.symm.trans hfn)).symm
  refine ⟨factP.looks, fun j t ht => ?_⟩
  rw [Tryd.params5] at ht
  have ht : t ∈ ([38] : List Nat) := by simpa using Array.mem_of_getElem? ht
  simp only [List.mem_cons, List.not_mem_nil, or_false] at ht
  rcases ht with rfl
  · exact (show Tryd.prog.wantsStandIn 38 = false by kernel_rfl)

theorem card : Rows.OrderRisesCardSaid :=
  Claim7.holds_tied_plain_at .later [] _ _ _ _ said (fun _ h => by cases h) cardW (fun _ h => by cases h) orderRises_row_tie rfl ⟨rfl, rfl⟩ factP.mainIs rfl plain cardG
#print axioms card
end Go.Proofs.YtocmlcpcnjaaeaaDoor.orderRises
namespace Go.Proofs.YtocmlcpcnjaaeaaDoor
/-- The card, under a short name, for the claim. -/
theorem orderRises_holds : Rows.OrderRisesCardSaid := orderRises.card
end Go.Proofs.YtocmlcpcnjaaeaaDoor
