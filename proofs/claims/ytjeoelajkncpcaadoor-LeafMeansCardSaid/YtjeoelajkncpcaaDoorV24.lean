/- Rows: a contract that always answers true, as a row's post. No condition of its own. -/
import Derived.Test.YtjeoelajkncpcaaDoorV23
import Derived.Lib.LaidTab
namespace Go.Proofs.YtjeoelajkncpcaaDoor.V
open Go Go.RowKit
set_option linter.unusedVariables false

/-- A chain of arguments, out of each of them. -/
theorem args_pair {P : Program} {a b : Shape} {m : Mem} {x : a.Val} {y : b.Val} {u : Value} {r : List Value} (h : (Reps P a).V m x u) (k : (Reps P b).A m y r) : (Reps P (.pair a b)).A m (x, y) (u :: r) := ⟨u, r, rfl, h, k⟩

theorem args_last {P : Program} {s : Shape} {t : TypeId} (hl : (lay P s).1 t = true) {m : Mem} {x : s.Val} {u : Value} (h : (Reps P s).V m x u) : (Reps P s).A m x [u] := by
  cases s with
  | bool => exact ⟨u, rfl, h⟩
  | int k => exact ⟨u, rfl, h⟩
  | slice s => exact ⟨u, rfl, h⟩
  | st f => obtain ⟨cs, e, h⟩ := h; exact ⟨cs, by rw [e], h⟩
  | _ => simp [lay] at hl

theorem tab_ok {P : Program} {W : World} {l : List Int} (h : Lib.TabIs P W "lustrum/civil.lengths" .i64 l) (hg : P.globalNamed "lustrum/civil.lengths" = some 0) {tab : Nat → Option (List Int)} (ht : ∀ g l', tab g = some l' → g = 0 ∧ l' = l) : TabOK tab (allM W) := by
  intro g l' hgl i n hi
  obtain ⟨rfl, rfl⟩ := ht g l' hgl
  have hlt := (List.getElem?_eq_some_iff.1 hi).1
  have := h.cell hg i hlt
  unfold allM
  rw [this]
  simp [List.getD_eq_getElem?_getD, hi]

/-- A law's contract, called. -/
theorem row_call {c : Base} {f : FuncId} {ins : Shape} {x : ins.Val} {W : World} {us : List Value} (h : FnE c f (ins.compsE x) .bool (· = true)) (ht : TabOK c.tab (allM W)) (ha : (Reps c.P ins).A (allM W) x us) : Calls c.P f us.toArray W fun e W' => e = .returned (.bool true) ∧ Below W.heap.size W W' :=
  (h.2 (allM W) W us ht (allM_holds W) (RepL_comps ins pureJ ha)).mono fun e W' ⟨v, m', h1, h2, h3, h4, r, h5, h6⟩ => by
    subst h5
    have : v = .bool true := h6
    subst this
    exact ⟨h1, h4⟩
end Go.Proofs.YtjeoelajkncpcaaDoor.V
