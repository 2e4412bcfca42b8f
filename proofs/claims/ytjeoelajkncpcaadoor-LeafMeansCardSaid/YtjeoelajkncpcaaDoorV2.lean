/- What an abstract value says of the model's values and memory, and what a contract says of a call. No condition of its own. -/
import Derived.Test.YtjeoelajkncpcaaDoorV1
namespace Go.Proofs.YtjeoelajkncpcaaDoor.V
open Go Go.RowKit

/-- Memory that nobody writes any more: what its cells hold. -/
abbrev Mem := Nat → Nat → Option Value

def Holds (w : World) (m : Mem) : Prop := ∀ b o v, m b o = some v → w.cell? ⟨b, o, none⟩ = some v

def Mem.le (m m' : Mem) : Prop := ∀ b o v, m b o = some v → m' b o = some v

/-- More is known, but only of blocks from number n on. -/
def Mem.ext (n : Nat) (m m' : Mem) : Prop := m.le m' ∧ ∀ b o, b < n → m' b o = m b o

/-- The program's tables lie in that memory. -/
def TabOK (tab : Nat → Option (List Int)) (m : Mem) : Prop := ∀ g l, tab g = some l → ∀ i n, l[i]? = some n → m g i = some (.int .i64 n)

/-- A function with a body. -/
def Callable (P : Program) (f : FuncId) : Prop := ∃ fn c, P.funcs[f]? = some fn ∧ fn.body = some c ∧ (fn.name == "runtime.NumGoroutine") = false

/-- What represents a shape's values: as cells (C), one by one in a row of arguments (A), as one value (V), behind an interface (I). -/
structure RepT (s : Shape) where
  C : Mem → s.Val → List Value → Prop
  A : Mem → s.Val → List Value → Prop
  V : Mem → s.Val → Value → Prop
  I : Mem → Nat → s.Val → Value → Prop

def RepT.scalar {s : Shape} (q : Mem → s.Val → Value → Prop) : RepT s :=
  { C := fun m x us => ∃ u, us = [u] ∧ q m x u, A := fun m x us => ∃ u, us = [u] ∧ q m x u, V := q, I := fun _ _ _ _ => False }

/-- What is so of a call's end. -/
def PostOf (V : Mem → Value → Prop) (m : Mem) (w : World) (e : Ending) (w' : World) : Prop :=
  ∃ v m', e = .returned v ∧ m.ext w.heap.size m' ∧ Holds w' m' ∧ Below w.heap.size w w' ∧ V m' v

def Reps (P : Program) : (s : Shape) → RepT s
  | .bool => .scalar fun _ x u => u = .bool x
  | .int k => .scalar fun _ x u => u = .int k x
  | .slice s => .scalar fun m xs u => ∃ base cap, u = .slice base xs.length cap ∧ (xs = [] ∨ ∃ b o, base = some ⟨b, o, none⟩ ∧
      ∀ i x, xs[i]? = some x → ∃ us, (Reps P s).C m x us ∧ ∀ j u, us[j]? = some u → m b (o + i * s.size + j) = some u)
  | .st f => { C := (Reps P f).C, A := fun m x us => ∃ cs, us = [.agg cs.toArray] ∧ (Reps P f).C m x cs, V := fun m x u => ∃ cs, u = .agg cs.toArray ∧ (Reps P f).C m x cs, I := fun _ _ _ _ => False }
  | .unit => { C := fun _ _ us => us = [], A := fun _ _ us => us = [], V := fun _ _ _ => False, I := fun _ _ _ _ => False }
  | .pair a b => { C := fun m x us => ∃ c d, us = c ++ d ∧ (Reps P a).C m x.1 c ∧ (Reps P b).C m x.2 d,
                   A := fun m x us => ∃ u r, us = u :: r ∧ (Reps P a).V m x.1 u ∧ (Reps P b).A m x.2 r, V := fun _ _ _ => False, I := fun _ _ _ _ => False }
  | .tup f => { C := fun _ _ _ => False, A := fun _ _ _ => False, V := fun m x u => ∃ us, u = .tuple us.toArray ∧ (Reps P f).A m x us, I := fun _ _ _ _ => False }
  | .func i o => .scalar fun m g u => (u = .nilFunc ∧ ∀ x, g x = none) ∨ ∃ f a b, u = .func (.func f) a b ∧ Callable P f ∧
      ∀ m' w x us r, m.le m' → Holds w m' → (Reps P i).A m' x us → g x = some r →
        Calls P f (a ++ us.toArray ++ b) w (PostOf (fun m v => (Reps P o).V m r v) m' w)
  | .iface a => .scalar fun m x u => match x with
      | none => u = .nilIface
      | some y => ∃ t v, u = .iface t v ∧ (Reps P a).I m t y v
  | .one t s => { C := fun _ _ _ => False, A := fun _ _ _ => False, V := fun _ _ _ => False, I := fun m t' x v => t' = t ∧ (Reps P s).V m x v }
  | .alt t s r => { C := fun _ _ _ => False, A := fun _ _ _ => False, V := fun _ _ _ => False, I := fun m t' x v => match x with
      | .inl y => t' = t ∧ (Reps P s).V m y v
      | .inr y => (Reps P r).I m t' y v }

/- What an abstract value says of a value: 'J' tells it of the words of the abstract heap. -/
mutual
def Rep (P : Program) (m : Mem) : EV → (EV → Value → Prop) → Value → Prop
  | .bot, _, _ => True
  | .p s x, _, u => (Reps P s).V m x u
  | .raw v, _, u => u = v
  | .nil _, _, u => u = .slice none 0 0
  | .ip cs off, _, u => ∃ b o us, u = .pointer (some ⟨b, o + off, none⟩) ∧ RepL P m cs (fun _ _ => False) us ∧ ∀ j v, us[j]? = some v → m b (o + j) = some v
  | .box i o, J, u => J (.box i o) u
  | .rp i v k o, J, u => J (.rp i v k o) u
  | .row i v, J, u => J (.row i v) u
  | .agg cs, J, u => ∃ us, u = .agg us.toArray ∧ RepL P m cs J us
  | .tup cs, J, u => ∃ us, u = .tuple us.toArray ∧ RepL P m cs J us
  | .clo fn a b, J, u => ∃ xs ys, u = .func fn xs.toArray ys.toArray ∧ RepL P m a J xs ∧ RepL P m b J ys
  | .ifc t v, J, u => ∃ x, u = .iface t x ∧ Rep P m v J x
def RepL (P : Program) (m : Mem) : List EV → (EV → Value → Prop) → List Value → Prop
  | [], _, us => us = []
  | c :: r, J, us => ∃ u us', us = u :: us' ∧ Rep P m c J u ∧ RepL P m r J us'
end

def pureJ : EV → Value → Prop := fun _ _ => False

/-- THE CONTRACT: called with what these abstract values represent, the function returns, of what was there nothing has turned, and its result represents a value of which R is so. -/
def FnE (c : Base) (f : FuncId) (args : List EV) (out : Shape) (R : out.Val → Prop) : Prop :=
  Callable c.P f ∧ ∀ m w us, TabOK c.tab m → Holds w m → RepL c.P m args pureJ us → Calls c.P f us.toArray w (PostOf (fun m v => ∃ r, R r ∧ (Reps c.P out).V m r v) m w)

/-- A function value answers as g does, where g answers. -/
def CloSpec (c : Base) (f : FuncId) (a b : List EV) (ins out : Shape) (g : ins.Val → Option out.Val) : Prop :=
  Callable c.P f ∧ ∀ x r, g x = some r → FnE c f (a ++ ins.compsE x ++ b) out (· = r)

/-- A call of a function of the program: by its contract. -/
def callP (c : Base) (f : FuncId) (ins out : Shape) (x : ins.Val) (K : out.Val → Prop) : Prop :=
  ∃ R, FnE c f (ins.compsE x) out R ∧ ∀ r, R r → K r

/-- A call of a function value of which it is known what it answers. -/
def gcall {α β : Type} (g : α → Option β) (x : α) (K : β → Prop) : Prop := ∃ r, g x = some r ∧ K r

/-- A function value is made, and stands for some function. -/
def cloP (c : Base) (f : FuncId) (a b : List EV) (ins out : Shape) (K : (ins.Val → Option out.Val) → Prop) : Prop :=
  ∃ g, CloSpec c f a b ins out g ∧ K g

/-- Is there a value? -/
def optK {α : Type} (x : Option α) (A : Prop) (B : α → Prop) : Prop :=
  match x with
  | none => A
  | some y => B y

/-- Which of two? -/
def sumK {α β : Type} (x : α ⊕ β) (A : α → Prop) (B : β → Prop) : Prop :=
  match x with
  | .inl y => A y
  | .inr y => B y

/-- A loop: at most n rounds. -/
def loopN {S : Type} (F : S → (S → Prop) → Prop) : Nat → S → Prop
  | 0, _ => False
  | n + 1, s => F s (loopN F n)

def loopP {S : Type} (F : S → (S → Prop) → Prop) (s : S) : Prop := ∃ n, loopN F n s
end Go.Proofs.YtjeoelajkncpcaaDoor.V
