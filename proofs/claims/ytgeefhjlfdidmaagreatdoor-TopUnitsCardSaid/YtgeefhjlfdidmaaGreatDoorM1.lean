/- The calculus of the program's functions and their contracts, part 1. No condition of its own. -/
import Derived.Calls
import Derived.OrdersHeld
import Derived.Below
import Derived.KernelRfl
import Derived.ChangeKeysEq
import Derived.Deep.MidRow
import Derived.Laws.Build
import Derived.Laws.Small
import Derived.WideLaws


/- The data of a calculus of verification conditions over the given program's own code: typed shapes, abstract values, an abstract heap, and the condition itself (a function on code that the kernel evaluates). No condition of its own. -/
namespace Go.Proofs.YtgeefhjlfdidmaaGreatDoor.V
set_option linter.unusedVariables false
set_option linter.unusedSimpArgs false
open Go

/-- The shape of a Go type, as far as this calculus speaks of it. Sequences of fields, parameters and results are chains of 'pair' ('unit': none; one: itself). -/
inductive Shape where
  | bool | int (k : IntKind) | slice (s : Shape) | st (f : Shape) | unit | pair (a b : Shape) | tup (f : Shape)
  | func (ins out : Shape) | iface (alts : Shape) | one (t : Nat) (s : Shape) | alt (t : Nat) (s r : Shape)
  deriving DecidableEq

/-- What a shape's values are in Lean. -/
@[reducible] def Shape.Val : Shape → Type
  | .bool => Bool
  | .int _ => Int
  | .slice s => List s.Val
  | .st f => f.Val
  | .unit => Unit
  | .pair a b => a.Val × b.Val
  | .tup f => f.Val
  | .func i o => i.Val → Option o.Val
  | .iface a => Option a.Val
  | .one _ s => s.Val
  | .alt _ s r => s.Val ⊕ r.Val

/-- Some value of each shape. -/
def Shape.dflt : (s : Shape) → s.Val
  | .bool => false
  | .int _ => (0 : Int)
  | .slice _ => []
  | .st f => f.dflt
  | .unit => ()
  | .pair a b => (a.dflt, b.dflt)
  | .tup f => f.dflt
  | .func _ _ => fun _ => none
  | .iface _ => none
  | .one _ s => s.dflt
  | .alt _ s _ => .inl s.dflt

/-- How many cells a value takes. -/
def Shape.size : Shape → Nat
  | .bool | .int _ | .slice _ | .func _ _ | .iface _ => 1
  | .st f => f.size
  | .unit => 0
  | .pair a b => a.size + b.size
  | .tup _ | .one _ _ | .alt _ _ _ => 0

/-- No slice, function or interface value in it. -/
def Shape.flat : Shape → Bool
  | .bool | .int _ | .unit => true
  | .slice _ | .func _ _ | .iface _ | .one _ _ | .alt _ _ _ => false
  | .st f | .tup f => f.flat
  | .pair a b => a.flat && b.flat

/-- An element of a list of values (the default beyond its end). -/
def rd (s : Shape) (xs : List s.Val) (i : Nat) : s.Val := xs.getD i s.dflt

/-- An abstract value: 'bot' unknown; 'p' a pure value; 'raw' this very value; 'nil' the nil slice; 'ip' a pointer into memory that nobody writes, whose cells are known; 'box', 'rp', 'row' pointers and slices into the abstract heap. -/
inductive EV where
  | bot
  | p (s : Shape) (v : s.Val)
  | raw (v : Value)
  | nil (s : Shape)
  | ip (cs : List EV) (off : Nat)
  | box (id off : Nat)
  | rp (id ver k off : Nat)
  | row (id ver : Nat)
  | agg (cs : List EV)
  | tup (vs : List EV)
  | clo (fn : Fn) (first captured : List EV)
  | ifc (t : Nat) (v : EV)

/-- A value's cells. -/
def Shape.cellsE : (s : Shape) → s.Val → List EV
  | .st f, x => f.cellsE x
  | .unit, _ => []
  | .pair a b, x => a.cellsE x.1 ++ b.cellsE x.2
  | .bool, x => [.p .bool x]
  | .int k, x => [.p (.int k) x]
  | .slice s, x => [.p (.slice s) x]
  | .func i o, x => [.p (.func i o) x]
  | .iface a, x => [.p (.iface a) x]
  | .tup _, _ | .one _ _, _ | .alt _ _ _, _ => []

/-- A value, as it lies in a temporary (no tuple). -/
def Shape.enc0 : (s : Shape) → s.Val → EV
  | .st f, x => .agg (f.cellsE x)
  | .unit, x => .p .unit x
  | .pair a b, x => .p (.pair a b) x
  | .bool, x => .p .bool x
  | .int k, x => .p (.int k) x
  | .slice s, x => .p (.slice s) x
  | .func i o, x => .p (.func i o) x
  | .iface a, x => .p (.iface a) x
  | .tup f, x => .p (.tup f) x
  | .one t s, x => .p (.one t s) x
  | .alt t s r, x => .p (.alt t s r) x

/-- A sequence's values, one by one. -/
def Shape.compsE : (s : Shape) → s.Val → List EV
  | .pair a b, x => a.enc0 x.1 :: b.compsE x.2
  | .unit, _ => []
  | .st f, x => [.agg (f.cellsE x)]
  | .bool, x => [.p .bool x]
  | .int k, x => [.p (.int k) x]
  | .slice s, x => [.p (.slice s) x]
  | .func i o, x => [.p (.func i o) x]
  | .iface a, x => [.p (.iface a) x]
  | .tup _, _ | .one _ _, _ | .alt _ _ _, _ => [.bot]

/-- A value as it lies in a temporary. -/
def Shape.enc : (s : Shape) → s.Val → EV
  | .tup f, x => .tup (f.compsE x)
  | .st f, x => .agg (f.cellsE x)
  | .unit, x => .p .unit x
  | .pair a b, x => .p (.pair a b) x
  | .bool, x => .p .bool x
  | .int k, x => .p (.int k) x
  | .slice s, x => .p (.slice s) x
  | .func i o, x => .p (.func i o) x
  | .iface a, x => .p (.iface a) x
  | .one t s, x => .p (.one t s) x
  | .alt t s r, x => .p (.alt t s r) x

/-- How a block is held: it may be written; not for now; no more. -/
inductive Md where
  | own | lock | froz
  deriving DecidableEq

def Md.isOwn : Md → Bool
  | .own => true
  | .lock => false
  | .froz => false

def Md.isLock : Md → Bool
  | .own => false
  | .lock => true
  | .froz => false

/-- A block of the abstract heap: a variable, or the row of a slice that the call owns, or an iterator over a string. -/
inductive Ent where
  | box (md : Md) (cs : List EV)
  | row (md : Md) (ver : Nat) (e : TypeId) (s : Shape) (xs : List s.Val)
  | iter (md : Md) (s : ByteArray) (pos : Int)

def Ent.md : Ent → Md
  | .box m _ => m
  | .row m _ _ _ _ => m
  | .iter m _ _ => m

def Ent.setMd (m : Md) : Ent → Ent
  | .box _ cs => .box m cs
  | .row _ v e s xs => .row m v e s xs
  | .iter _ s pos => .iter m s pos

/-- A block to which a pointer may lead. -/
def Ent.bx : Ent → Bool
  | .box _ _ => true
  | .row _ _ _ _ _ => false
  | .iter _ _ _ => true

structure St where
  env : Nat → EV
  hp : List Ent

/-- The program; what its tables hold; each interface type's dynamic types. -/
structure Base where
  P : Program
  tab : Nat → Option (List Int)
  alts : TypeId → Option Shape

/-- What the condition is told besides: each loop's varying temporaries, varying blocks, blocks to be frozen ahead of it; the temporaries whose nil is a row. -/
structure Cfg extends Base where
  lv : Nat → List Nat × List Nat × List Nat
  rows : List Nat
  /-- Functions whose calls are told otherwise than by a contract over values; methods by name, likewise (the receiver first). -/
  han : FuncId → Option (List EV → List Ent → (EV → List Ent → Prop) → Prop) := fun _ => none
  hni : String → Option (EV → List EV → List Ent → (EV → List Ent → Prop) → Prop) := fun _ => none
  /-- The temporaries at whose assigning a row is frozen. -/
  frzs : List Nat := []
  /-- The temporaries of variables that are structs whose first field is kept as a row of a type. -/
  srows : Nat → Option TypeId := fun _ => none
  /-- The shape of what a range over a function hands to a round. -/
  rs : Shape := .unit

def St.put (st : St) (d : Option Nat) (v : EV) : St :=
  match d with
  | some d => { st with env := fun i => cond (Nat.beq i d) v (st.env i) }
  | none => st

/-- A constant. -/
def cst : Value → EV
  | .bool b => .p .bool b
  | .int k n => .p (.int k) n
  | v => .raw v

def Cfg.ev (c : Cfg) (st : St) : Operand → EV
  | .tmp t => st.env t
  | .const v => cst v
  | .global g => match c.tab g with
    | some l => .ip (l.map fun n => .p (.int .i64) n) 0
    | none => .bot
  | .func f => .clo (.func f) [] []

/-- A chain. -/
def seqS : List Shape → Shape
  | [] => .unit
  | [s] => s
  | s :: r => .pair s (seqS r)

def allS : List (Option Shape) → Option (List Shape)
  | [] => some []
  | none :: _ => none
  | some s :: r => (allS r).map (s :: ·)

/-- A type's shape. -/
def Cfg.shp (c : Cfg) : Nat → TypeId → Option Shape
  | 0, _ => none
  | n + 1, t => match c.P.underlying t with
    | some .bool => some .bool
    | some (.int k) => some (.int k)
    | some (.slice e) => (c.shp n e).map .slice
    | some (.struct fs) => (allS (fs.toList.map fun f => c.shp n f.type)).map fun l => .st (seqS l)
    | some (.array k e) => (c.shp n e).map fun s => .st (seqS (List.replicate k s))
    | some (.func ps rs _) => match allS (ps.toList.map (c.shp n)), allS (rs.toList.map (c.shp n)) with
      | some a, some [r] => some (.func (seqS a) r)
      | some a, some r => some (.func (seqS a) (.tup (seqS r)))
      | _, _ => none
    | some (.interface _) => c.alts t
    | _ => none

def deep : Nat := 12

def Cfg.sizeOf (c : Cfg) (t : TypeId) : Nat := c.P.cellsOf t

/-- What must be shown, and what follows. -/
def chk (a b : Prop) : Prop := a ∧ b

/-- The numbers of cells that all bear numbers. -/
def intsOf (k : IntKind) : List EV → Option (List Int)
  | [] => some []
  | .p (.int k') n :: r => if k' = k then (intsOf k r).map (n :: ·) else none
  | _ => none

/-- The cell at a place. -/
def atK (cs : List EV) (off : Nat) (K : EV → Prop) : Prop :=
  match cs[off]? with
  | some c => K c
  | none => False

/-- What a load reads. -/
def Cfg.ldK (c : Cfg) (t : TypeId) (cs : List EV) (off : Nat) (K : EV → Prop) : Prop :=
  match c.P.underlying t with
  | some (.struct _) | some (.array _ _) => cond (Nat.ble (off + c.sizeOf t) cs.length) (K (.agg ((cs.drop off).take (c.sizeOf t)))) False
  | some _ => atK cs off K
  | none => False

/-- A pointer's cells, and its place among them. -/
def Cfg.ptK (st : St) (x : EV) (K : List EV → Nat → Prop) : Prop :=
  match x with
  | .ip cs off => K cs off
  | .box id off => match st.hp[id]? with
    | some (.box _ cs) => K cs off
    | _ => False
  | .rp id ver k off => match st.hp[id]? with
    | some (.row _ v _ s xs) => cond (Nat.beq v ver) (K (s.cellsE (rd s xs k)) off) False
    | _ => False
  | _ => False

/-- The same pointer, further on. -/
def EV.fwd : EV → Nat → EV
  | .ip cs off, n => .ip cs (off + n)
  | .box id off, n => .box id (off + n)
  | .rp id ver k off, n => .rp id ver k (off + n)
  | _, _ => .bot

/-- A pointer that is not out of date. -/
def isPt (st : St) : EV → Bool
  | .ip _ _ => true
  | .box _ _ => true
  | .rp id ver _ _ => match st.hp[id]? with
    | some (.row _ v _ _ _) => Nat.beq v ver
    | _ => false
  | _ => false

/-- A slice's shape and elements. -/
def slK (st : St) (x : EV) (K : (s : Shape) → List s.Val → Prop) : Prop :=
  match x with
  | .p (.slice s) xs => K s xs
  | .nil s => K s []
  | .row id ver => match st.hp[id]? with
    | some (.row _ v _ s xs) => cond (Nat.beq v ver) (K s xs) False
    | _ => False
  | _ => False

def EV.cells : EV → List EV
  | .agg cs => cs
  | v => [v]

/-- Cells laid over others. -/
def laid (cs : List EV) (off : Nat) (vs : List EV) : List EV := cs.take off ++ vs ++ cs.drop (off + vs.length)

/-- A type's zero. -/
def Shape.zeroC : Shape → List EV
  | .bool => [.p .bool false]
  | .int k => [.p (.int k) (0 : Int)]
  | .slice s => [.nil s]
  | .st f => f.zeroC
  | .unit => []
  | .pair a b => a.zeroC ++ b.zeroC
  | .func _ _ => [.raw .nilFunc]
  | .iface _ => [.raw .nilIface]
  | .tup _ | .one _ _ | .alt _ _ _ => []

def Shape.zeroE : Shape → EV
  | .bool => .p .bool false
  | .int k => .p (.int k) (0 : Int)
  | .slice s => .nil s
  | .st f => .agg f.zeroC
  | .func _ _ => .raw .nilFunc
  | .iface _ => .raw .nilIface
  | _ => .bot

/-- A value of one shape as one of another: they are the same. -/
def castK (a b : Shape) (x : a.Val) (K : b.Val → Prop) : Prop :=
  if h : a = b then K (h ▸ x) else False

/- A value with other words for the heap's own. -/
mutual
def EV.sub (rowf boxf : Nat → Nat → EV) : EV → EV
  | .row id ver => rowf id ver
  | .box id off => boxf id off
  | .rp _ _ _ _ => .bot
  | .agg cs => .agg (EV.subL rowf boxf cs)
  | .tup cs => .tup (EV.subL rowf boxf cs)
  | .clo fn a b => .clo fn (EV.subL rowf boxf a) (EV.subL rowf boxf b)
  | .ifc t v => .ifc t (EV.sub rowf boxf v)
  | .bot => .bot
  | .p s x => .p s x
  | .raw v => .raw v
  | .nil s => .p (.slice s) []
  | .ip cs off => .ip cs off
def EV.subL (rowf boxf : Nat → Nat → EV) : List EV → List EV
  | [] => []
  | v :: r => EV.sub rowf boxf v :: EV.subL rowf boxf r
end

/-- Frozen: the heap's own words are struck. 'n': how deep blocks are followed. -/
def frz (hp : List Ent) : Nat → EV → EV
  | 0, v => v.sub (fun _ _ => .bot) (fun _ _ => .bot)
  | n + 1, v => v.sub
      (fun id ver => match hp[id]? with
        | some (.row _ v _ s xs) => cond (Nat.beq v ver) (.p (.slice s) xs) .bot
        | _ => .bot)
      (fun id off => match hp[id]? with
        | some (.box _ cs) => .ip (cs.map (frz hp n)) off
        | _ => .bot)

/- The blocks that a value names. -/
mutual
def EV.ids : EV → List Nat
  | .row id _ => [id]
  | .box id _ => [id]
  | .rp id _ _ _ => [id]
  | .agg cs => EV.idsL cs
  | .tup cs => EV.idsL cs
  | .clo _ a b => EV.idsL a ++ EV.idsL b
  | .ifc _ v => EV.ids v
  | .bot => []
  | .p _ _ => []
  | .raw _ => []
  | .nil _ => []
  | .ip _ _ => []
def EV.idsL : List EV → List Nat
  | [] => []
  | v :: r => EV.ids v ++ EV.idsL r
end

def Ent.ids : Ent → List Nat
  | .box _ cs => EV.idsL cs
  | .row _ _ _ _ _ => []
  | .iter _ _ _ => []

/-- Not to be written for now. -/
def Ent.lock (x : Ent) : Ent := cond x.md.isOwn (x.setMd .lock) x

/-- The blocks of a set are written no more. -/
def frzH (ids : List Nat) : Nat → List Ent → List Ent
  | _, [] => []
  | n, x :: r => cond (ids.contains n) (x.setMd .froz) x :: frzH ids (n + 1) r
end Go.Proofs.YtgeefhjlfdidmaaGreatDoor.V


/- What an abstract value says of the model's values and memory, and what a contract says of a call. No condition of its own. -/
namespace Go.Proofs.YtgeefhjlfdidmaaGreatDoor.V
set_option linter.unusedVariables false
set_option linter.unusedSimpArgs false
open Go Go.RowKit

/-- Memory that nobody writes any more: what its cells hold. -/
abbrev Mem := Nat → Nat → Option Value

def Holds (w : World) (m : Mem) : Prop := ∀ b o v, m b o = some v → w.cell? ⟨b, o, none⟩ = some v

def Mem.le (m m' : Mem) : Prop := ∀ b o v, m b o = some v → m' b o = some v

/-- More is known, but only of blocks from number n on. -/
def Mem.ext (n : Nat) (m m' : Mem) : Prop := m.le m' ∧ ∀ b o, b < n → m' b o = m b o

/-- The program's tables lie in that memory. -/
def TabOK (tab : Nat → Option (List Int)) (m : Mem) : Prop := ∀ g l, tab g = some l → ∀ i n, l[i]? = some n → m g i = some (.int .i64 n)

/-- A function with a body. -/
def Callable (P : Program) (f : FuncId) : Prop := ∃ fn c, P.funcs[f]? = some fn ∧ fn.body = some c ∧ (fn.name == "runtime.NumGoroutine") = false

/-- What represents a shape's values: as cells (C), one by one in a row of arguments (A), as one value (V), behind an interface (I). -/
structure RepT (s : Shape) where
  C : Mem → s.Val → List Value → Prop
  A : Mem → s.Val → List Value → Prop
  V : Mem → s.Val → Value → Prop
  I : Mem → Nat → s.Val → Value → Prop

def RepT.scalar {s : Shape} (q : Mem → s.Val → Value → Prop) : RepT s :=
  { C := fun m x us => ∃ u, us = [u] ∧ q m x u, A := fun m x us => ∃ u, us = [u] ∧ q m x u, V := q, I := fun _ _ _ _ => False }

/-- What is so of a call's end. -/
def PostOf (V : Mem → Value → Prop) (m : Mem) (w : World) (e : Ending) (w' : World) : Prop :=
  ∃ v m', e = .returned v ∧ m.ext w.heap.size m' ∧ Holds w' m' ∧ Below w.heap.size w w' ∧ V m' v

def Reps (P : Program) : (s : Shape) → RepT s
  | .bool => .scalar fun _ x u => u = .bool x
  | .int k => .scalar fun _ x u => u = .int k x
  | .slice s => .scalar fun m xs u => ∃ base cap, u = .slice base xs.length cap ∧ xs.length ≤ cap ∧ (xs = [] ∨ ∃ b o, base = some ⟨b, o, none⟩ ∧
      ∀ i x, xs[i]? = some x → ∃ us, (Reps P s).C m x us ∧ ∀ j u, us[j]? = some u → m b (o + i * s.size + j) = some u)
  | .st f => { C := (Reps P f).C, A := fun m x us => ∃ cs, us = [.agg cs.toArray] ∧ (Reps P f).C m x cs, V := fun m x u => ∃ cs, u = .agg cs.toArray ∧ (Reps P f).C m x cs, I := fun _ _ _ _ => False }
  | .unit => { C := fun _ _ us => us = [], A := fun _ _ us => us = [], V := fun _ _ _ => False, I := fun _ _ _ _ => False }
  | .pair a b => { C := fun m x us => ∃ c d, us = c ++ d ∧ (Reps P a).C m x.1 c ∧ (Reps P b).C m x.2 d,
                   A := fun m x us => ∃ u r, us = u :: r ∧ (Reps P a).V m x.1 u ∧ (Reps P b).A m x.2 r, V := fun _ _ _ => False, I := fun _ _ _ _ => False }
  | .tup f => { C := fun _ _ _ => False, A := fun _ _ _ => False, V := fun m x u => ∃ us, u = .tuple us.toArray ∧ (Reps P f).A m x us, I := fun _ _ _ _ => False }
  | .func i o => .scalar fun m g u => (u = .nilFunc ∧ ∀ x, g x = none) ∨ ∃ f a b, u = .func (.func f) a b ∧ Callable P f ∧
      ∀ m' w x us r, m.le m' → Holds w m' → (Reps P i).A m' x us → g x = some r →
        Calls P f (a ++ us.toArray ++ b) w (PostOf (fun m v => (Reps P o).V m r v) m' w)
  | .iface a => .scalar fun m x u => match x with
      | none => u = .nilIface
      | some y => ∃ t v, u = .iface t v ∧ (Reps P a).I m t y v
  | .one t s => { C := fun _ _ _ => False, A := fun _ _ _ => False, V := fun _ _ _ => False, I := fun m t' x v => t' = t ∧ (Reps P s).V m x v }
  | .alt t s r => { C := fun _ _ _ => False, A := fun _ _ _ => False, V := fun _ _ _ => False, I := fun m t' x v => match x with
      | .inl y => t' = t ∧ (Reps P s).V m y v
      | .inr y => (Reps P r).I m t' y v }

/- What an abstract value says of a value: 'J' tells it of the words of the abstract heap. -/
mutual
def Rep (P : Program) (m : Mem) : EV → (EV → Value → Prop) → Value → Prop
  | .bot, _, _ => True
  | .p s x, _, u => (Reps P s).V m x u
  | .raw v, _, u => u = v
  | .nil _, _, u => u = .slice none 0 0
  | .ip cs off, _, u => ∃ b o us, u = .pointer (some ⟨b, o + off, none⟩) ∧ RepL P m cs (fun _ _ => False) us ∧ ∀ j v, us[j]? = some v → m b (o + j) = some v
  | .box i o, J, u => J (.box i o) u
  | .rp i v k o, J, u => J (.rp i v k o) u
  | .row i v, J, u => J (.row i v) u
  | .agg cs, J, u => ∃ us, u = .agg us.toArray ∧ RepL P m cs J us
  | .tup cs, J, u => ∃ us, u = .tuple us.toArray ∧ RepL P m cs J us
  | .clo fn a b, J, u => ∃ xs ys, u = .func fn xs.toArray ys.toArray ∧ RepL P m a J xs ∧ RepL P m b J ys
  | .ifc t v, J, u => ∃ x, u = .iface t x ∧ Rep P m v J x
def RepL (P : Program) (m : Mem) : List EV → (EV → Value → Prop) → List Value → Prop
  | [], _, us => us = []
  | c :: r, J, us => ∃ u us', us = u :: us' ∧ Rep P m c J u ∧ RepL P m r J us'
end

def pureJ : EV → Value → Prop := fun _ _ => False

/-- THE CONTRACT: called with what these abstract values represent, the function returns, of what was there nothing has turned, and its result represents a value of which R is so. -/
def FnE (c : Base) (f : FuncId) (args : List EV) (out : Shape) (R : out.Val → Prop) : Prop :=
  Callable c.P f ∧ ∀ m w us, TabOK c.tab m → Holds w m → RepL c.P m args pureJ us → Calls c.P f us.toArray w (PostOf (fun m v => ∃ r, R r ∧ (Reps c.P out).V m r v) m w)

/-- A function value answers as g does, where g answers. -/
def CloSpec (c : Base) (f : FuncId) (a b : List EV) (ins out : Shape) (g : ins.Val → Option out.Val) : Prop :=
  Callable c.P f ∧ ∀ x r, g x = some r → FnE c f (a ++ ins.compsE x ++ b) out (· = r)

/-- A call of a function of the program: by its contract. -/
def callP (c : Base) (f : FuncId) (ins out : Shape) (x : ins.Val) (K : out.Val → Prop) : Prop :=
  ∃ R, FnE c f (ins.compsE x) out R ∧ ∀ r, R r → K r

/-- A call of a function value of which it is known what it answers. -/
def gcall {α β : Type} (g : α → Option β) (x : α) (K : β → Prop) : Prop := ∃ r, g x = some r ∧ K r

/-- A function value is made, and stands for some function. -/
def cloP (c : Base) (f : FuncId) (a b : List EV) (ins out : Shape) (K : (ins.Val → Option out.Val) → Prop) : Prop :=
  ∃ g, CloSpec c f a b ins out g ∧ K g

/-- Is there a value? -/
def optK {α : Type} (x : Option α) (A : Prop) (B : α → Prop) : Prop :=
  match x with
  | none => A
  | some y => B y

/-- Which of two? -/
def sumK {α β : Type} (x : α ⊕ β) (A : α → Prop) (B : β → Prop) : Prop :=
  match x with
  | .inl y => A y
  | .inr y => B y

/-- A loop: at most n rounds. -/
def loopN {S : Type} (F : S → (S → Prop) → Prop) : Nat → S → Prop
  | 0, _ => False
  | n + 1, s => F s (loopN F n)

def loopP {S : Type} (F : S → (S → Prop) → Prop) (s : S) : Prop := ∃ n, loopN F n s
end Go.Proofs.YtgeefhjlfdidmaaGreatDoor.V


/- The verification condition of code, as a function that the kernel evaluates on the program's own code. -/
namespace Go.Proofs.YtgeefhjlfdidmaaGreatDoor.V
set_option linter.unusedVariables false
set_option linter.unusedSimpArgs false
open Go

def isNil : EV → Bool
  | .nil _ => true
  | .raw (.slice none 0 0) => true
  | _ => false

/- An abstract value as one of a shape (decV), a row of cells as fields (decC), a row of values as arguments (decS), a value behind an interface (decA). -/
mutual
def decV (c : Cfg) (st : St) : (s : Shape) → EV → (s.Val → Prop) → Prop
  | .bool, v, K => match v with
    | .p .bool x => K x
    | _ => False
  | .int k, v, K => match v with
    | .p (.int k') x => if k' = k then K x else False
    | _ => False
  | .slice s, v, K => cond (isNil v) (K []) (slK st v fun s' xs => castK (.slice s') (.slice s) xs K)
  | .st f, v, K => match v with
    | .agg cs => decC c st f cs fun x r => match r with
      | [] => K x
      | _ => False
    | _ => False
  | .func i o, v, K => match v with
    | .p s x => castK s (.func i o) x K
    | .clo (.func f) a b => cloP c.toBase f (a.map (frz st.hp 3)) (b.map (frz st.hp 3)) i o K
    | .raw .nilFunc => K fun _ => none
    | _ => False
  | .iface a, v, K => match v with
    | .p s x => castK s (.iface a) x K
    | .raw .nilIface => K none
    | .ifc t x => decA c st a t x fun y => K (some y)
    | _ => False
  | .unit, _, _ => False
  | .pair _ _, _, _ => False
  | .tup _, _, _ => False
  | .one _ _, _, _ => False
  | .alt _ _ _, _, _ => False
def decC (c : Cfg) (st : St) : (s : Shape) → List EV → (s.Val → List EV → Prop) → Prop
  | .st f, cs, K => decC c st f cs K
  | .unit, cs, K => K () cs
  | .pair a b, cs, K => decC c st a cs fun x r => decC c st b r fun y r' => K (x, y) r'
  | .bool, cs, K => match cs with
    | .p .bool x :: r => K x r
    | _ => False
  | .int k, cs, K => match cs with
    | .p (.int k') x :: r => if k' = k then K x r else False
    | _ => False
  | .slice s, cs, K => match cs with
    | v :: r => cond (isNil v) (K [] r) (slK st v fun s' xs => castK (.slice s') (.slice s) xs fun x => K x r)
    | _ => False
  | .func i o, cs, K => match cs with
    | .p s x :: r => castK s (.func i o) x fun x => K x r
    | .clo (.func f) a b :: r => cloP c.toBase f (a.map (frz st.hp 3)) (b.map (frz st.hp 3)) i o fun x => K x r
    | .raw .nilFunc :: r => K (fun _ => none) r
    | _ => False
  | .iface a, cs, K => match cs with
    | .p s x :: r => castK s (.iface a) x fun x => K x r
    | .raw .nilIface :: r => K none r
    | .ifc t v :: r => decA c st a t v fun y => K (some y) r
    | _ => False
  | .tup _, _, _ => False
  | .one _ _, _, _ => False
  | .alt _ _ _, _, _ => False
def decA (c : Cfg) (st : St) : (s : Shape) → Nat → EV → (s.Val → Prop) → Prop
  | .one t s, t', v, K => cond (Nat.beq t t') (decV c st s v K) False
  | .alt t s r, t', v, K => cond (Nat.beq t t') (decV c st s v fun x => K (.inl x)) (decA c st r t' v fun x => K (.inr x))
  | .bool, _, _, _ => False
  | .int _, _, _, _ => False
  | .slice _, _, _, _ => False
  | .st _, _, _, _ => False
  | .unit, _, _, _ => False
  | .pair _ _, _, _, _ => False
  | .tup _, _, _, _ => False
  | .func _ _, _, _, _ => False
  | .iface _, _, _, _ => False
end

def decS (c : Cfg) (st : St) : (s : Shape) → List EV → (s.Val → Prop) → Prop
  | .pair a b, v :: r, K => decV c st a v fun x => decS c st b r fun y => K (x, y)
  | .unit, [], K => K ()
  | s, [v], K => decV c st s v K
  | _, _, _ => False

/-- Two cells of numbers or bools: are they one? -/
def eqK (a b : EV) (K : Bool → Prop) : Prop :=
  match a, b with
  | .p .bool x, .p .bool y => K (decide (x = y))
  | .p (.int k) x, .p (.int k') y => if k = k' then K (decide ((x : Int) = y)) else False
  | _, _ => False

def eqLK : List EV → List EV → (Bool → Prop) → Prop
  | [], [], K => K true
  | [a], [b], K => eqK a b K
  | a :: r, b :: q, K => eqK a b fun x => eqLK r q fun y => K (x && y)
  | _, _, _ => False

/-- Is a type of the kind of a value: a bool, a number? -/
def kindOK : Option TypeDesc → EV → Bool
  | some .bool, .p .bool _ => true
  | some (.int _), .p (.int _) _ => true
  | _, _ => false

/-- Fields of numbers and bools, one cell each, one behind the other, and cells of these kinds. -/
def Base.fieldEV (c : Base) : List Field → Nat → List EV → Bool
  | [], _, [] => true
  | f :: fs, o, v :: vs => f.name != "_" && Nat.beq f.offset o && kindOK (c.P.underlying f.type) v && c.fieldEV fs (o + 1) vs
  | _, _, _ => false

/-- A struct whose values '==' compares field by field. -/
def Base.plainEq (c : Base) (t : TypeId) (xs : List EV) : Bool :=
  match c.P.underlying t with
  | some (.struct fs) => !c.P.stoodInHeld t && !c.P.eqGuardType c.P.depth t && c.fieldEV fs.toList 0 xs
  | _ => false

def isConst : Operand → Bool
  | .const _ => true
  | _ => false

/-- Two strings: are they one? -/
def strE (a b : ByteArray) : Bool := decide (a.data.toList = b.data.toList)

/-- A string of these bytes. -/
def bytesOf (l : List Nat) : ByteArray := ⟨(l.map UInt8.ofNat).toArray⟩

/-- A string's byte. -/
def byteAt (b : ByteArray) (n : Int) : Int := (((b.data.toList.map UInt8.toNat).getD n.toNat 0 : Nat) : Int)

/-- What an iterator over a string hands out, and where it stands behind that. -/
def strK (b : ByteArray) (pos : Int) (K : Int → Int → Prop) (E : Prop) : Prop :=
  if pos.toNat < b.size then K ((Utf8.decode b pos.toNat).1 : Int) (pos + ((Utf8.decode b pos.toNat).2 : Int)) else E

/-- An operation on two values. -/
def Cfg.binK (c : Cfg) (op : BinOp) (t : TypeId) (x y : EV) (yc : Bool) (K : EV → Prop) : Prop :=
  match x, y with
  | .p (.int k) a, .p (.int k') b => match op with
    | .shl => chk ((0 : Int) ≤ b ∧ (b : Int) < k.bits) (K (.p (.int k) (k.wrap (a * 2 ^ (b : Int).toNat))))
    | .shr => chk ((0 : Int) ≤ b ∧ (b : Int) < k.bits) (K (.p (.int k) ((a : Int).fdiv (2 ^ (b : Int).toNat))))
    | .add => if k = k' then K (.p (.int k) (k.wrap (a + b))) else False
    | .sub => if k = k' then K (.p (.int k) (k.wrap (a - b))) else False
    | .mul => if k = k' then K (.p (.int k) (k.wrap (a * b))) else False
    | .quo => if k = k' then chk ((b : Int) ≠ 0) (K (.p (.int k) (k.wrap ((a : Int).tdiv b)))) else False
    | .rem => if k = k' then chk ((b : Int) ≠ 0) (K (.p (.int k) ((a : Int).tmod b))) else False
    | .and => if k = k' then K (.p (.int k) (k.wrap (BitVec.ofInt k.bits a &&& BitVec.ofInt k.bits b).toNat)) else False
    | .or => if k = k' then K (.p (.int k) (k.wrap (BitVec.ofInt k.bits a ||| BitVec.ofInt k.bits b).toNat)) else False
    | .xor => if k = k' then K (.p (.int k) (k.wrap (BitVec.ofInt k.bits a ^^^ BitVec.ofInt k.bits b).toNat)) else False
    | .andNot => if k = k' then K (.p (.int k) (k.wrap (BitVec.ofInt k.bits a &&& ~~~ BitVec.ofInt k.bits b).toNat)) else False
    | .eql => if k = k' then K (.p .bool (decide ((a : Int) = b))) else False
    | .neq => if k = k' then K (.p .bool (!decide ((a : Int) = b))) else False
    | .lss => if k = k' then K (.p .bool (decide ((a : Int) < b))) else False
    | .leq => if k = k' then K (.p .bool (decide ((a : Int) ≤ b))) else False
    | .gtr => if k = k' then K (.p .bool (decide ((b : Int) < a))) else False
    | .geq => if k = k' then K (.p .bool (decide ((b : Int) ≤ a))) else False
  | .p .bool a, .p .bool b => match op, c.P.underlying t with
    | .eql, some .bool => K (.p .bool (decide ((a : Bool) = b)))
    | .neq, some .bool => K (.p .bool (!decide ((a : Bool) = b)))
    | _, _ => False
  | .agg xs, .agg ys => cond (c.plainEq t xs) (match op with
    | .eql => eqLK xs ys fun b => K (.p .bool b)
    | .neq => eqLK xs ys fun b => K (.p .bool (!b))
    | _ => False) False
  | .p (.iface _) a, .raw .nilIface => cond yc (match op, c.P.underlying t with
    | .eql, some (.interface _) => K (.p .bool a.isNone)
    | .neq, some (.interface _) => K (.p .bool (!a.isNone))
    | _, _ => False) False
  | .raw (.string a), .raw (.string b) => match op, c.P.underlying t with
    | .eql, some .string => K (.p .bool (strE a b))
    | .neq, some .string => K (.p .bool (!strE a b))
    | _, _ => False
  | .p (.slice _) xs, .raw (.slice none 0 0) => match op, c.P.underlying t with
    | .eql, some (.slice _) => ∀ b : Bool, (b = true → xs = []) → K (.p .bool b)
    | _, _ => False
  | _, _ => False

/-- Cells that are a shape's zero, at a list's head. -/
def Shape.zeroAt : Shape → List Value → Option (List Value)
  | .bool, .bool false :: r => some r
  | .int k, .int k' n :: r => if k' = k ∧ n = 0 then some r else none
  | .slice _, .slice none 0 0 :: r => some r
  | .st f, l => f.zeroAt l
  | .unit, l => some l
  | .pair a b, l => (a.zeroAt l).bind b.zeroAt
  | .func _ _, .nilFunc :: r => some r
  | .iface _, .nilIface :: r => some r
  | _, _ => none

def isNilL : Option (List Value) → Bool
  | some [] => true
  | _ => false

/-- The type's zero is the shape's. -/
def Cfg.zeroOK (c : Cfg) (t : TypeId) (s : Shape) : Bool :=
  match (c.P.info? t).bind (·.zero) with
  | some (.agg cs) => (match s with
    | .st _ => true
    | _ => false) && isNilL (s.zeroAt cs.toList)
  | some (.tuple _) => false
  | some z => (match s with
    | .st _ => false
    | _ => true) && isNilL (s.zeroAt [z])
  | none => false

/-- All parts of a type are known. -/
def Cfg.partsOK (c : Cfg) (t : TypeId) : Bool :=
  match c.P.underlying t with
  | some (.struct fs) => fs.toList.all fun f => (c.P.info? f.type).isSome
  | some (.array _ e) => (c.P.info? e).isSome
  | _ => false

/-- The greatest, the least. -/
def mxE (f : Int → Int → Int) : EV → List EV → (EV → Prop) → Prop
  | v, [], K => K v
  | .p (.int k) a, .p (.int k') b :: r, K => if k' = k then mxE f (.p (.int k) (f a b)) r K else False
  | _, _, _ => False

def maxI (a b : Int) : Int := if b > a then b else a
def minI (a b : Int) : Int := if b < a then b else a

def pickK (x : Bool) (a b : EV) (K : EV → Prop) : Prop :=
  match a, b with
  | .p .bool y, .p .bool z => K (.p .bool (cond x y z))
  | _, _ => cond x (K a) (K b)

/-- A value whose cells are known: an aggregate's, or itself. -/
def oneV (st : St) : EV → Bool
  | .agg _ | .nil _ | .ip _ _ | .box _ _ | .clo _ _ _ | .ifc _ _ => true
  | .p .bool _ | .p (.int _) _ | .p (.slice _) _ | .p (.func _ _) _ | .p (.iface _) _ => true
  | .raw .nilFunc | .raw .nilIface | .raw (.string _) | .raw (.slice none 0 0) => true
  | .row id ver => match st.hp[id]? with
    | some (.row _ v _ _ _) => Nat.beq v ver
    | _ => false
  | _ => false

/-- May a value lie in one cell? -/
def cellV (st : St) (v : EV) : Bool := oneV st v && (match v with
  | .agg _ => false
  | _ => true)

/-- A type's places, by number. -/
def Cfg.place (c : Cfg) (t : TypeId) (i : Nat) : Option (Nat × Nat) :=
  match c.P.underlying t with
  | some (.struct fs) => (fs[i]?).map fun f => (f.offset, c.sizeOf f.type)
  | some (.array _ e) => some (i * c.sizeOf e, c.sizeOf e)
  | _ => none

def Cfg.fillK (c : Cfg) (st : St) (t : TypeId) (cs : List EV) : List (Nat × EV) → (List EV → Prop) → Prop
  | [], K => K cs
  | (i, v) :: r, K => match c.place t i with
    | some (off, n) => cond (oneV st v && Nat.beq v.cells.length n && Nat.ble (off + n) cs.length) (c.fillK st t (laid cs off v.cells) r K) False
    | none => False

/-- A value behind an interface: is it of this type? -/
def altK : (a : Shape) → a.Val → Nat → (EV → Prop) → Prop → Prop
  | .one t s, x, t', A, B => cond (Nat.beq t t') (A (s.enc0 x)) B
  | .alt t s r, x, t', A, B => sumK x (fun y => cond (Nat.beq t t') (A (s.enc0 y)) B) (fun y => altK r y t' A B)
  | _, _, _, _, _ => False

/-- A quiet operation: what it yields. -/
def Cfg.quiet (c : Cfg) (o : Op) (st : St) (K : EV → Prop) : Prop :=
  match o with
  | .move x | .assign x => K (c.ev st x)
  | .pick b x y => match c.ev st b with
    | .p .bool z => pickK z (c.ev st x) (c.ev st y) K
    | _ => False
  | .load t a => Cfg.ptK st (c.ev st a) fun cs off => c.ldK t cs off K
  | .fieldAddr s x f => match c.P.underlying s with
    | some (.struct fs) => match fs[f]? with
      | some fd => cond (isPt st (c.ev st x) && Nat.ble 1 (c.sizeOf fd.type)) (K ((c.ev st x).fwd fd.offset)) False
      | none => False
    | _ => False
  | .field t x f => match c.ev st x, c.P.underlying t with
    | .agg cs, some (.struct fs) => match fs[f]? with
      | some fd => c.ldK fd.type cs fd.offset K
      | none => False
    | _, _ => False
  | .indexAddr t x i => match c.ev st i, c.P.underlying t with
    | .p (.int _) n, some (.slice e) => match c.ev st x with
      | .p (.slice s) xs => cond (Nat.beq (c.sizeOf e) s.size && Nat.ble 1 s.size) (chk ((0 : Int) ≤ n ∧ (n : Int) < (xs.length : Int)) (K (.ip (s.cellsE (rd s xs (n : Int).toNat)) 0))) False
      | .row id ver => match st.hp[id]? with
        | some (.row _ v _ s xs) => cond (Nat.beq (c.sizeOf e) s.size && Nat.ble 1 s.size && Nat.beq v ver) (chk ((0 : Int) ≤ n ∧ (n : Int) < (xs.length : Int)) (K (.rp id ver (n : Int).toNat 0))) False
        | _ => False
      | _ => False
    | .p (.int _) n, some (.array len e) => match c.ev st x with
      | .ip cs off => match intsOf .i64 cs with
        | some l => cond (Nat.beq (c.sizeOf e) 1 && Nat.ble (off + len) cs.length) (chk ((0 : Int) ≤ n ∧ (n : Int) < (len : Int)) (K (.ip [.p (.int .i64) (l.getD (off + (n : Int).toNat) 0)] 0)))
            (cond (Nat.ble 1 (c.sizeOf e) && Nat.ble (off + len * c.sizeOf e) cs.length) (chk ((0 : Int) ≤ n ∧ (n : Int) < (len : Int)) (K (.ip ((List.range (c.sizeOf e)).map fun j => .p (.int .i64) (l.getD (off + (n : Int).toNat * c.sizeOf e + j) 0)) 0))) False)
        | none => False
      | .box id off => cond (Nat.ble 1 (c.sizeOf e)) (chk ((0 : Int) ≤ n ∧ (n : Int) < (len : Int)) (K (.box id (off + (n : Int).toNat * c.sizeOf e)))) False
      | _ => False
    | _, _ => False
  | .index t x i => match c.ev st i, c.P.underlying t, c.ev st x with
    | .p (.int _) n, some (.array len e), .agg cs => match intsOf .i64 cs, c.P.underlying e with
      | some l, some (.int _) => cond (Nat.beq (c.sizeOf e) 1 && Nat.beq len cs.length) (chk ((0 : Int) ≤ n ∧ (n : Int) < (len : Int)) (K (.p (.int .i64) (l.getD (n : Int).toNat 0)))) False
      | _, _ => False
    | .p (.int _) n, some .string, .raw (.string b) => chk ((0 : Int) ≤ n ∧ (n : Int) < ((b.size : Nat) : Int)) (K (.p (.int .u8) (((b.data.toList.map UInt8.toNat).getD (n : Int).toNat 0 : Nat) : Int)))
    | _, _, _ => False
  | .extract t i => match c.ev st t with
    | .tup vs => atK vs i K
    | _ => False
  | .binOp op t x y _ => c.binK op t (c.ev st x) (c.ev st y) (isConst y) K
  | .unOp op _ x => match op, c.ev st x with
    | .not, .p .bool a => K (.p .bool (!a))
    | .neg, .p (.int k) n => K (.p (.int k) (k.wrap (0 - n)))
    | .xor, .p (.int k) n => K (.p (.int k) (k.wrap (BitVec.ofInt k.bits (if k.signed then -1 else k.max) ^^^ BitVec.ofInt k.bits n).toNat))
    | _, _ => False
  | .convert q d x => match c.P.underlying d, c.ev st x with
    | some (.int k), .p (.int _) n => cond (c.P.underlying q).isSome (K (.p (.int k) (k.wrap n))) False
    | _, _ => False
  | .build t parts => match c.shp deep t, c.P.underlying t with
    | some (.st f), some _ => cond (c.zeroOK t (.st f) && c.partsOK t) (c.fillK st t f.zeroC (parts.toList.map fun q => (q.1, c.ev st q.2)) fun cs => K (.agg cs)) False
    | none, some _ => match (c.P.info? t).bind (·.zero) with
      | some (.agg zs) => cond (c.partsOK t) (c.fillK st t (zs.toList.map cst) (parts.toList.map fun q => (q.1, c.ev st q.2)) fun cs => K (.agg cs)) False
      | _ => False
    | _, _ => False
  | .makeFunc fn a b => K (.clo fn (a.toList.map (c.ev st)) (b.toList.map (c.ev st)))
  | .makeInterface t x => match c.P.underlying t with
    | some (.interface _) => False
    | some _ => K (.ifc t (c.ev st x))
    | none => False
  | .nilCheck x => match c.ev st x with
    | .box i o => K (.box i o)
    | .ip cs o => K (.ip cs o)
    | .clo (.func f) a b => K (.clo (.func f) a b)
    | .p (.iface a) y => optK y False fun _ => K (.p (.iface a) y)
    | .ifc t v => K (.ifc t v)
    | _ => False
  | .typeAssert x _ t ok => match c.P.underlying t, c.shp deep t with
    | some (.interface _), _ => False
    | some _, some s => cond (c.zeroOK t s) (match c.ev st x, ok with
      | .p (.iface a) y, true => optK y (K (.tup [s.zeroE, .p .bool false])) fun z => altK a z t (fun v => K (.tup [v, .p .bool true])) (K (.tup [s.zeroE, .p .bool false]))
      | .ifc t' v, true => cond (Nat.beq t' t) (K (.tup [v, .p .bool true])) (K (.tup [s.zeroE, .p .bool false]))
      | .ifc t' v, false => cond (Nat.beq t' t) (K v) False
      | .raw .nilIface, true => K (.tup [s.zeroE, .p .bool false])
      | _, _ => False) False
    | _, _ => False
  | .call { callee := .builtin b, args, argTypes } => match b, args.toList.map (c.ev st), argTypes[0]?.bind c.P.underlying with
    | .len, [.raw (.slice none 0 0)], some (.slice _) => K (.p (.int .i64) (0 : Int))
    | .len, [x], some (.slice _) => slK st x fun _ xs => K (.p (.int .i64) (xs.length : Int))
    | .len, [.raw (.string b)], some .string => K (.p (.int .i64) ((b.size : Nat) : Int))
    | .cap, [x], some (.slice _) => cond (isNil x) (K (.p (.int .i64) (0 : Int))) False
    | .max, x :: r, _ => mxE maxI x r K
    | .min, x :: r, _ => mxE minI x r K
    | _, _, _ => False
  | _ => False

/-- Is an operation quiet: does it leave the heap alone, and ask nothing of a callee? -/
def isQuiet : Op → Bool
  | .alloc _ | .box _ _ | .buildSlice _ _ _ | .store _ _ _ | .panic _ => false
  | .call { callee := .builtin .append, .. } => false
  | .call { callee := .builtin _, .. } => true
  | .call _ => false
  | .move _ | .assign _ | .pick _ _ _ | .load _ _ | .fieldAddr _ _ _ | .field _ _ _ | .indexAddr _ _ _ | .index _ _ _ | .extract _ _ | .binOp _ _ _ _ _ | .unOp _ _ _ | .convert _ _ _
  | .build _ _ | .makeFunc _ _ _ | .makeInterface _ _ | .nilCheck _ | .typeAssert _ _ _ _ => true
  | _ => false

/-- All of a list's values as values of one shape. -/
def decE (c : Cfg) (st : St) (s : Shape) : List EV → (List s.Val → Prop) → Prop
  | [], K => K []
  | v :: r, K => decV c st s v fun x => decE c st s r fun xs => K (x :: xs)

/-- The parts of a slice's literal, each given, in order. -/
def inOrder : Nat → List (Nat × EV) → Bool
  | _, [] => true
  | n, (i, _) :: r => Nat.beq i n && inOrder (n + 1) r

/-- The words of a set of values, and of the blocks that they name. -/
def closeIds (hp : List Ent) (l : List Nat) : List Nat := l ++ l.flatMap fun i => match hp[i]? with
  | some e => e.ids
  | none => []

/-- Nothing that these blocks name is outside of them, and each may be frozen. -/
def shutIds (hp : List Ent) (l : List Nat) : Bool := l.all fun i => match hp[i]? with
  | some e => !e.md.isLock && e.ids.all (l.contains ·)
  | none => false

/-- What a call's results mean for the blocks that its arguments name: if they are numbers and bools alone, nothing; else these are written no more. -/
def afterK (out : Shape) (args : List EV) (hp : List Ent) (K : List Ent → Prop) : Prop :=
  cond out.flat (K hp) (cond (shutIds hp (closeIds hp (EV.idsL args))) (K (frzH (closeIds hp (EV.idsL args)) 0 hp)) False)

def outS (l : List Shape) : Shape := match l with
  | [s] => s
  | l => .tup (seqS l)

/-- A method of a type's values. -/
def Cfg.method (c : Cfg) (t : TypeId) (name : String) : Option FuncId :=
  match c.P.info? t with
  | some i => match i.methods.toList.find? (·.name == name), c.P.underlying t with
    | some _, some (.pointer _) => none
    | some m, some _ => match m.func, m.path.toList with
      | some (f, false), [] => some f
      | _, _ => none
    | _, none => none
    | none, _ => none
  | none => none

/-- A call of a function of the program. -/
def Cfg.callK (c : Cfg) (st : St) (f : FuncId) (args : List EV) (K : EV → List Ent → Prop) : Prop :=
  match c.P.funcs[f]? with
  | some fn => match allS (fn.params.toList.map (c.shp deep)), allS (fn.resultTypes.toList.map (c.shp deep)) with
    | some ins, some outs => cond (Nat.beq fn.nfree 0) (decS c st (seqS ins) args fun x =>
        afterK (outS outs) args st.hp fun hp => callP c.toBase f (seqS ins) (outS outs) x fun r => K ((outS outs).enc r) hp) False
    | _, _ => False
  | none => False

/-- A call through an interface value. -/
def Cfg.invK (c : Cfg) (st : St) (name : String) (args : List EV) (K : EV → List Ent → Prop) : (a : Shape) → a.Val → Prop
  | .one t s, x => match c.method t name with
    | some f => c.callK st f (s.enc0 x :: args) K
    | none => False
  | .alt t s r, x => sumK x (fun y => match c.method t name with
    | some f => c.callK st f (s.enc0 y :: args) K
    | none => False) (fun y => c.invK st name args K r y)
  | _, _ => False

def noIds : List Nat → Bool
  | [] => true
  | _ => false

/-- How a call of an operand is told, where it is not told by a contract over values. -/
def Cfg.hanO (c : Cfg) : Operand → Option (List EV → List Ent → (EV → List Ent → Prop) → Prop)
  | .func f => c.han f
  | _ => none

/-- Is a type one of slices, with elements of another one? -/
def Base.isSliceOf (c : Base) (t e : TypeId) : Bool :=
  match c.P.underlying t with
  | some (.slice e') => Nat.beq e' e
  | _ => false

/-- A bound of a slice, or what stands for it. -/
def Cfg.bndK (c : Cfg) (st : St) (o : Option Operand) (d : Int) (K : Int → Prop) : Prop :=
  match o with
  | none => K d
  | some x => match c.ev st x with
    | .p (.int _) n => K n
    | _ => False

/-- An operation that makes or writes memory, or calls. -/
def Cfg.loud (c : Cfg) (o : Oper) (st : St) (K : EV → List Ent → Prop) : Prop :=
  match o.op with
  | .alloc t => match c.shp deep t with
    | some s => cond (c.zeroOK t s) (K (.box st.hp.length 0) (st.hp ++ [.box .own s.zeroC])) False
    | none => match (c.P.info? t).bind (·.zero) with
      | some (.agg zs) => K (.box st.hp.length 0) (st.hp ++ [.box .own (zs.toList.map cst)])
      | _ => False
  | .box t x => cond (oneV st (c.ev st x) && Nat.beq (c.ev st x).cells.length (c.sizeOf t)) (K (.box st.hp.length 0) (st.hp ++ [.box .own (c.ev st x).cells])) False
  | .buildSlice t n parts => match c.P.underlying t with
    | some (.slice e) => match c.shp deep e with
      | some s => cond (c.zeroOK e s && Nat.beq (c.sizeOf e) s.size && Nat.ble 1 s.size) (match n with
        | 0 => cond (Nat.beq parts.size 0) (K (.row st.hp.length 0) (st.hp ++ [.row .own 0 e s []])) False
        | n + 1 => cond (inOrder 0 (parts.toList.map fun q => (q.1, c.ev st q.2)) && Nat.beq parts.size (n + 1) && Nat.ble ((n + 1) * s.size) 10000) (decE c st s (parts.toList.map fun q => c.ev st q.2) fun xs =>
            afterK (.slice s) (parts.toList.map fun q => c.ev st q.2) st.hp fun hp => K (.p (.slice s) xs) hp) False) False
      | none => False
    | _ => False
  | .store t a x => match c.ev st a with
    | .box id off => match st.hp[id]? with
      | some (.box .own cs) => cond (oneV st (c.ev st x) && (c.ev st x).cells.all (cellV st) && Nat.ble 1 (c.sizeOf t) && Nat.beq (c.ev st x).cells.length (c.sizeOf t) && Nat.ble (off + (c.ev st x).cells.length) cs.length) (K .bot (st.hp.set id (.box .own (laid cs off (c.ev st x).cells)))) False
      | _ => False
    | .rp id ver k off => match st.hp[id]? with
      | some (.row .own v e s xs) => cond (Nat.beq v ver && oneV st (c.ev st x) && (c.ev st x).cells.all (cellV st) && Nat.ble 1 (c.sizeOf t) && Nat.beq (c.ev st x).cells.length (c.sizeOf t) && Nat.ble (off + (c.ev st x).cells.length) s.size && noIds (EV.idsL (laid (s.cellsE (rd s xs k)) off (c.ev st x).cells)))
          (decC c st s (laid (s.cellsE (rd s xs k)) off (c.ev st x).cells) fun y r => match r with
            | [] => K .bot (st.hp.set id (.row .own v e s (xs.set k y)))
            | _ => False) False
      | _ => False
    | _ => False
  | .range t x => match c.P.underlying t, c.ev st x with
    | some .string, .raw (.string b) => K (.box st.hp.length 0) (st.hp ++ [.iter .own b 0])
    | _, _ => False
  | .next x true => match c.ev st x with
    | .box id 0 => match st.hp[id]? with
      | some (.iter .own b pos) => strK b pos (fun r q => K (.tup [.p .bool true, .p (.int .i64) pos, .p (.int .i32) r]) (st.hp.set id (.iter .own b q))) (K (.tup [.p .bool false]) st.hp)
      | _ => False
    | _ => False
  | .slice t x lo hi none => match c.ev st x with
    | .row id ver => match lo, hi with
      | none, some hi => match c.ev st hi with
        | .p (.int _) n => match st.hp[id]? with
          | some (.row .own v e s xs) => cond (Nat.beq v ver && c.isSliceOf t e && Nat.beq (c.sizeOf e) s.size && Nat.ble 1 s.size)
              (chk ((0 : Int) ≤ n ∧ (n : Int) ≤ (xs.length : Int)) (K (.row id (ver + 1)) (st.hp.set id (.row .own (ver + 1) e s (xs.take (n : Int).toNat))))) False
          | _ => False
        | _ => False
      | _, _ => False
    | .p (.slice s) xs => match c.P.underlying t with
      | some (.slice e) => cond (Nat.beq (c.sizeOf e) s.size && Nat.ble 1 s.size) (c.bndK st lo 0 fun a => c.bndK st hi (xs.length : Int) fun b =>
          chk ((0 : Int) ≤ a ∧ a ≤ b ∧ b ≤ (xs.length : Int)) (K (.p (.slice s) ((xs.take b.toNat).drop a.toNat)) st.hp)) False
      | _ => False
    | _ => False
  | .call { callee := .builtin .append, args, argTypes } => match args.toList.map (c.ev st), argTypes.toList with
    | [d, x], [t, t'] => cond (Nat.beq t t') (match c.P.underlying t with
      | some (.slice e) => match d with
        | .row id ver => match st.hp[id]? with
          | some (.row .own v e' s xs) => cond (Nat.beq v ver && Nat.beq e' e && c.zeroOK e s && Nat.beq (c.sizeOf e) s.size && Nat.ble 1 s.size && Nat.ble 1 (c.P.bytesOf e)) (slK st x fun s' ys => castK (.slice s') (.slice s) ys fun ys =>
              chk ((xs.length + ys.length) * c.P.bytesOf e ≤ 140737488355328) (K (.row id (ver + 1)) (st.hp.set id (.row .own (ver + 1) e s (xs ++ ys))))) False
          | _ => False
        | _ => cond (isNil d) (match c.shp deep e with
          | some s => cond (c.zeroOK e s && Nat.beq (c.sizeOf e) s.size && Nat.ble 1 s.size && Nat.ble 1 (c.P.bytesOf e)) (slK st x fun s' ys => castK (.slice s') (.slice s) ys fun ys =>
              chk (ys.length * c.P.bytesOf e ≤ 140737488355328) (K (.row st.hp.length 0) (st.hp ++ [.row .own 0 e s ys]))) False
          | none => False) False
      | _ => False) False
    | _, _ => False
  | .call { callee := .value f, args, .. } => match c.hanO f with
    | some h => h (args.toList.map (c.ev st)) st.hp K
    | none => match c.ev st f with
      | .clo (.func f) [] [] => c.callK st f (args.toList.map (c.ev st)) K
      | .p (.func i out) g => decS c st i (args.toList.map (c.ev st)) fun x => afterK out (args.toList.map (c.ev st)) st.hp fun hp => gcall g x fun r => K (out.enc r) hp
      | _ => False
  | .call { callee := .invoke r name, args, .. } => match c.hni name with
    | some h => h (c.ev st r) (args.toList.map (c.ev st)) st.hp K
    | none => match c.ev st r with
      | .p (.iface a) y => optK y False fun z => c.invK st name (args.toList.map (c.ev st)) K a z
      | .ifc t v => match c.method t name with
        | some f => c.callK st f (v :: args.toList.map (c.ev st)) K
        | none => False
      | _ => False
  | _ => False

/-! ### Regions -/

/-- Does an operation read memory? -/
def isLoad : Op → Bool
  | .load _ _ => true
  | _ => false

/-- Does an operation write memory that was there? -/
def Cfg.isWriter (c : Cfg) : Op → Bool
  | .store _ _ _ => true
  | .next _ _ => true
  | .call { callee := .builtin .append, .. } => true
  | .call { callee := .value f, .. } => (c.hanO f).isSome
  | .call { callee := .invoke _ name, .. } => (c.hni name).isSome
  | _ => false

/-- What an operation waits for. -/
def waits (ops : Array Oper) (k : Nat) : List Nat :=
  match ops[k]? with
  | some o => (o.after.toList.filter (Region.binds .any)).map (·.on)
  | none => []

/-- What the members of a list wait for, and so on: places below k are looked at. -/
def down (ops : Array Oper) : Nat → List Nat → List Nat
  | 0, l => l
  | k + 1, l => cond (l.contains k) (down ops k (waits ops k ++ l)) (down ops k l)

def opAt (ops : Array Oper) (i : Nat) (p : Op → Bool) : Bool :=
  match ops[i]? with
  | some o => p o.op
  | none => false

/-- Every writer of a region waits for every load. -/
def Cfg.writersOK (c : Cfg) (ops : Array Oper) : Bool :=
  (List.range ops.size).all fun j => !opAt ops j c.isWriter || (List.range ops.size).all fun i => !opAt ops i isLoad || (down ops ops.size [j]).contains i

def Cfg.drawOK (c : Cfg) (ops : Array Oper) : Bool := c.P.follows .mixedOrders && Region.noSelect ops && c.writersOK ops

/-- A nil that is kept as a row of the call's own. -/
def Cfg.rowOf (c : Cfg) (o : Oper) : Option (TypeId × Shape) :=
  match o.dst, o.op with
  | some d, .assign (.const (.slice none 0 0)) => cond (c.rows.contains d) (match c.P.underlying o.type with
    | some (.slice e) => (c.shp deep e).map fun s => (e, s)
    | _ => none) none
  | _, _ => none

/-- A variable of its own block that holds a nil that is kept as a row. -/
def Cfg.boxOf (c : Cfg) (o : Oper) : Option (TypeId × Shape) :=
  match o.dst, o.op with
  | some d, .alloc t => cond (c.rows.contains d) (match c.P.underlying t with
    | some (.slice e) => match c.shp deep e with
      | some s => cond (c.zeroOK t (.slice s)) (some (e, s)) none
      | none => none
    | _ => none) none
  | _, _ => none

/-- A variable of its own block, a struct, whose first cell holds a nil that is kept as a row. -/
def Cfg.srowOf (c : Cfg) (o : Oper) : Option (TypeId × Shape × List EV) :=
  match o.dst, o.op with
  | some d, .alloc t => match c.srows d with
    | some e => match c.shp deep t with
      | some s => cond (c.zeroOK t s) (match s.zeroC with
        | .nil s0 :: r => some (e, s0, r)
        | _ => none) none
      | none => none
    | none => none
  | _, _ => none

/-- A nil, with its shape. -/
def Cfg.nilOf (c : Cfg) (o : Oper) : Option Shape :=
  match o.op with
  | .assign (.const (.slice none 0 0)) | .move (.const (.slice none 0 0)) => match c.P.underlying o.type with
    | some (.slice e) => c.shp deep e
    | _ => none
  | _ => none

/-- An operation behind which a row is written no more. -/
def Cfg.frzAt (c : Cfg) (o : Oper) : Bool :=
  match o.dst with
  | some d => c.frzs.contains d
  | none => false

def Cfg.frzOf (c : Cfg) (o : Oper) (st : St) : Option (Nat × Nat) :=
  match o.op with
  | .assign x => cond (c.frzAt o) (match c.ev st x with
    | .row id ver => some (id, ver)
    | _ => none) none
  | _ => none

def Cfg.runK0 (c : Cfg) (o : Oper) (st : St) (K : St → Prop) : Prop :=
  match c.rowOf o with
  | some (e, s) => K (St.put { st with hp := st.hp ++ [.row .own 0 e s []] } o.dst (.row st.hp.length 0))
  | none => match c.boxOf o with
    | some (e, s) => K (St.put { st with hp := st.hp ++ [.row .own 0 e s []] ++ [.box .own [.row st.hp.length 0]] } o.dst (.box (st.hp.length + 1) 0))
    | none => match c.srowOf o with
    | some (e, s, r) => K (St.put { st with hp := st.hp ++ [.row .own 0 e s []] ++ [.box .own (.row st.hp.length 0 :: r)] } o.dst (.box (st.hp.length + 1) 0))
    | none => match c.nilOf o with
    | some s => K (st.put o.dst (.nil s))
    | none => cond (isQuiet o.op) (c.quiet o.op st fun v => K (st.put o.dst v)) (c.loud o st fun v hp => K (St.put { st with hp := hp } o.dst v))

/-- An operation, its guard paid. -/
def Cfg.runK (c : Cfg) (o : Oper) (st : St) (K : St → Prop) : Prop :=
  match c.frzOf o st with
  | some (id, ver) => match st.hp[id]? with
    | some (.row .own v e s xs) => cond (Nat.beq v ver && shutIds st.hp [id]) (K (St.put { st with hp := frzH [id] 0 st.hp } o.dst (.p (.slice s) xs))) False
    | _ => False
  | none => c.runK0 o st K

/-- May a temporary be written? -/
def okDst (W : List Nat) (d : Option Nat) : Bool :=
  match d with
  | some d => W.contains d
  | none => true

def Cfg.opK (c : Cfg) (W : List Nat) (ops : Array Oper) (o : Oper) (st : St) (K : St → Prop) : Prop :=
  cond (okDst W o.dst) (match o.guard with
    | none => c.runK o st K
    | some (j, want) => match (ops[j]?).bind (·.dst) with
      | some d => cond (okDst W (some d)) (match st.env d with
        | .p .bool x => cond x
            (cond want (c.runK o (st.put (some d) (.p .bool true)) K) (K ((st.put (some d) (.p .bool true)).put o.dst (.raw undef))))
            (cond want (K ((st.put (some d) (.p .bool false)).put o.dst (.raw undef))) (c.runK o (st.put (some d) (.p .bool false)) K))
        | .raw (.tuple _) => K (st.put o.dst (.raw undef))
        | _ => False) False
      | none => False) False

def Cfg.seqK (c : Cfg) (W : List Nat) (ops : Array Oper) : List Oper → St → (St → Prop) → Prop
  | [], st, K => K st
  | o :: r, st, K => c.opK W ops o st fun st => c.seqK W ops r st K

def Cfg.quietAt (c : Cfg) (ops : Array Oper) (i : Nat) : Bool :=
  match ops[i]? with
  | some o => isQuiet o.op && (c.rowOf o).isNone && !c.frzAt o
  | none => false

def allK (F : Nat → Prop) : List Nat → Prop
  | [] => True
  | [i] => F i
  | i :: r => F i ∧ allK F r

/-- A region that draws its order: what is quiet is taken first. -/
def Cfg.drawK (c : Cfg) (W : List Nat) (ops : Array Oper) : Nat → Array Bool → St → (St → Prop) → Prop
  | 0, listed, st, K => match Region.ready .any ops listed with
    | [] => K st
    | _ => False
  | n + 1, listed, st, K => match (Region.ready .any ops listed).find? fun i => c.quietAt ops i && Region.free .any ops listed i with
    | some i => match ops[i]? with
      | some o => c.opK W ops o st fun st => c.drawK W ops n (listed.setIfInBounds i true) st K
      | none => False
    | none => match Region.ready .any ops listed with
      | [] => False
      | rs => allK (fun i => match ops[i]? with
        | some o => c.opK W ops o st fun st => c.drawK W ops n (listed.setIfInBounds i true) st K
        | none => False) rs

/-- Quiet, and reads no memory. -/
def Cfg.stillAt (c : Cfg) (ops : Array Oper) (i : Nat) : Bool :=
  match ops[i]? with
  | some o => isQuiet o.op && (c.rowOf o).isNone && !c.frzAt o && !isLoad o.op
  | none => false

/-- A region that draws its order, where some writer waits for some load no more than the load for it: each load is drawn. -/
def Cfg.drawN (c : Cfg) (W : List Nat) (ops : Array Oper) : Nat → Array Bool → St → (St → Prop) → Prop
  | 0, listed, st, K => match Region.ready .any ops listed with
    | [] => K st
    | _ => False
  | n + 1, listed, st, K => match (Region.ready .any ops listed).find? fun i => c.stillAt ops i && Region.free .any ops listed i with
    | some i => match ops[i]? with
      | some o => c.opK W ops o st fun st => c.drawN W ops n (listed.setIfInBounds i true) st K
      | none => False
    | none => match Region.ready .any ops listed with
      | [] => False
      | rs => allK (fun i => match ops[i]? with
        | some o => c.opK W ops o st fun st => c.drawN W ops n (listed.setIfInBounds i true) st K
        | none => False) rs

def Cfg.drawOKn (c : Cfg) (ops : Array Oper) : Bool := c.P.follows .mixedOrders && Region.noSelect ops

/-! ### Loops -/

/-- A part of the state that a loop's rounds may change. -/
inductive Slot where
  | e (v : EV)
  | n (x : Ent)

def EV.sh : EV → Shape
  | .p s _ => s
  | _ => .unit

/-- A state part's cells that bear values. -/
def shC : List EV → Shape
  | [] => .unit
  | [v] => v.sh
  | v :: r => .pair v.sh (shC r)

def Slot.sh : Slot → Shape
  | .e (.agg cs) => shC cs
  | .e v => v.sh
  | .n (.box _ cs) => shC cs
  | .n (.row _ _ _ s _) => .slice s
  | .n (.iter _ _ _) => .int .i64

def shL : List Slot → Shape
  | [] => .unit
  | [v] => v.sh
  | v :: r => .pair v.sh (shL r)

def EV.lf : (v : EV) → v.sh.Val
  | .p _ x => x
  | .bot => () | .raw _ => () | .nil _ => () | .ip _ _ => () | .box _ _ => () | .rp _ _ _ _ => () | .row _ _ => () | .agg _ => () | .tup _ => () | .clo _ _ _ => () | .ifc _ _ => ()

def lfC : (l : List EV) → (shC l).Val
  | [] => ()
  | [v] => v.lf
  | v :: w :: r => (v.lf, lfC (w :: r))

def Slot.lf : (s : Slot) → s.sh.Val
  | .e (.agg cs) => lfC cs
  | .e (.p s x) => EV.lf (.p s x)
  | .e .bot => () | .e (.raw _) => () | .e (.nil _) => () | .e (.ip _ _) => () | .e (.box _ _) => () | .e (.rp _ _ _ _) => () | .e (.row _ _) => () | .e (.tup _) => () | .e (.clo _ _ _) => () | .e (.ifc _ _) => ()
  | .n (.box _ cs) => lfC cs
  | .n (.row _ _ _ _ xs) => xs
  | .n (.iter _ _ pos) => pos

def lfL : (l : List Slot) → (shL l).Val
  | [] => ()
  | [v] => v.lf
  | v :: w :: r => (v.lf, lfL (w :: r))

def EV.mk' : (v : EV) → v.sh.Val → EV
  | .p s _, x => .p s x
  | .box i o, _ => .box i o
  | .row i v, _ => .row i v
  | .bot, _ => .bot | .raw _, _ => .bot | .nil _, _ => .bot | .ip _ _, _ => .bot | .rp _ _ _ _, _ => .bot | .agg _, _ => .bot | .tup _, _ => .bot | .clo _ _ _, _ => .bot | .ifc _ _, _ => .bot

def mkC : (l : List EV) → (shC l).Val → List EV
  | [], _ => []
  | [v], x => [v.mk' x]
  | v :: w :: r, x => v.mk' x.1 :: mkC (w :: r) x.2

def Slot.mk' : (s : Slot) → s.sh.Val → Slot
  | .e (.agg cs), x => .e (.agg (mkC cs x))
  | .e (.p s y), x => .e (EV.mk' (.p s y) x)
  | .e (.box i o), _ => .e (.box i o)
  | .e (.row i v), _ => .e (.row i v)
  | .e .bot, _ => .e .bot | .e (.raw _), _ => .e .bot | .e (.nil _), _ => .e .bot | .e (.ip _ _), _ => .e .bot | .e (.rp _ _ _ _), _ => .e .bot | .e (.tup _), _ => .e .bot | .e (.clo _ _ _), _ => .e .bot | .e (.ifc _ _), _ => .e .bot
  | .n (.box o cs), x => .n (.box o (mkC cs x))
  | .n (.row o v el s _), xs => .n (.row o v el s xs)
  | .n (.iter o b _), x => .n (.iter o b x)

def mkL : (l : List Slot) → (shL l).Val → List Slot
  | [], _ => []
  | [v], x => [v.mk' x]
  | v :: w :: r, x => v.mk' x.1 :: mkL (w :: r) x.2

/-- A value found behind a round, held against the part as it stood ahead of the loop. -/
def EV.mat : (v : EV) → EV → (v.sh.Val → Prop) → Prop
  | .p s _, u, K => match u with
    | .p s' y => castK s' s y K
    | _ => False
  | .box i o, u, K => match u with
    | .box i' o' => cond (Nat.beq i i' && Nat.beq o o') (K ()) False
    | _ => False
  | .row i v, u, K => match u with
    | .row i' v' => cond (Nat.beq i i' && Nat.beq v v') (K ()) False
    | _ => False
  | .bot, _, K => K () | .raw _, _, K => K () | .nil _, _, K => K () | .ip _ _, _, K => K () | .rp _ _ _ _, _, K => K () | .agg _, _, K => K () | .tup _, _, K => K () | .clo _ _ _, _, K => K () | .ifc _ _, _, K => K ()

def matC : (l : List EV) → List EV → ((shC l).Val → Prop) → Prop
  | [], [], K => K ()
  | [v], [u], K => v.mat u K
  | v :: w :: r, u :: q, K => v.mat u fun x => matC (w :: r) q fun y => K (x, y)
  | _, _, _ => False

def Slot.mat : (s : Slot) → Slot → (s.sh.Val → Prop) → Prop
  | .e (.agg cs), u, K => match u with
    | .e (.agg ds) => matC cs ds K
    | _ => False
  | .e (.p s y), u, K => match u with
    | .e u => EV.mat (.p s y) u K
    | _ => False
  | .e (.box i o), u, K => match u with
    | .e u => EV.mat (.box i o) u K
    | _ => False
  | .e (.row i v), u, K => match u with
    | .e u => EV.mat (.row i v) u K
    | _ => False
  | .e .bot, _, K => K () | .e (.raw _), _, K => K () | .e (.nil _), _, K => K () | .e (.ip _ _), _, K => K () | .e (.rp _ _ _ _), _, K => K () | .e (.tup _), _, K => K () | .e (.clo _ _ _), _, K => K () | .e (.ifc _ _), _, K => K ()
  | .n (.box _ cs), u, K => match u with
    | .n (.box .own ds) => matC cs ds K
    | _ => False
  | .n (.row _ v el s _), u, K => match u with
    | .n (.row .own v' el' s' ys) => cond (Nat.beq el' el && Nat.beq v' v) (castK (.slice s') (.slice s) ys K) False
    | _ => False
  | .n (.iter _ b _), u, K => match u with
    | .n (.iter .own b' pos') => chk (b' = b) (K pos')
    | _ => False

def matL : (l : List Slot) → List Slot → ((shL l).Val → Prop) → Prop
  | [], [], K => K ()
  | [v], [u], K => v.mat u K
  | v :: w :: r, u :: q, K => v.mat u fun x => matL (w :: r) q fun y => K (x, y)
  | _, _, _ => False

/-- The rows that a loop makes longer: it knows them by what varies. -/
def apOf (st : St) (lv hv : List Nat) : List Nat := (lv.flatMap (fun t => (st.env t).ids) ++ hv.flatMap fun i => match st.hp[i]? with
  | some x => x.ids
  | none => []).filter (hv.contains ·)

/-- A row's version at a round's head. -/
def nrmV (hp0 : List Ent) (ap : List Nat) (id v : Nat) : Nat := cond (ap.contains id) (match hp0[id]? with
  | some (.row _ v0 _ _ _) => v0 + 1
  | _ => 0) v

/-- A value at a round's head: the blocks of the round itself are forgotten. -/
def nrmE (hp0 hp : List Ent) (ap : List Nat) (v : EV) : EV :=
  v.sub (fun id ver => cond (Nat.blt id hp0.length) (match hp[id]? with
      | some (.row _ v _ _ _) => cond (Nat.beq v ver) (.row id (nrmV hp0 ap id ver)) .bot
      | _ => .bot) .bot)
    (fun id off => cond (Nat.blt id hp0.length) (.box id off) .bot)

def nrmN (hp0 hp : List Ent) (ap : List Nat) (i : Nat) : Ent → Ent
  | .box o cs => .box o (cs.map (nrmE hp0 hp ap))
  | .row o v e s xs => .row o (nrmV hp0 ap i v) e s xs
  | .iter o b pos => .iter o b pos

def slotsOf (hp0 : List Ent) (ap : List Nat) (st : St) (lv hv : List Nat) : List Slot :=
  lv.map (fun t => .e (nrmE hp0 st.hp ap (st.env t))) ++ hv.map fun i => match st.hp[i]? with
    | some x => .n (nrmN hp0 st.hp ap i x)
    | none => .e .bot

/-- The parts, laid into a state. -/
def getE : List Nat → List Slot → Nat → Option EV
  | t :: r, .e v :: q, i => cond (Nat.beq t i) (some v) (getE r q i)
  | _ :: r, _ :: q, i => getE r q i
  | _, _, _ => none

def getN : List Nat → List Slot → Nat → Option Ent
  | t :: r, .n v :: q, i => cond (Nat.beq t i) (some v) (getN r q i)
  | _ :: r, _ :: q, i => getN r q i
  | _, _, _ => none

def laidIn (hv : List Nat) (sl : List Slot) : Nat → List Ent → List Ent
  | _, [] => []
  | n, x :: r => (match getN hv sl n with
    | some y => y
    | none => x.lock) :: laidIn hv sl (n + 1) r

/-- Behind a loop what was locked for it may be written again. -/
def unlock : List Ent → List Ent → List Ent
  | x :: r, y :: q => cond (x.md.isOwn && y.md.isLock) (y.setMd .own) y :: unlock r q
  | _, q => q

def headOf (st : St) (lv hv W : List Nat) (sl : List Slot) : St :=
  { env := fun i => match getE lv sl i with
      | some v => v
      | none => cond (W.contains i) .bot (st.env i),
    hp := laidIn hv (sl.drop lv.length) 0 st.hp }

/-- The blocks that a loop varies are the call's own. -/
def ownAll (hp : List Ent) (hv : List Nat) : Bool := hv.all fun i => match hp[i]? with
  | some x => x.md.isOwn
  | none => false

def _root_.Go.Code.firstRegion' : Code → Nat
  | .region id _ _ => id
  | .seq a _ => a.firstRegion'
  | .block _ b => b.firstRegion'
  | .loop b => b.firstRegion' + 1000
  | .scope b => b.firstRegion'
  | _ => 0

def _root_.Go.Code.dsts' : Code → List Nat
  | .region _ ops _ => ops.toList.filterMap (·.dst)
  | .seq a b => a.dsts' ++ b.dsts'
  | .block _ b => b.dsts'
  | .loop b => b.dsts'
  | .scope b => b.dsts'
  | .cond _ a b => a.dsts' ++ b.dsts'
  | .rangeFunc _ ps a b => ps.toList ++ a.dsts' ++ b.dsts'
  | _ => []

inductive Ex where
  | normal | ret | exit (id : Nat)

/-- A condition's part that is told once (for the reader's sake alone). -/
def joinP {S : Type} (F : (S → Prop) → Prop) (K : S → Prop) : Prop := F K

/-- A loop's condition, out of that of its round. -/
def Cfg.loopV (lv hv W : List Nat) (st : St) (F : St → (Ex → St → Prop) → Prop) (K : Ex → St → Prop) : Prop :=
  loopP (fun x back => F (headOf st lv hv W (mkL (slotsOf st.hp (apOf st lv hv) st lv hv) x)) fun e st' => match e with
    | .normal => matL (slotsOf st.hp (apOf st lv hv) st lv hv) (slotsOf st.hp (apOf st lv hv) st' lv hv) back
    | .ret => K .ret { st' with hp := unlock st.hp st'.hp }
    | .exit id => K (.exit id) { st' with hp := unlock st.hp st'.hp }) (lfL (slotsOf st.hp (apOf st lv hv) st lv hv))

/-- THE CONDITION. -/
def Cfg.vc (c : Cfg) : Code → List Nat → St → (Ex → St → Prop) → Prop
  | .skip, _, st, K => K .normal st
  | .label _, _, st, K => K .normal st
  | .ret, _, st, K => K .ret st
  | .exit id, _, st, K => K (.exit id) st
  | .region _ ops draw, W, st, K => cond draw (cond (c.drawOK ops) (c.drawK W ops ops.size (Array.replicate ops.size false) st (K .normal)) (cond (c.drawOKn ops) (c.drawN W ops ops.size (Array.replicate ops.size false) st (K .normal)) False)) (c.seqK W ops ops.toList st (K .normal))
  | .seq a b, W, st, K => c.vc a W st fun e st => match e with
    | .normal => c.vc b W st K
    | .ret => K .ret st
    | .exit id => K (.exit id) st
  | .cond x a b, W, st, K => match c.ev st x with
    | .p .bool z => cond z (c.vc a W st K) (c.vc b W st K)
    | _ => False
  | .block id b, W, st, K => c.vc b W st fun e st => match e with
    | .normal => K .normal st
    | .ret => K .ret st
    | .exit j => cond (Nat.beq j id) (K .normal st) (K (.exit j) st)
  | .scope b, W, st, K => c.vc b W st K
  | .loop b, W, st, K =>
    cond (b.dsts'.all (W.contains ·) && ownAll (frzH (c.lv b.firstRegion').2.2 0 st.hp) (c.lv b.firstRegion').2.1 && shutIds st.hp (c.lv b.firstRegion').2.2)
      (Cfg.loopV (c.lv b.firstRegion').1 (c.lv b.firstRegion').2.1 b.dsts' { st with hp := frzH (c.lv b.firstRegion').2.2 0 st.hp } (fun st' back => c.vc b b.dsts' st' back) K) False
  | _, _, _, _ => False

def Cfg.resK (c : Cfg) (st : St) : List ResultVar → (List EV → Prop) → Prop
  | [], K => K []
  | .tmp t :: r, K => c.resK st r fun vs => K (st.env t :: vs)
  | .cell a t :: r, K => Cfg.ptK st (st.env a) fun cs off => c.ldK t cs off fun v => c.resK st r fun vs => K (v :: vs)

def Cfg.retK (c : Cfg) (fn : Func) (out : Shape) (st : St) (R : out.Val → Prop) : Prop :=
  c.resK st fn.results.toList fun vs => match vs with
    | [v] => decV c st out v R
    | vs => match out, R with
      | .tup f, R => decS c st f vs R
      | _, _ => False

/-- The condition of a function's contract. -/
def Cfg.fnK (c : Cfg) (f : FuncId) (args : List EV) (out : Shape) (R : out.Val → Prop) : Prop :=
  match c.P.funcs[f]? with
  | some fn => match fn.body with
    | some b => cond (b.dsts'.all (fun d => Nat.blt d fn.ntmps) && !(fn.name == "runtime.NumGoroutine")) (c.vc b b.dsts' { env := fun i => (args[i]?).getD .bot, hp := [] } fun e st => match e with
      | .normal => c.retK fn out st R
      | .ret => c.retK fn out st R
      | .exit _ => False) False
    | none => False
  | none => False
end Go.Proofs.YtgeefhjlfdidmaaGreatDoor.V


/- Laws of what abstract values say of values. No condition of its own. -/
namespace Go.Proofs.YtgeefhjlfdidmaaGreatDoor.V
set_option linter.unusedVariables false
set_option linter.unusedSimpArgs false
open Go Go.RowKit

theorem Mem.le_refl (m : Mem) : m.le m := fun _ _ _ h => h
theorem Mem.le_trans {a b c : Mem} (h : a.le b) (k : b.le c) : a.le c := fun x o v q => k _ _ _ (h _ _ _ q)
theorem Mem.ext_refl (n : Nat) (m : Mem) : Mem.ext n m m := ⟨Mem.le_refl m, fun _ _ _ => rfl⟩
theorem Mem.ext_trans {n : Nat} {a b c : Mem} (h : Mem.ext n a b) (k : Mem.ext n b c) : Mem.ext n a c :=
  ⟨Mem.le_trans h.1 k.1, fun b o hb => (k.2 b o hb).trans (h.2 b o hb)⟩
theorem Mem.ext_mono {n n' : Nat} {a b : Mem} (h : Mem.ext n a b) (hn : n' ≤ n) : Mem.ext n' a b := ⟨h.1, fun b o hb => h.2 b o (Nat.lt_of_lt_of_le hb hn)⟩
theorem TabOK.mono {tab : Nat → Option (List Int)} {m m' : Mem} (h : TabOK tab m) (k : m.le m') : TabOK tab m' := fun g l hg i n hn => k _ _ _ (h g l hg i n hn)

section
variable {P : Program}

theorem PostOf.mono {V V' : Mem → Value → Prop} {m : Mem} {w : World} {e : Ending} {w' : World} (h : ∀ m v, V m v → V' m v) (k : PostOf V m w e w') : PostOf V' m w e w' :=
  let ⟨v, m', a, b, c, d, q⟩ := k
  ⟨v, m', a, b, c, d, h _ _ q⟩

/-- More memory, the same values. -/
theorem Reps.mono (s : Shape) : ∀ {m m' : Mem}, m.le m' → (∀ x us, (Reps P s).C m x us → (Reps P s).C m' x us) ∧ (∀ x us, (Reps P s).A m x us → (Reps P s).A m' x us) ∧
    (∀ x u, (Reps P s).V m x u → (Reps P s).V m' x u) ∧ (∀ t x u, (Reps P s).I m t x u → (Reps P s).I m' t x u) := by
  have scalar : ∀ {s : Shape} {q : Mem → s.Val → Value → Prop} {m m' : Mem}, (∀ x u, q m x u → q m' x u) →
      (∀ x us, (RepT.scalar q).C m x us → (RepT.scalar q).C m' x us) ∧ (∀ x us, (RepT.scalar q).A m x us → (RepT.scalar q).A m' x us) ∧
      (∀ x u, (RepT.scalar q).V m x u → (RepT.scalar q).V m' x u) ∧ (∀ t x u, (RepT.scalar q).I m t x u → (RepT.scalar q).I m' t x u) := by
    intro s q m m' h
    exact ⟨fun x us ⟨u, a, b⟩ => ⟨u, a, h _ _ b⟩, fun x us ⟨u, a, b⟩ => ⟨u, a, h _ _ b⟩, fun x u k => h _ _ k, fun _ _ _ k => k⟩
  induction s with
  | bool => intro m m' _; exact scalar fun _ _ k => k
  | int k => intro m m' _; exact scalar fun _ _ k => k
  | slice s ih =>
    intro m m' h
    refine scalar fun x u ⟨base, cap, hu, hc, hx⟩ => ⟨base, cap, hu, hc, ?_⟩
    rcases hx with hx | ⟨b, o, hb, hx⟩
    · exact .inl hx
    · refine .inr ⟨b, o, hb, fun i y hy => ?_⟩
      obtain ⟨us, h1, h2⟩ := hx i y hy
      exact ⟨us, (ih h).1 _ _ h1, fun j u hj => h _ _ _ (h2 j u hj)⟩
  | st f ih => intro m m' h; exact ⟨(ih h).1, fun x us ⟨cs, a, b⟩ => ⟨cs, a, (ih h).1 _ _ b⟩, fun x us ⟨cs, a, b⟩ => ⟨cs, a, (ih h).1 _ _ b⟩, fun _ _ _ k => k⟩
  | unit => intro m m' h; exact ⟨fun _ _ k => k, fun _ _ k => k, fun _ _ k => k, fun _ _ _ k => k⟩
  | pair a b iha ihb =>
    intro m m' h
    exact ⟨fun x us ⟨c, d, e, f, g⟩ => ⟨c, d, e, (iha h).1 _ _ f, (ihb h).1 _ _ g⟩, fun x us ⟨u, r, e, f, g⟩ => ⟨u, r, e, (iha h).2.2.1 _ _ f, (ihb h).2.1 _ _ g⟩, fun _ _ k => k, fun _ _ _ k => k⟩
  | tup f ih => intro m m' h; exact ⟨fun _ _ k => k, fun _ _ k => k, fun x u ⟨us, a, b⟩ => ⟨us, a, (ih h).2.1 _ _ b⟩, fun _ _ _ k => k⟩
  | func i o _ _ =>
    intro m m' h
    refine scalar fun g u hu => ?_
    rcases hu with hu | ⟨f, a, b, e1, e2, e3⟩
    · exact .inl hu
    · exact .inr ⟨f, a, b, e1, e2, fun m2 w x us r hm => e3 m2 w x us r (Mem.le_trans h hm)⟩
  | iface a ih =>
    intro m m' h
    refine scalar fun x u hu => ?_
    cases x with
    | none => exact hu
    | some y => obtain ⟨t, v, e1, e2⟩ := hu; exact ⟨t, v, e1, (ih h).2.2.2 _ _ _ e2⟩
  | one t s ih => intro m m' h; exact ⟨fun _ _ k => k, fun _ _ k => k, fun _ _ k => k, fun t x v ⟨e1, e2⟩ => ⟨e1, (ih h).2.2.1 _ _ e2⟩⟩
  | alt t s r ihs ihr =>
    intro m m' h
    refine ⟨fun _ _ k => k, fun _ _ k => k, fun _ _ k => k, fun t x v hx => ?_⟩
    cases x with
    | inl y => exact ⟨hx.1, (ihs h).2.2.1 _ _ hx.2⟩
    | inr y => exact (ihr h).2.2.2 _ _ _ hx

theorem Reps.C_mono {s : Shape} {m m' : Mem} (h : m.le m') {x : s.Val} {us : List Value} (k : (Reps P s).C m x us) : (Reps P s).C m' x us := (Reps.mono s h).1 _ _ k
theorem Reps.A_mono {s : Shape} {m m' : Mem} (h : m.le m') {x : s.Val} {us : List Value} (k : (Reps P s).A m x us) : (Reps P s).A m' x us := (Reps.mono s h).2.1 _ _ k
theorem Reps.V_mono {s : Shape} {m m' : Mem} (h : m.le m') {x : s.Val} {u : Value} (k : (Reps P s).V m x u) : (Reps P s).V m' x u := (Reps.mono s h).2.2.1 _ _ k

/-- How many cells. -/
theorem Reps.C_length (s : Shape) : ∀ {m : Mem} {x : s.Val} {us : List Value}, (Reps P s).C m x us → us.length = s.size := by
  induction s with
  | bool => rintro m x us ⟨u, rfl, _⟩; rfl
  | int k => rintro m x us ⟨u, rfl, _⟩; rfl
  | slice s _ => rintro m x us ⟨u, rfl, _⟩; rfl
  | st f ih => intro m x us h; exact ih h
  | unit => intro m x us h; rw [show us = [] from h]; rfl
  | pair a b iha ihb => rintro m x us ⟨c, d, rfl, h1, h2⟩; rw [List.length_append, iha h1, ihb h2]; rfl
  | tup f _ => intro m x us h; exact h.elim
  | func i o _ _ => rintro m x us ⟨u, rfl, _⟩; rfl
  | iface a _ => rintro m x us ⟨u, rfl, _⟩; rfl
  | one t s _ => intro m x us h; exact h.elim
  | alt t s r _ _ => intro m x us h; exact h.elim

/-! ### Lists of values -/

theorem RepL_cons {m : Mem} {c : EV} {r : List EV} {J : EV → Value → Prop} {us : List Value} : RepL P m (c :: r) J us ↔ ∃ u us', us = u :: us' ∧ Rep P m c J u ∧ RepL P m r J us' := by
  simp only [RepL]

theorem RepL_nil {m : Mem} {J : EV → Value → Prop} {us : List Value} : RepL P m [] J us ↔ us = [] := by simp only [RepL]

theorem RepL_length {m : Mem} {J : EV → Value → Prop} : ∀ {cs : List EV} {us : List Value}, RepL P m cs J us → us.length = cs.length
  | [], us, h => by rw [RepL_nil.1 h]; rfl
  | c :: r, us, h => by obtain ⟨u, us', rfl, _, h'⟩ := RepL_cons.1 h; simp [RepL_length h']

theorem RepL_append {m : Mem} {J : EV → Value → Prop} : ∀ {cs ds : List EV} {us vs : List Value}, RepL P m cs J us → RepL P m ds J vs → RepL P m (cs ++ ds) J (us ++ vs)
  | [], ds, us, vs, h, k => by rw [RepL_nil.1 h]; exact k
  | c :: r, ds, us, vs, h, k => by
    obtain ⟨u, us', rfl, h1, h2⟩ := RepL_cons.1 h
    exact RepL_cons.2 ⟨u, us' ++ vs, rfl, h1, RepL_append h2 k⟩

theorem RepL_get {m : Mem} {J : EV → Value → Prop} : ∀ {cs : List EV} {us : List Value} {i : Nat} {c : EV}, RepL P m cs J us → cs[i]? = some c → ∃ u, us[i]? = some u ∧ Rep P m c J u
  | [], _, _, _, _, h => by simp at h
  | c :: r, us, 0, d, h, k => by
    obtain ⟨u, us', rfl, h1, _⟩ := RepL_cons.1 h
    simp at k; subst k
    exact ⟨u, rfl, h1⟩
  | c :: r, us, i + 1, d, h, k => by
    obtain ⟨u, us', rfl, _, h2⟩ := RepL_cons.1 h
    simp at k
    obtain ⟨v, hv, hr⟩ := RepL_get h2 k
    exact ⟨v, by simpa using hv, hr⟩

theorem RepL_take {m : Mem} {J : EV → Value → Prop} : ∀ {cs : List EV} {us : List Value} (n : Nat), RepL P m cs J us → RepL P m (cs.take n) J (us.take n)
  | _, _, 0, _ => by simp [RepL_nil]
  | [], us, n + 1, h => by rw [RepL_nil.1 h]; simp [RepL_nil]
  | c :: r, us, n + 1, h => by
    obtain ⟨u, us', rfl, h1, h2⟩ := RepL_cons.1 h
    exact RepL_cons.2 ⟨u, us'.take n, rfl, h1, RepL_take n h2⟩

theorem RepL_drop {m : Mem} {J : EV → Value → Prop} : ∀ {cs : List EV} {us : List Value} (n : Nat), RepL P m cs J us → RepL P m (cs.drop n) J (us.drop n)
  | _, _, 0, h => h
  | [], us, n + 1, h => by rw [RepL_nil.1 h]; simp [RepL_nil]
  | c :: r, us, n + 1, h => by
    obtain ⟨u, us', rfl, h1, h2⟩ := RepL_cons.1 h
    exact RepL_drop n h2

theorem RepL_split {m : Mem} {J : EV → Value → Prop} : ∀ {cs ds : List EV} {us : List Value}, RepL P m (cs ++ ds) J us → ∃ a b, us = a ++ b ∧ RepL P m cs J a ∧ RepL P m ds J b
  | [], ds, us, h => ⟨[], us, rfl, RepL_nil.2 rfl, h⟩
  | c :: r, ds, us, h => by
    obtain ⟨u, us', rfl, h1, h2⟩ := RepL_cons.1 h
    obtain ⟨a, b, rfl, h3, h4⟩ := RepL_split h2
    exact ⟨u :: a, b, rfl, RepL_cons.2 ⟨u, a, rfl, h1, h3⟩, h4⟩

/- More memory, more known of the heap's words: the same values. -/
mutual
theorem Rep_mono {m m' : Mem} (h : m.le m') : ∀ (v : EV) {J J' : EV → Value → Prop} {u : Value}, (∀ e u, J e u → J' e u) → Rep P m v J u → Rep P m' v J' u
  | .bot, _, _, _, _, _ => trivial
  | .p s x, _, _, _, _, k => Reps.V_mono h k
  | .raw _, _, _, _, _, k => k
  | .nil _, _, _, _, _, k => k
  | .ip cs off, _, _, _, _, k => by
    obtain ⟨b, o, us, e1, e2, e3⟩ := k
    exact ⟨b, o, us, e1, RepL_mono h cs (fun _ _ q => q) e2, fun j v hj => h _ _ _ (e3 j v hj)⟩
  | .box _ _, _, _, _, hJ, k => hJ _ _ k
  | .rp _ _ _ _, _, _, _, hJ, k => hJ _ _ k
  | .row _ _, _, _, _, hJ, k => hJ _ _ k
  | .agg cs, _, _, _, hJ, k => by obtain ⟨us, e1, e2⟩ := k; exact ⟨us, e1, RepL_mono h cs hJ e2⟩
  | .tup cs, _, _, _, hJ, k => by obtain ⟨us, e1, e2⟩ := k; exact ⟨us, e1, RepL_mono h cs hJ e2⟩
  | .clo _ a b, _, _, _, hJ, k => by obtain ⟨xs, ys, e1, e2, e3⟩ := k; exact ⟨xs, ys, e1, RepL_mono h a hJ e2, RepL_mono h b hJ e3⟩
  | .ifc _ v, _, _, _, hJ, k => by obtain ⟨x, e1, e2⟩ := k; exact ⟨x, e1, Rep_mono h v hJ e2⟩
theorem RepL_mono {m m' : Mem} (h : m.le m') : ∀ (cs : List EV) {J J' : EV → Value → Prop} {us : List Value}, (∀ e u, J e u → J' e u) → RepL P m cs J us → RepL P m' cs J' us
  | [], _, _, _, _, k => RepL_nil.2 (RepL_nil.1 k)
  | c :: r, _, _, _, hJ, k => by
    obtain ⟨u, us', e1, e2, e3⟩ := RepL_cons.1 k
    exact RepL_cons.2 ⟨u, us', e1, Rep_mono h c hJ e2, RepL_mono h r hJ e3⟩
end

/-- A shape's cells represent what its values' own words say. -/
theorem RepL_cells (s : Shape) : ∀ {m : Mem} {x : s.Val} {us : List Value} (J : EV → Value → Prop), (Reps P s).C m x us → RepL P m (s.cellsE x) J us := by
  induction s with
  | bool => rintro m x us J ⟨u, rfl, h⟩; exact RepL_cons.2 ⟨u, [], rfl, h, RepL_nil.2 rfl⟩
  | int k => rintro m x us J ⟨u, rfl, h⟩; exact RepL_cons.2 ⟨u, [], rfl, h, RepL_nil.2 rfl⟩
  | slice s _ => rintro m x us J ⟨u, rfl, h⟩; exact RepL_cons.2 ⟨u, [], rfl, h, RepL_nil.2 rfl⟩
  | st f ih => intro m x us J h; exact ih J h
  | unit => intro m x us J h; exact RepL_nil.2 h
  | pair a b iha ihb => rintro m x us J ⟨c, d, rfl, h1, h2⟩; exact RepL_append (iha J h1) (ihb J h2)
  | tup f _ => intro m x us J h; exact h.elim
  | func i o _ _ => rintro m x us J ⟨u, rfl, h⟩; exact RepL_cons.2 ⟨u, [], rfl, h, RepL_nil.2 rfl⟩
  | iface a _ => rintro m x us J ⟨u, rfl, h⟩; exact RepL_cons.2 ⟨u, [], rfl, h, RepL_nil.2 rfl⟩
  | one t s _ => intro m x us J h; exact h.elim
  | alt t s r _ _ => intro m x us J h; exact h.elim

theorem Rep_enc0 (s : Shape) {m : Mem} {x : s.Val} {u : Value} (J : EV → Value → Prop) (h : (Reps P s).V m x u) : Rep P m (s.enc0 x) J u := by
  cases s <;> first
    | exact h
    | (obtain ⟨cs, h1, h2⟩ := h; exact ⟨cs, h1, RepL_cells _ J h2⟩)

theorem RepL_comps (s : Shape) : ∀ {m : Mem} {x : s.Val} {us : List Value} (J : EV → Value → Prop), (Reps P s).A m x us → RepL P m (s.compsE x) J us := by
  induction s with
  | bool => rintro m x us J ⟨u, rfl, h⟩; exact RepL_cons.2 ⟨u, [], rfl, h, RepL_nil.2 rfl⟩
  | int k => rintro m x us J ⟨u, rfl, h⟩; exact RepL_cons.2 ⟨u, [], rfl, h, RepL_nil.2 rfl⟩
  | slice s _ => rintro m x us J ⟨u, rfl, h⟩; exact RepL_cons.2 ⟨u, [], rfl, h, RepL_nil.2 rfl⟩
  | st f ih => rintro m x us J ⟨cs, rfl, h⟩; exact RepL_cons.2 ⟨_, [], rfl, ⟨cs, rfl, RepL_cells f J h⟩, RepL_nil.2 rfl⟩
  | unit => intro m x us J h; exact RepL_nil.2 h
  | pair a b iha ihb => rintro m x us J ⟨u, r, rfl, h1, h2⟩; exact RepL_cons.2 ⟨u, r, rfl, Rep_enc0 a J h1, ihb J h2⟩
  | tup f _ => intro m x us J h; exact h.elim
  | func i o _ _ => rintro m x us J ⟨u, rfl, h⟩; exact RepL_cons.2 ⟨u, [], rfl, h, RepL_nil.2 rfl⟩
  | iface a _ => rintro m x us J ⟨u, rfl, h⟩; exact RepL_cons.2 ⟨u, [], rfl, h, RepL_nil.2 rfl⟩
  | one t s _ => intro m x us J h; exact h.elim
  | alt t s r _ _ => intro m x us J h; exact h.elim

theorem Rep_enc (s : Shape) {m : Mem} {x : s.Val} {u : Value} (J : EV → Value → Prop) (h : (Reps P s).V m x u) : Rep P m (s.enc x) J u := by
  cases s <;> first
    | exact h
    | (obtain ⟨cs, h1, h2⟩ := h; exact ⟨cs, h1, RepL_cells _ J h2⟩)
    | (obtain ⟨us, h1, h2⟩ := h; exact ⟨us, h1, RepL_comps _ J h2⟩)
end
end Go.Proofs.YtgeefhjlfdidmaaGreatDoor.V


/- The abstract heap against the model's memory; what is frozen; an abstract value read as one of a shape. No condition of its own. -/
namespace Go.Proofs.YtgeefhjlfdidmaaGreatDoor.V
open Go Go.RowKit
set_option linter.unusedVariables false
set_option linter.unusedSimpArgs false

/-- Where a block of the abstract heap lies: a variable's block; a row, by the slice value that owns it. -/
inductive Cn where
  | box (b : Nat)
  | row (v : Value)

def Cn.blk : Cn → Option Nat
  | .box b => some b
  | .row v => v.ownBlock

/-- What the abstract heap's words say of values. -/
def J (hp : List Ent) (bk : List Cn) : EV → Value → Prop
  | .box id off, u => ∃ e b, hp[id]? = some e ∧ e.bx = true ∧ bk[id]? = some (.box b) ∧ u = .pointer (some ⟨b, off, none⟩)
  | .row id ver, u => ∃ md v e s xs cv, hp[id]? = some (.row md v e s xs) ∧ bk[id]? = some (.row cv) ∧ ver ≤ v ∧ (ver = v → u = cv)
  | .rp id ver k off, u => ∃ md v e s xs cv, hp[id]? = some (.row md v e s xs) ∧ bk[id]? = some (.row cv) ∧ ver ≤ v ∧
      (ver = v → ∃ g n cap, cv = .slice (some ⟨g, 0, none⟩) n cap ∧ u = .pointer (some ⟨g, k * s.size + off, none⟩) ∧ k < xs.length)
  | _, _ => False

/-- A row's cells. -/
def RowRep (P : Program) (m : Mem) (s : Shape) : List s.Val → List Value → Prop
  | [], cs => cs = []
  | x :: xs, cs => ∃ c r, cs = c ++ r ∧ (Reps P s).C m x c ∧ RowRep P m s xs r

section
variable {P : Program}

theorem RowRep_mono {m m' : Mem} (h : m.le m') {s : Shape} : ∀ {xs : List s.Val} {cs : List Value}, RowRep P m s xs cs → RowRep P m' s xs cs
  | [], _, k => k
  | _ :: _, _, ⟨c, r, e, h1, h2⟩ => ⟨c, r, e, Reps.C_mono h h1, RowRep_mono h h2⟩

theorem RowRep_length {m : Mem} {s : Shape} : ∀ {xs : List s.Val} {cs : List Value}, RowRep P m s xs cs → cs.length = xs.length * s.size
  | [], cs, k => by rw [show cs = [] from k]; simp
  | x :: xs, _, ⟨c, r, e, h1, h2⟩ => by
    subst e
    rw [List.length_append, Reps.C_length s h1, RowRep_length h2, List.length_cons, Nat.succ_mul, Nat.add_comm]

theorem RowRep_append {m : Mem} {s : Shape} : ∀ {xs ys : List s.Val} {cs ds : List Value}, RowRep P m s xs cs → RowRep P m s ys ds → RowRep P m s (xs ++ ys) (cs ++ ds)
  | [], _, cs, _, h, k => by rw [show cs = [] from h]; exact k
  | x :: xs, ys, _, ds, ⟨c, r, e, h1, h2⟩, k => by subst e; exact ⟨c, r ++ ds, by simp, h1, RowRep_append h2 k⟩

theorem RowRep_get {m : Mem} {s : Shape} : ∀ {xs : List s.Val} {cs : List Value} {i : Nat} {x : s.Val}, RowRep P m s xs cs → xs[i]? = some x →
    ∃ c, (Reps P s).C m x c ∧ (cs.drop (i * s.size)).take s.size = c
  | [], _, _, _, _, h => by simp at h
  | x :: xs, _, 0, y, ⟨c, r, e, h1, h2⟩, h => by
    simp at h; subst h; subst e
    exact ⟨c, h1, by simp [← Reps.C_length s h1]⟩
  | x :: xs, _, i + 1, y, ⟨c, r, e, h1, h2⟩, h => by
    subst e
    simp at h
    obtain ⟨d, h3, h4⟩ := RowRep_get h2 h
    refine ⟨d, h3, ?_⟩
    rw [show (i + 1) * s.size = c.length + i * s.size by rw [Nat.succ_mul, Reps.C_length s h1]; omega, List.drop_length_add_append]
    exact h4

theorem RowRep_set {m : Mem} {s : Shape} : ∀ {xs : List s.Val} {cs : List Value} {i : Nat} {y : s.Val} {d : List Value}, RowRep P m s xs cs → i < xs.length → (Reps P s).C m y d →
    RowRep P m s (xs.set i y) (cs.take (i * s.size) ++ d ++ cs.drop (i * s.size + s.size))
  | [], _, _, _, _, _, h, _ => by simp at h
  | x :: xs, _, 0, y, d, ⟨c, r, e, h1, h2⟩, h, k => by
    subst e
    refine ⟨d, r, ?_, k, h2⟩
    simp [← Reps.C_length s h1]
  | x :: xs, _, i + 1, y, d, ⟨c, r, e, h1, h2⟩, h, k => by
    subst e
    refine ⟨c, r.take (i * s.size) ++ d ++ r.drop (i * s.size + s.size), ?_, h1, RowRep_set h2 (by simpa using h) k⟩
    have hl := Reps.C_length s h1
    rw [show (i + 1) * s.size = c.length + i * s.size by rw [Nat.succ_mul]; omega, List.take_length_add_append, Nat.add_assoc, List.drop_length_add_append]
    simp

theorem RowRep_take {m : Mem} {s : Shape} : ∀ {xs : List s.Val} {cs : List Value} (n : Nat), RowRep P m s xs cs → RowRep P m s (xs.take n) (cs.take (n * s.size))
  | _, _, 0, _ => by simp [RowRep]
  | [], cs, n + 1, h => by rw [show cs = [] from h]; simp [RowRep]
  | x :: xs, _, n + 1, ⟨c, r, e, h1, h2⟩ => by
    subst e
    refine ⟨c, r.take (n * s.size), ?_, h1, RowRep_take n h2⟩
    rw [Nat.succ_mul, show n * s.size + s.size = c.length + n * s.size by rw [Reps.C_length s h1]; omega, List.take_length_add_append]

/-- A row that lies in memory that nobody writes is a slice's value. -/
theorem slice_of_row {m : Mem} {s : Shape} {xs : List s.Val} {cs : List Value} {b o cap : Nat} (hc : xs.length ≤ cap) (h : RowRep P m s xs cs) (hm : ∀ j u, cs[j]? = some u → m b (o + j) = some u) :
    (Reps P (.slice s)).V m xs (.slice (some ⟨b, o, none⟩) xs.length cap) := by
  refine ⟨_, cap, rfl, hc, .inr ⟨b, o, rfl, fun i x hx => ?_⟩⟩
  obtain ⟨c, h1, h2⟩ := RowRep_get h hx
  refine ⟨c, h1, fun j u hj => ?_⟩
  rw [← h2, List.getElem?_take] at hj
  split at hj
  · rw [List.getElem?_drop] at hj
    rw [Nat.add_assoc]
    exact hm _ _ hj
  · simp at hj

theorem row_of_slice {m : Mem} {s : Shape} {b : Nat} : ∀ {xs : List s.Val} {o : Nat}, (∀ i x, xs[i]? = some x → ∃ us, (Reps P s).C m x us ∧ ∀ j u, us[j]? = some u → m b (o + i * s.size + j) = some u) →
    ∃ cs, RowRep P m s xs cs ∧ ∀ j u, cs[j]? = some u → m b (o + j) = some u
  | [], o, _ => ⟨[], rfl, fun j u h => by simp at h⟩
  | x :: xs, o, h => by
    obtain ⟨c, h1, h2⟩ := h 0 x rfl
    obtain ⟨r, h3, h4⟩ := row_of_slice (xs := xs) (o := o + s.size) (fun i y hy => by
      obtain ⟨us, k1, k2⟩ := h (i + 1) y (by simpa using hy)
      refine ⟨us, k1, fun j u hj => ?_⟩
      have := k2 j u hj
      rwa [Nat.succ_mul, show o + (i * s.size + s.size) + j = o + s.size + i * s.size + j by omega] at this)
    have hl := Reps.C_length s h1
    refine ⟨c ++ r, ⟨c, r, rfl, h1, h3⟩, fun j u hj => ?_⟩
    rw [List.getElem?_append] at hj
    split at hj
    · have := h2 j u hj
      rwa [Nat.zero_mul, Nat.add_zero] at this
    · have := h4 _ _ hj
      rwa [show o + s.size + (j - c.length) = o + j by omega] at this

/-- A block of the abstract heap, as it lies in memory. -/
def SatEnt (P : Program) (m : Mem) (n0 : Nat) (w : World) (JJ : EV → Value → Prop) : Ent → Cn → Prop
  | .box md cs, .box b => ∃ us T, w.heap[b]? = some (.cells us T (0, 0)) ∧ RepL P m cs JJ us.toList ∧ n0 ≤ b ∧
      (md = .froz → ∀ j u, us.toList[j]? = some u → m b j = some u) ∧ (md ≠ .froz → ∀ o, m b o = none)
  | .row md _ e s xs, .row cv => ∃ cs, RowRep P m s xs cs ∧ w.ownsRow n0 e s.size cv xs.length cs ∧
      (md = .froz → ∀ g, cv.ownBlock = some g → ∀ j u, cs[j]? = some u → m g j = some u) ∧ (md ≠ .froz → ∀ g, cv.ownBlock = some g → ∀ o, m g o = none)
  | .iter md s pos, .box b => n0 ≤ b ∧ (∃ n : Nat, pos = (n : Int) ∧ w.heap[b]? = some (.stringIter s n)) ∧ (md ≠ .froz → ∀ o, m b o = none)
  | _, _ => False

/-- The blocks of a set, as memory that nobody writes. -/
def FrzOK (P : Program) (m m' : Mem) (hp : List Ent) (bk : List Cn) (F : Nat → Prop) : Prop :=
  ∀ i, F i → (∃ md cs b us, hp[i]? = some (.box md cs) ∧ bk[i]? = some (.box b) ∧ RepL P m cs (J hp bk) us ∧ (∀ j u, us[j]? = some u → m' b j = some u) ∧ ∀ j ∈ EV.idsL cs, F j) ∨
    (∃ md v e s xs cv cs, hp[i]? = some (.row md v e s xs) ∧ bk[i]? = some (.row cv) ∧ RowRep P m s xs cs ∧
      ((cv = .slice none 0 0 ∧ xs = []) ∨ ∃ g cap, cv = .slice (some ⟨g, 0, none⟩) xs.length cap ∧ xs.length ≤ cap ∧ ∀ j u, cs[j]? = some u → m' g j = some u)) ∨
    ∃ md s pos, hp[i]? = some (.iter md s pos)

variable {m m' : Mem} {hp : List Ent} {bk : List Cn} {F : Nat → Prop}

/-- A row that is frozen, as a slice's value. -/
theorem FrzOK.row (hF : FrzOK P m m' hp bk F) (hm : m.le m') {id ver v : Nat} {md : Md} {e : TypeId} {s : Shape} {xs : List s.Val} {u : Value} (hi : F id) (he : hp[id]? = some (.row md v e s xs)) (hv : ver = v)
    (hJ : J hp bk (.row id ver) u) : (Reps P (.slice s)).V m' xs u := by
  obtain ⟨md', v', e', s', xs', cv, h1, h2, h3, h4⟩ := hJ
  rw [he] at h1
  cases h1
  rcases hF id hi with ⟨_, _, _, _, k, _⟩ | ⟨md2, v2, e2, s2, xs2, cv2, cs, k1, k2, k3, k4⟩ | ⟨_, _, _, k⟩
  · rw [he] at k; cases k
  · rw [he] at k1; cases k1
    rw [h2] at k2; cases k2
    have hu := h4 hv
    subst hu
    rcases k4 with ⟨rfl, hx⟩ | ⟨g, cap, rfl, hcap, hg⟩
    · subst hx
      exact ⟨none, 0, rfl, Nat.le_refl _, .inl rfl⟩
    · exact slice_of_row hcap (RowRep_mono hm k3) (fun j u hj => by rw [Nat.zero_add]; exact hg j u hj)
  · rw [he] at k; cases k

mutual
theorem sub_rep {JJ : EV → Value → Prop} {rowf boxf : Nat → Nat → EV} (hm : m.le m')
    (hr : ∀ id ver u, F id → J hp bk (.row id ver) u → Rep P m' (rowf id ver) JJ u) (hb : ∀ id off u, F id → J hp bk (.box id off) u → Rep P m' (boxf id off) JJ u) :
    ∀ (v : EV) {u : Value}, Rep P m v (J hp bk) u → (∀ i ∈ v.ids, F i) → Rep P m' (v.sub rowf boxf) JJ u
  | .bot, _, _, _ => trivial
  | .p s x, _, k, _ => Reps.V_mono hm k
  | .raw _, _, k, _ => k
  | .nil s, u, k, _ => by
    show (Reps P (.slice s)).V m' [] u
    rw [show u = .slice none 0 0 from k]
    exact ⟨none, 0, rfl, Nat.le_refl _, .inl rfl⟩
  | .ip cs off, _, k, _ => Rep_mono hm (.ip cs off) (fun _ _ q => by cases q) (by obtain ⟨b, o, us, h⟩ := k; exact ⟨b, o, us, h⟩ : Rep P m (.ip cs off) (fun _ _ => False) _)
  | .box id off, _, k, h => hb _ _ _ (h id (by simp [EV.ids])) k
  | .rp _ _ _ _, _, _, _ => trivial
  | .row id ver, _, k, h => hr _ _ _ (h id (by simp [EV.ids])) k
  | .agg cs, _, k, h => by obtain ⟨us, e1, e2⟩ := k; exact ⟨us, e1, subL_rep hm hr hb cs e2 h⟩
  | .tup cs, _, k, h => by obtain ⟨us, e1, e2⟩ := k; exact ⟨us, e1, subL_rep hm hr hb cs e2 h⟩
  | .clo _ a b, _, k, h => by
    obtain ⟨xs, ys, e1, e2, e3⟩ := k
    exact ⟨xs, ys, e1, subL_rep hm hr hb a e2 fun i hi => h i (by simp [EV.ids, hi]), subL_rep hm hr hb b e3 fun i hi => h i (by simp [EV.ids, hi])⟩
  | .ifc _ v, _, k, h => by obtain ⟨x, e1, e2⟩ := k; exact ⟨x, e1, sub_rep hm hr hb v e2 h⟩
theorem subL_rep {JJ : EV → Value → Prop} {rowf boxf : Nat → Nat → EV} (hm : m.le m')
    (hr : ∀ id ver u, F id → J hp bk (.row id ver) u → Rep P m' (rowf id ver) JJ u) (hb : ∀ id off u, F id → J hp bk (.box id off) u → Rep P m' (boxf id off) JJ u) :
    ∀ (cs : List EV) {us : List Value}, RepL P m cs (J hp bk) us → (∀ i ∈ EV.idsL cs, F i) → RepL P m' (EV.subL rowf boxf cs) JJ us
  | [], _, k, _ => RepL_nil.2 (RepL_nil.1 k)
  | c :: r, _, k, h => by
    obtain ⟨u, us', e1, e2, e3⟩ := RepL_cons.1 k
    exact RepL_cons.2 ⟨u, us', e1, sub_rep hm hr hb c e2 fun i hi => h i (by simp [EV.idsL, hi]), subL_rep hm hr hb r e3 fun i hi => h i (by simp [EV.idsL, hi])⟩
end

theorem map_frz_rep {n : Nat} (hk : ∀ v u, Rep P m v (J hp bk) u → (∀ i ∈ v.ids, F i) → Rep P m' (frz hp n v) pureJ u) : ∀ {cs : List EV} {us : List Value}, RepL P m cs (J hp bk) us → (∀ i ∈ EV.idsL cs, F i) → RepL P m' (cs.map (frz hp n)) pureJ us
  | [], _, k, _ => RepL_nil.2 (RepL_nil.1 k)
  | c :: r, _, k, h => by
    obtain ⟨u, us', e1, e2, e3⟩ := RepL_cons.1 k
    exact RepL_cons.2 ⟨u, us', e1, hk _ _ e2 fun i hi => h i (by simp [EV.idsL, hi]), map_frz_rep hk e3 fun i hi => h i (by simp [EV.idsL, hi])⟩

/-- What is frozen represents what it did. -/
theorem frz_rep (hF : FrzOK P m m' hp bk F) (hm : m.le m') : ∀ (n : Nat) (v : EV) {u : Value}, Rep P m v (J hp bk) u → (∀ i ∈ v.ids, F i) → Rep P m' (frz hp n v) pureJ u
  | 0, v, _, k, h => sub_rep (rowf := fun _ _ => .bot) (boxf := fun _ _ => .bot) hm (fun _ _ _ _ _ => (trivial : Rep P m' .bot pureJ _)) (fun _ _ _ _ _ => (trivial : Rep P m' .bot pureJ _)) v k h
  | n + 1, v, _, k, h => by
    refine sub_rep hm ?_ ?_ v k h
    · intro id ver u hi hJ
      have hJ' := hJ
      obtain ⟨md, v', e, s, xs, cv, h1, h2, h3, h4⟩ := hJ
      simp only [h1]
      by_cases hv : ver = v'
      · subst hv
        simp only [Nat.beq_refl, cond_true]
        exact hF.row hm hi h1 rfl hJ'
      · have : Nat.beq v' ver = false := by
          cases hb : Nat.beq v' ver
          · rfl
          · exact absurd (Nat.eq_of_beq_eq_true hb).symm hv
        simp only [this, cond_false]
        trivial
    · intro id off u hi hJ
      obtain ⟨e, b, h1, hbx, h2, h3⟩ := hJ
      rcases hF id hi with ⟨md2, cs2, b2, us, k1, k2, k3, k4, k5⟩ | ⟨_, _, _, _, _, _, _, k, _⟩ | ⟨_, _, _, k⟩
      · rw [h1] at k1; cases k1
        simp only [h1]
        rw [h2] at k2; cases k2
        exact ⟨b, 0, us, by rw [h3, Nat.zero_add], map_frz_rep (fun v u => frz_rep hF hm n v) k3 k5, fun j v hj => by rw [Nat.zero_add]; exact k4 j v hj⟩
      · rw [h1] at k; cases k; cases hbx
      · rw [h1] at k; cases k
        simp only [h1]
        trivial
end
end Go.Proofs.YtgeefhjlfdidmaaGreatDoor.V


/- An abstract value read as one of a shape: it is one. No condition of its own. -/
namespace Go.Proofs.YtgeefhjlfdidmaaGreatDoor.V
open Go Go.RowKit
set_option linter.unusedVariables false
set_option linter.unusedSimpArgs false

theorem castK_spec {a b : Shape} {x : a.Val} {K : b.Val → Prop} (h : castK a b x K) : ∃ e : a = b, K (e ▸ x) := by
  unfold castK at h
  split at h
  · rename_i e; exact ⟨e, h⟩
  · exact h.elim

section
variable {c : Cfg} {st : St} {m m' : Mem} {bk : List Cn} {F : Nat → Prop}

theorem slK_sound (hF : FrzOK c.P m m' st.hp bk F) (hm : m.le m') {v : EV} {u : Value} {K : (s : Shape) → List s.Val → Prop} (h : Rep c.P m v (J st.hp bk) u) (hi : ∀ i ∈ v.ids, F i) (k : slK st v K) :
    ∃ s xs, K s xs ∧ (Reps c.P (.slice s)).V m' xs u := by
  unfold slK at k
  split at k
  · exact ⟨_, _, k, Reps.V_mono hm h⟩
  · rename_i s
    refine ⟨_, _, k, ?_⟩
    rw [show u = .slice none 0 0 from h]
    exact ⟨none, 0, rfl, Nat.le_refl _, .inl rfl⟩
  · rename_i id ver
    split at k
    · rename_i md v e s xs he
      cases hb : Nat.beq v ver
      · rw [hb] at k; exact k.elim
      · rw [hb] at k
        exact ⟨_, _, k, hF.row hm (hi id (by simp [EV.ids])) he (Nat.eq_of_beq_eq_true hb).symm h⟩
    · exact k.elim
  · exact k.elim

theorem isNil_spec {v : EV} {u : Value} {JJ : EV → Value → Prop} (h : Rep c.P m v JJ u) (k : isNil v = true) : u = .slice none 0 0 := by
  unfold isNil at k
  split at k
  · exact h
  · exact h
  · cases k

theorem nil_V (s : Shape) : (Reps c.P (.slice s)).V m' ([] : List s.Val) (.slice none 0 0) := ⟨none, 0, rfl, Nat.le_refl _, .inl rfl⟩

theorem slice_sound (hF : FrzOK c.P m m' st.hp bk F) (hm : m.le m') {v : EV} {u : Value} {s : Shape} {K : List s.Val → Prop} (h : Rep c.P m v (J st.hp bk) u) (hi : ∀ i ∈ v.ids, F i)
    (k : cond (isNil v) (K []) (slK st v fun s' xs => castK (.slice s') (.slice s) xs K)) : ∃ xs, K xs ∧ (Reps c.P (.slice s)).V m' xs u := by
  cases hn : isNil v
  · rw [hn] at k
    obtain ⟨s', xs, k1, k2⟩ := slK_sound hF hm h hi k
    obtain ⟨e, k3⟩ := castK_spec k1
    cases e
    exact ⟨xs, k3, k2⟩
  · rw [hn] at k
    refine ⟨[], k, ?_⟩
    rw [isNil_spec h hn]
    exact nil_V s

theorem clo_sound (hF : FrzOK c.P m m' st.hp bk F) (hm : m.le m') (ht : TabOK c.tab m') {f : FuncId} {a b : List EV} {u : Value} {i o : Shape} {K : (i.Val → Option o.Val) → Prop}
    (h : Rep c.P m (.clo (.func f) a b) (J st.hp bk) u) (hi : ∀ i ∈ (EV.clo (.func f) a b).ids, F i) (k : cloP c.toBase f (a.map (frz st.hp 3)) (b.map (frz st.hp 3)) i o K) :
    ∃ g, K g ∧ (Reps c.P (.func i o)).V m' g u := by
  obtain ⟨g, ⟨hc, hs⟩, hK⟩ := k
  obtain ⟨xs, ys, hu, h1, h2⟩ := h
  have h1' := map_frz_rep (n := 3) (fun v u => frz_rep hF hm 3 v) h1 (fun i q => hi i (by simp [EV.ids, q]))
  have h2' := map_frz_rep (n := 3) (fun v u => frz_rep hF hm 3 v) h2 (fun i q => hi i (by simp [EV.ids, q]))
  refine ⟨g, hK, .inr ⟨f, xs.toArray, ys.toArray, hu, hc, fun m2 w x us r hm2 hw hA hg => ?_⟩⟩
  have := (hs x r hg).2 m2 w (xs ++ us ++ ys) (ht.mono hm2) hw (RepL_append (RepL_append (RepL_mono hm2 _ (fun _ _ q => q) h1') (RepL_comps i pureJ hA)) (RepL_mono hm2 _ (fun _ _ q => q) h2'))
  have e : (xs ++ us ++ ys).toArray = xs.toArray ++ us.toArray ++ ys.toArray := by simp
  rw [e] at this
  exact this.mono fun e w' q => q.mono fun m v ⟨r', hr, hv⟩ => by subst hr; exact hv

theorem dec_sound (hF : FrzOK c.P m m' st.hp bk F) (hm : m.le m') (ht : TabOK c.tab m') (s : Shape) :
    (∀ v u K, Rep c.P m v (J st.hp bk) u → (∀ i ∈ v.ids, F i) → decV c st s v K → ∃ x, K x ∧ (Reps c.P s).V m' x u) ∧
    (∀ cs us K, RepL c.P m cs (J st.hp bk) us → (∀ i ∈ EV.idsL cs, F i) → decC c st s cs K →
      ∃ x r us1 us2, K x r ∧ us = us1 ++ us2 ∧ (Reps c.P s).C m' x us1 ∧ RepL c.P m r (J st.hp bk) us2 ∧ ∀ i ∈ EV.idsL r, F i) ∧
    (∀ t v u K, Rep c.P m v (J st.hp bk) u → (∀ i ∈ v.ids, F i) → decA c st s t v K → ∃ x, K x ∧ (Reps c.P s).I m' t x u) := by
  have idsc : ∀ {v : EV} {r : List EV}, (∀ i ∈ EV.idsL (v :: r), F i) → (∀ i ∈ v.ids, F i) ∧ ∀ i ∈ EV.idsL r, F i := fun h => ⟨fun i hi => h i (by simp [EV.idsL, hi]), fun i hi => h i (by simp [EV.idsL, hi])⟩
  induction s with
  | bool =>
    refine ⟨fun v u K h hi k => ?_, fun cs us K h hi k => ?_, fun t v u K h hi k => by simp only [decA] at k⟩
    · simp only [decV] at k
      split at k
      · exact ⟨_, k, h⟩
      · exact k.elim
    · simp only [decC] at k
      split at k
      · obtain ⟨u, us', rfl, h1, h2⟩ := RepL_cons.1 h
        exact ⟨_, _, [u], us', k, rfl, ⟨u, rfl, h1⟩, h2, (idsc hi).2⟩
      · exact k.elim
  | int q =>
    refine ⟨fun v u K h hi k => ?_, fun cs us K h hi k => ?_, fun t v u K h hi k => by simp only [decA] at k⟩
    · simp only [decV] at k
      split at k
      · split at k
        · rename_i e; subst e; exact ⟨_, k, h⟩
        · exact k.elim
      · exact k.elim
    · simp only [decC] at k
      split at k
      · obtain ⟨u, us', rfl, h1, h2⟩ := RepL_cons.1 h
        split at k
        · rename_i e; subst e; exact ⟨_, _, [u], us', k, rfl, ⟨u, rfl, h1⟩, h2, (idsc hi).2⟩
        · exact k.elim
      · exact k.elim
  | slice s ih =>
    refine ⟨fun v u K h hi k => ?_, fun cs us K h hi k => ?_, fun t v u K h hi k => by simp only [decA] at k⟩
    · simp only [decV] at k
      exact slice_sound hF hm h hi k
    · simp only [decC] at k
      split at k
      · obtain ⟨u, us', rfl, h1, h2⟩ := RepL_cons.1 h
        obtain ⟨xs, k1, k2⟩ := slice_sound (K := fun x => K x _) hF hm h1 (idsc hi).1 k
        exact ⟨_, _, [u], us', k1, rfl, ⟨u, rfl, k2⟩, h2, (idsc hi).2⟩
      · exact k.elim
  | st f ih =>
    refine ⟨fun v u K h hi k => ?_, fun cs us K h hi k => ?_, fun t v u K h hi k => by simp only [decA] at k⟩
    · simp only [decV] at k
      split at k
      · obtain ⟨us, hu, h1⟩ := h
        obtain ⟨x, r, us1, us2, k1, k2, k3, k4, _⟩ := ih.2.1 _ us _ h1 hi k
        split at k1
        · rw [RepL_nil.1 k4, List.append_nil] at k2
          subst k2
          exact ⟨x, k1, us, hu, k3⟩
        · exact k1.elim
      · exact k.elim
    · simp only [decC] at k
      exact ih.2.1 _ _ _ h hi k
  | unit =>
    refine ⟨fun v u K h hi k => by simp only [decV] at k, fun cs us K h hi k => ?_, fun t v u K h hi k => by simp only [decA] at k⟩
    simp only [decC] at k
    exact ⟨(), cs, [], us, k, rfl, rfl, h, hi⟩
  | pair a b iha ihb =>
    refine ⟨fun v u K h hi k => by simp only [decV] at k, fun cs us K h hi k => ?_, fun t v u K h hi k => by simp only [decA] at k⟩
    simp only [decC] at k
    obtain ⟨x, r, us1, us2, k1, rfl, k3, k4, k5⟩ := iha.2.1 _ _ _ h hi k
    obtain ⟨y, r', us3, us4, l1, rfl, l3, l4, l5⟩ := ihb.2.1 _ _ _ k4 k5 k1
    exact ⟨(x, y), r', us1 ++ us3, us4, l1, by simp, ⟨us1, us3, rfl, k3, l3⟩, l4, l5⟩
  | tup f ih => exact ⟨fun v u K h hi k => by simp only [decV] at k, fun cs us K h hi k => by simp only [decC] at k, fun t v u K h hi k => by simp only [decA] at k⟩
  | func i o ihi iho =>
    refine ⟨fun v u K h hi k => ?_, fun cs us K h hi k => ?_, fun t v u K h hi k => by simp only [decA] at k⟩
    · simp only [decV] at k
      split at k
      · obtain ⟨e, k2⟩ := castK_spec k
        subst e
        exact ⟨_, k2, Reps.V_mono hm h⟩
      · exact clo_sound hF hm ht h hi k
      · exact ⟨_, k, .inl ⟨h, fun _ => rfl⟩⟩
      · exact k.elim
    · simp only [decC] at k
      split at k
      · obtain ⟨u, us', rfl, h1, h2⟩ := RepL_cons.1 h
        obtain ⟨e, k2⟩ := castK_spec k
        subst e
        exact ⟨_, _, [u], us', k2, rfl, ⟨u, rfl, Reps.V_mono hm h1⟩, h2, (idsc hi).2⟩
      · obtain ⟨u, us', rfl, h1, h2⟩ := RepL_cons.1 h
        obtain ⟨g, k1, k2⟩ := clo_sound (K := fun x => K x _) hF hm ht h1 (idsc hi).1 k
        exact ⟨g, _, [u], us', k1, rfl, ⟨u, rfl, k2⟩, h2, (idsc hi).2⟩
      · obtain ⟨u, us', rfl, h1, h2⟩ := RepL_cons.1 h
        exact ⟨_, _, [u], us', k, rfl, ⟨u, rfl, .inl ⟨h1, fun _ => rfl⟩⟩, h2, (idsc hi).2⟩
      · exact k.elim
  | iface a ih =>
    refine ⟨fun v u K h hi k => ?_, fun cs us K h hi k => ?_, fun t v u K h hi k => by simp only [decA] at k⟩
    · simp only [decV] at k
      split at k
      · obtain ⟨e, k2⟩ := castK_spec k
        subst e
        exact ⟨_, k2, Reps.V_mono hm h⟩
      · exact ⟨none, k, h⟩
      · obtain ⟨x, hu, h1⟩ := h
        obtain ⟨y, k1, k2⟩ := ih.2.2 _ _ _ _ h1 hi k
        exact ⟨some y, k1, _, x, hu, k2⟩
      · exact k.elim
    · simp only [decC] at k
      split at k
      · obtain ⟨u, us', rfl, h1, h2⟩ := RepL_cons.1 h
        obtain ⟨e, k2⟩ := castK_spec k
        subst e
        exact ⟨_, _, [u], us', k2, rfl, ⟨u, rfl, Reps.V_mono hm h1⟩, h2, (idsc hi).2⟩
      · obtain ⟨u, us', rfl, h1, h2⟩ := RepL_cons.1 h
        exact ⟨none, _, [u], us', k, rfl, ⟨u, rfl, h1⟩, h2, (idsc hi).2⟩
      · obtain ⟨u, us', rfl, h1, h2⟩ := RepL_cons.1 h
        obtain ⟨x, hu, h3⟩ := h1
        obtain ⟨y, k1, k2⟩ := ih.2.2 _ _ _ (fun y => K (some y) _) h3 (idsc hi).1 k
        exact ⟨some y, _, [u], us', k1, rfl, ⟨u, rfl, _, x, hu, k2⟩, h2, (idsc hi).2⟩
      · exact k.elim
  | one t s ih =>
    refine ⟨fun v u K h hi k => by simp only [decV] at k, fun cs us K h hi k => by simp only [decC] at k, fun t' v u K h hi k => ?_⟩
    simp only [decA] at k
    cases hb : Nat.beq t t'
    · rw [hb] at k; exact k.elim
    · rw [hb] at k
      obtain ⟨x, k1, k2⟩ := ih.1 _ _ _ h hi k
      exact ⟨x, k1, (Nat.eq_of_beq_eq_true hb).symm, k2⟩
  | alt t s r ihs ihr =>
    refine ⟨fun v u K h hi k => by simp only [decV] at k, fun cs us K h hi k => by simp only [decC] at k, fun t' v u K h hi k => ?_⟩
    simp only [decA] at k
    cases hb : Nat.beq t t'
    · rw [hb] at k
      obtain ⟨x, k1, k2⟩ := ihr.2.2 _ _ _ _ h hi k
      exact ⟨.inr x, k1, k2⟩
    · rw [hb] at k
      obtain ⟨x, k1, k2⟩ := ihs.1 _ _ _ h hi k
      exact ⟨.inl x, k1, (Nat.eq_of_beq_eq_true hb).symm, k2⟩

theorem decS_sound (hF : FrzOK c.P m m' st.hp bk F) (hm : m.le m') (ht : TabOK c.tab m') : ∀ (s : Shape) (vs : List EV) (us : List Value) (K : s.Val → Prop), RepL c.P m vs (J st.hp bk) us → (∀ i ∈ EV.idsL vs, F i) →
    decS c st s vs K → ∃ x, K x ∧ (Reps c.P s).A m' x us := by
  have one : ∀ (s : Shape) (v : EV) (us : List Value) (K : s.Val → Prop), RepL c.P m [v] (J st.hp bk) us → (∀ i ∈ EV.idsL [v], F i) → decV c st s v K → ∃ x u, K x ∧ us = [u] ∧ (Reps c.P s).V m' x u := by
    intro s v us K h hi k
    obtain ⟨u, us', rfl, h1, h2⟩ := RepL_cons.1 h
    rw [RepL_nil.1 h2]
    obtain ⟨x, k1, k2⟩ := (dec_sound hF hm ht s).1 _ _ _ h1 (fun i q => hi i (by simp [EV.idsL, q])) k
    exact ⟨x, u, k1, rfl, k2⟩
  intro s
  induction s with
  | pair a b iha ihb =>
    intro vs us K h hi k
    cases vs with
    | nil => simp only [decS] at k
    | cons v r =>
      simp only [decS] at k
      obtain ⟨u, us', rfl, h1, h2⟩ := RepL_cons.1 h
      obtain ⟨x, k1, k2⟩ := (dec_sound hF hm ht a).1 _ _ _ h1 (fun i q => hi i (by simp [EV.idsL, q])) k
      obtain ⟨y, l1, l2⟩ := ihb _ _ _ h2 (fun i q => hi i (by simp [EV.idsL, q])) k1
      exact ⟨(x, y), l1, u, us', rfl, k2, l2⟩
  | unit =>
    intro vs us K h hi k
    cases vs with
    | nil => simp only [decS] at k; exact ⟨(), k, RepL_nil.1 h⟩
    | cons v r => cases r <;> simp only [decS, decV] at k
  | bool | int _ | slice _ _ | func _ _ _ _ | iface _ _ =>
    intro vs us K h hi k
    match vs, k with
    | [], k => simp only [decS] at k
    | [v], k =>
      simp only [decS] at k
      obtain ⟨x, u, k1, rfl, k2⟩ := one _ _ _ _ h hi k
      exact ⟨x, k1, u, rfl, k2⟩
    | _ :: _ :: _, k => simp only [decS] at k
  | st f _ =>
    intro vs us K h hi k
    match vs, k with
    | [], k => simp only [decS] at k
    | [v], k =>
      simp only [decS] at k
      obtain ⟨x, u, k1, rfl, cs, e, k2⟩ := one _ _ _ _ h hi k
      exact ⟨x, k1, cs, by rw [e], k2⟩
    | _ :: _ :: _, k => simp only [decS] at k
  | tup _ _ | one _ _ _ | alt _ _ _ _ _ =>
    intro vs us K h hi k
    match vs, k with
    | [], k => simp only [decS] at k
    | [v], k => simp only [decS, decV] at k
    | _ :: _ :: _, k => simp only [decS] at k

theorem decE_sound (hF : FrzOK c.P m m' st.hp bk F) (hm : m.le m') (ht : TabOK c.tab m') (s : Shape) : ∀ (vs : List EV) (us : List Value) (K : List s.Val → Prop), RepL c.P m vs (J st.hp bk) us → (∀ i ∈ EV.idsL vs, F i) →
    decE c st s vs K → ∃ xs, K xs ∧ xs.length = us.length ∧ ∀ (i : Nat) x, xs[i]? = some x → ∃ u, us[i]? = some u ∧ (Reps c.P s).V m' x u
  | [], us, K, h, hi, k => by
    rw [RepL_nil.1 h]
    exact ⟨[], k, rfl, fun i x q => by simp at q⟩
  | v :: r, us, K, h, hi, k => by
    simp only [decE] at k
    obtain ⟨u, us', rfl, h1, h2⟩ := RepL_cons.1 h
    obtain ⟨x, k1, k2⟩ := (dec_sound hF hm ht s).1 _ _ _ h1 (fun i q => hi i (by simp [EV.idsL, q])) k
    obtain ⟨xs, l1, l2, l3⟩ := decE_sound hF hm ht s r us' _ h2 (fun i q => hi i (by simp [EV.idsL, q])) k1
    refine ⟨x :: xs, l1, by simp [l2], fun i y hy => ?_⟩
    cases i with
    | zero => simp at hy; subst hy; exact ⟨u, rfl, k2⟩
    | succ i => simp at hy; obtain ⟨u', q1, q2⟩ := l3 i y hy; exact ⟨u', by simpa using q1, q2⟩
end
end Go.Proofs.YtgeefhjlfdidmaaGreatDoor.V


/- Quiet operations: what the condition says of them they do. No condition of its own. -/
namespace Go.Proofs.YtgeefhjlfdidmaaGreatDoor.V
open Go Go.RowKit
set_option linter.unusedVariables false
set_option linter.unusedSimpArgs false

/-- What is left alone: of the temporaries all but W; some blocks; what was known of the abstract heap's words; all memory below n0, and what is to be kept. -/
structure Fx where
  W : List Nat
  tmps : Array Value
  fe : Nat → Option (Ent × Cn)
  gh : EV → Value → Prop
  n0 : Nat
  keep : Nat → Prop
  dfr : List Deferred

def Fx.ok (fx : Fx) (a : Act) (hp : List Ent) (bk : List Cn) : Prop :=
  a.tmps.size = fx.tmps.size ∧ (∀ i, i ∉ fx.W → a.tmps[i]? = fx.tmps[i]?) ∧ (∀ d ∈ fx.W, d < fx.tmps.size) ∧ ∀ (i : Nat) (e : Ent) (k : Cn), fx.fe i = some (e, k) → e.md ≠ .own ∧ hp[i]? = some e ∧ bk[i]? = some k

/-- The model's state is as the abstract one says. -/
structure Sat (c : Cfg) (m0 : Mem) (w0 : World) (fx : Fx) (m : Mem) (bk : List Cn) (st : St) (a : Act) (w : World) : Prop where
  hold : Holds w m
  tab : TabOK c.tab m
  ext : Mem.ext fx.n0 m0 m
  below : Below fx.n0 w0 w
  len : bk.length = st.hp.length
  ents : ∀ (i : Nat) (e : Ent), st.hp[i]? = some e → ∃ k, bk[i]? = some k ∧ SatEnt c.P m fx.n0 w (J st.hp bk) e k
  apart : ∀ (i j b : Nat), (bk[i]?).bind Cn.blk = some b → (bk[j]?).bind Cn.blk = some b → i = j
  env : ∀ i, Rep c.P m (st.env i) (J st.hp bk) (a.tmps.getD i undef)
  defers : a.defers = fx.dfr
  fix : fx.ok a st.hp bk
  gh : ∀ e u, fx.gh e u → J st.hp bk e u
  base : fx.n0 ≤ w0.heap.size
  keep : ∀ b, fx.keep b → b < w0.heap.size ∧ w.heap[b]? = w0.heap[b]? ∧ ∀ i : Nat, (bk[i]?).bind Cn.blk ≠ some b

theorem Sat.n0le {c : Cfg} {m0 : Mem} {w0 : World} {fx : Fx} {m : Mem} {bk : List Cn} {st : St} {a : Act} {w : World} (S : Sat c m0 w0 fx m bk st a w) : fx.n0 ≤ w.heap.size := Nat.le_trans S.base S.below.size

/-- The blocks that are held are as they were. -/
def Same (bk : List Cn) (w w' : World) : Prop := ∀ (i b : Nat), (bk[i]?).bind Cn.blk = some b → w'.heap[b]? = w.heap[b]?

theorem cond_spec {b : Bool} {A B : Prop} (h : cond b A B) : (b = true ∧ A) ∨ (b = false ∧ B) := by cases b <;> simp_all
theorem cond_true' {b : Bool} {A : Prop} (h : cond b A False) : b = true ∧ A := by cases b <;> simp_all

theorem add_none (b o n : Nat) : (⟨b, o, none⟩ : Addr).add n = ⟨b, o + n, none⟩ := Addr.add_mid b o n

section
variable {c : Cfg} {m0 : Mem} {w0 : World} {fx : Fx} {m : Mem} {bk : List Cn} {st : St} {a : Act} {w : World}

theorem cst_rep {P : Program} (v : Value) (JJ : EV → Value → Prop) : Rep P m (cst v) JJ v := by
  cases v <;> exact rfl

theorem RepL_ints {P : Program} (JJ : EV → Value → Prop) : ∀ (l : List Int), RepL P m (l.map fun n => .p (.int .i64) n) JJ (l.map fun n => .int .i64 n)
  | [] => RepL_nil.2 rfl
  | n :: l => RepL_cons.2 ⟨_, _, rfl, rfl, RepL_ints JJ l⟩

theorem ev_sound (S : Sat c m0 w0 fx m bk st a w) (x : Operand) : Rep c.P m (c.ev st x) (J st.hp bk) (a.eval x) := by
  cases x with
  | tmp t => exact S.env t
  | const v => exact cst_rep v _
  | global g =>
    simp only [Cfg.ev]
    split
    · rename_i l hl
      refine ⟨g, 0, l.map fun n => .int .i64 n, rfl, RepL_ints _ l, fun j v hj => ?_⟩
      rw [List.getElem?_map] at hj
      cases hn : l[j]? with
      | none => rw [hn] at hj; cases hj
      | some n =>
        rw [hn] at hj
        rw [Nat.zero_add, S.tab g l hl j n hn]
        exact hj
    · trivial
  | func f => exact ⟨[], [], rfl, RepL_nil.2 rfl, RepL_nil.2 rfl⟩

theorem evs_sound (S : Sat c m0 w0 fx m bk st a w) : ∀ xs : List Operand, RepL c.P m (xs.map (c.ev st)) (J st.hp bk) (xs.map a.eval)
  | [] => RepL_nil.2 rfl
  | x :: r => RepL_cons.2 ⟨_, _, rfl, ev_sound S x, evs_sound S r⟩

/-- A cell of a block that is held. -/
theorem cell_of {w' : World} {b : Nat} {us : Array Value} {T : TypeId} (h : w'.heap[b]? = some (.cells us T (0, 0))) (j : Nat) (v : Value) (hj : us.toList[j]? = some v) : w'.cell? ⟨b, j, none⟩ = some v := by
  simp only [World.cell?, h]
  simpa using hj

theorem Sat.same_of (S : Sat c m0 w0 fx m bk st a w) {w' : World} (hs : Same bk w w') {i : Nat} {k : Cn} {b : Nat} (h1 : bk[i]? = some k) (h2 : k.blk = some b) : w'.heap[b]? = w.heap[b]? :=
  hs i b (by rw [h1]; exact h2)

/-- A pointer's cells, in every world that is alike. -/
theorem ptK_sound (S : Sat c m0 w0 fx m bk st a w) {x : EV} {u : Value} {K : List EV → Nat → Prop} (h : Rep c.P m x (J st.hp bk) u) (k : Cfg.ptK st x K) :
    ∃ cs off b o us, K cs off ∧ u = .pointer (some ⟨b, o + off, none⟩) ∧ RepL c.P m cs (J st.hp bk) us ∧
      ∀ w', Same bk w w' → Holds w' m → ∀ j v, us[j]? = some v → w'.cell? ⟨b, o + j, none⟩ = some v := by
  unfold Cfg.ptK at k
  split at k
  · rename_i cs off
    obtain ⟨b, o, us, e1, e2, e3⟩ := h
    exact ⟨cs, off, b, o, us, k, e1, RepL_mono (Mem.le_refl m) cs (fun _ _ q => q.elim) e2, fun w' _ hh j v hj => hh _ _ _ (e3 j v hj)⟩
  · rename_i id off
    obtain ⟨_, b, h1, _, h2, h3⟩ := h
    split at k
    · rename_i md cs hh
      rw [hh] at h1; cases h1
      obtain ⟨q, q1, q2⟩ := S.ents id _ hh
      rw [h2] at q1; cases q1
      obtain ⟨us, T, e1, e2, _⟩ := q2
      refine ⟨cs, off, b, 0, us.toList, k, by rw [Nat.zero_add]; exact h3, e2, fun w' hs _ j v hj => ?_⟩
      rw [Nat.zero_add]
      exact cell_of ((S.same_of hs h2 rfl).trans e1) j v hj
    · exact k.elim
  · rename_i id ver kk off
    split at k
    · rename_i md v e s xs he
      obtain ⟨hb, k2⟩ := cond_true' k
      have hv := (Nat.eq_of_beq_eq_true hb).symm
      obtain ⟨md', v', e', s', xs', cv, h1, h2, h3, h4⟩ := h
      rw [he] at h1; cases h1
      obtain ⟨g, n, cap, h5, h6, h7⟩ := h4 hv
      subst h5
      obtain ⟨q, q1, q2⟩ := S.ents id _ he
      rw [h2] at q1; cases q1
      obtain ⟨cs, r1, r2, _⟩ := q2
      have hx : xs[kk]? = some (rd s xs kk) := by
        unfold rd
        rw [List.getD_eq_getElem?_getD, List.getElem?_eq_getElem h7]
        rfl
      obtain ⟨d, d1, d2⟩ := RowRep_get r1 hx
      refine ⟨_, off, g, kk * s.size, d, k2, h6, RepL_cells s _ d1, fun w' hs _ j v hj => ?_⟩
      rcases r2.2 with ⟨hn, _⟩ | ⟨g', cap', cur, e1, e2, e3, e4, e5, e6, e7⟩
      · cases hn
      · simp only [Value.slice.injEq, Option.some.injEq, Addr.mk.injEq, and_true, true_and] at e1
        obtain ⟨rfl, _, _⟩ := e1
        refine cell_of ((S.same_of hs h2 rfl).trans e3) _ _ ?_
        have hj' := hj
        rw [← d2, List.getElem?_take] at hj'
        split at hj'
        · rw [List.getElem?_drop, ← e7, List.getElem?_take] at hj'
          split at hj'
          · exact hj'
          · cases hj'
        · cases hj'
    · exact k.elim
  · exact k.elim

theorem ble_le {a b : Nat} (h : Nat.ble a b = true) : a ≤ b := Nat.le_of_ble_eq_true h

theorem cellsOf_pos {P : Program} {t : TypeId} (h : 1 ≤ P.cellsOf t) : ∃ i, P.info? t = some i ∧ i.size = P.cellsOf t := by
  unfold Program.cellsOf at *
  cases hi : P.info? t with
  | none => simp [hi] at h
  | some i => exact ⟨i, rfl, by simp⟩

/-- What a load reads, out of cells that are there. -/
theorem ldK_sound {t : TypeId} {cs : List EV} {off : Nat} {K : EV → Prop} {us : List Value} {JJ : EV → Value → Prop} {b o : Nat} (k : c.ldK t cs off K) (h : RepL c.P m cs JJ us) :
    ∃ v u, K v ∧ Rep c.P m v JJ u ∧ ∀ w' : World, (∀ j v, us[j]? = some v → w'.cell? ⟨b, o + j, none⟩ = some v) → (Instr.loadAt t (.pointer (some ⟨b, o + off, none⟩))).run c.P w' = .ok u w' := by
  have agg : ∀ d, c.P.underlying t = some d → d.isRow = true → off + c.sizeOf t ≤ cs.length → K (.agg ((cs.drop off).take (c.sizeOf t))) →
      ∃ v u, K v ∧ Rep c.P m v JJ u ∧ ∀ w' : World, (∀ j v, us[j]? = some v → w'.cell? ⟨b, o + j, none⟩ = some v) → (Instr.loadAt t (.pointer (some ⟨b, o + off, none⟩))).run c.P w' = .ok u w' := by
    intro d hu hd hl k
    have hlen := RepL_length h
    refine ⟨_, .agg ((us.drop off).take (c.sizeOf t)).toArray, k, ⟨_, rfl, RepL_take _ (RepL_drop _ h)⟩, fun w' hw => ?_⟩
    obtain ⟨i, hi⟩ := info_of_underlying hu
    have hsz : (c.P.info? t).map (·.size) = some ((us.drop off).take (c.sizeOf t)).length := by
      rw [List.length_take, List.length_drop, Nat.min_eq_left (by omega), hi]
      simp [Cfg.sizeOf, Program.cellsOf, hi]
    refine run_loadAt_mid w' b (o + off) t _ d (fun j v hj => ?_) hu hd hsz
    rw [List.getElem?_take] at hj
    split at hj
    · rw [List.getElem?_drop] at hj
      rw [Nat.add_assoc]
      exact hw _ _ hj
    · cases hj
  unfold Cfg.ldK at k
  split at k
  · rename_i hu; obtain ⟨hb, k⟩ := cond_true' k; exact agg _ hu rfl (ble_le hb) k
  · rename_i hu; obtain ⟨hb, k⟩ := cond_true' k; exact agg _ hu rfl (ble_le hb) k
  · rename_i d hn1 hn2 hu
    unfold atK at k
    split at k
    · rename_i v hv
      obtain ⟨u, hu1, hu2⟩ := RepL_get h hv
      refine ⟨v, u, k, hu2, fun w' hw => ?_⟩
      have hc := hw _ _ hu1
      have hagg : (isAgg t).run c.P w' = .ok false w' := by
        simp only [isAgg, Sem.run_bind, run_underlying hu, Result.andThen_ok]
        cases d <;> first | rfl | exact absurd hu (hn1 _) | exact absurd hu (hn2 _ _)
      simp only [Instr.loadAt, Instr.sureAddr, Sem.run_bind, Sem.run_pure, Result.andThen_ok, loadVar, hagg, Bool.false_eq_true, if_false, run_load, hc]
    · exact k.elim
  · exact k.elim

theorem fwd_sound {x : EV} {u : Value} (n : Nat) (h : Rep c.P m x (J st.hp bk) u) (hp : isPt st x = true) : ∃ b o, u = .pointer (some ⟨b, o, none⟩) ∧ Rep c.P m (x.fwd n) (J st.hp bk) (.pointer (some ⟨b, o + n, none⟩)) := by
  cases x <;> simp only [isPt, Bool.false_eq_true] at hp
  case ip cs off =>
    obtain ⟨b, o, us, e1, e2, e3⟩ := h
    exact ⟨b, o + off, e1, b, o, us, by rw [Nat.add_assoc], e2, e3⟩
  case box id off =>
    obtain ⟨e, b, h1, hb, h2, h3⟩ := h
    exact ⟨b, off, h3, e, b, h1, hb, h2, rfl⟩
  case rp id ver k off =>
    obtain ⟨md, v, e, s, xs, cv, h1, h2, h3, h4⟩ := h
    simp only [h1] at hp
    obtain ⟨g, n', cap, h5, h6, h7⟩ := h4 (Nat.eq_of_beq_eq_true hp).symm
    exact ⟨g, k * s.size + off, h6, md, v, e, s, xs, cv, h1, h2, h3, fun _ => ⟨g, n', cap, h5, by rw [Nat.add_assoc], h7⟩⟩

/-- A slice, as a value: in every world that is alike. -/
theorem intsOf_spec {k : IntKind} : ∀ {cs : List EV} {l : List Int} {us : List Value} {JJ : EV → Value → Prop}, intsOf k cs = some l → RepL c.P m cs JJ us → us = l.map fun n => .int k n
  | [], l, us, JJ, h, r => by
    simp only [intsOf, Option.some.injEq] at h
    subst h
    rw [RepL_nil.1 r]; rfl
  | v :: cs, l, us, JJ, h, r => by
    obtain ⟨u, us', rfl, h1, h2⟩ := RepL_cons.1 r
    cases v with
    | p s x =>
      cases s with
      | int k' =>
        simp only [intsOf] at h
        split at h
        · rename_i e
          subst e
          cases hr : intsOf k' cs with
          | none => rw [hr] at h; cases h
          | some q =>
            rw [hr] at h
            simp only [Option.map_some, Option.some.injEq] at h
            subst h
            rw [intsOf_spec hr h2, show u = .int k' x from h1]
            rfl
        · cases h
      | _ => simp [intsOf] at h
    | _ => simp [intsOf] at h
end
end Go.Proofs.YtgeefhjlfdidmaaGreatDoor.V


/- Operations on values: what the condition says of them they do. No condition of its own. -/
namespace Go.Proofs.YtgeefhjlfdidmaaGreatDoor.V
open Go Go.RowKit
set_option linter.unusedVariables false
set_option linter.unusedSimpArgs false

section
variable {P : Program} {m : Mem} {JJ : EV → Value → Prop}

theorem run_eqGuard_int (op : BinOp) (t : TypeId) (x y : Operand) (k k' : IntKind) (p q : Int) (w : World) : (eqGuard op t x y (.int k p) (.int k' q)).run P w = .ok () w := by
  cases op <;> simp [eqGuard]

theorem run_eqGuard_bool (op : BinOp) (t : TypeId) (x y : Operand) (p q : Bool) (w : World) : (eqGuard op t x y (.bool p) (.bool q)).run P w = .ok () w := by
  cases op <;> simp [eqGuard]

theorem beq_int (a b : Int) : (a == b) = decide (a = b) := rfl
theorem bne_int (a b : Int) : (a != b) = !decide (a = b) := rfl
theorem beq_bool (a b : Bool) : (a == b) = decide (a = b) := by cases a <;> cases b <;> rfl

theorem shift_min (n : Nat) (b : Nat) (h : (n : Int) < (b : Int)) : min n b = n := by omega

/-- Two numbers. -/
theorem binInt_sound {c : Cfg} {op : BinOp} {t : TypeId} {k k' : IntKind} {p q : Int} {yc : Bool} {K : EV → Prop} (h : c.binK op t (.p (.int k) p) (.p (.int k') q) yc K) :
    ∃ v u, K v ∧ Rep c.P m v JJ u ∧ ∀ w : World, (binOp op t (.int k p) (.int k' q)).run c.P w = .ok u w := by
  have hk : ∀ {A : Prop}, (if k = k' then A else False) → k = k' ∧ A := fun h => by split at h <;> simp_all
  simp only [Cfg.binK] at h
  cases op <;> dsimp only at h
  case shl =>
    obtain ⟨⟨h1, h2⟩, h⟩ := h
    have h1' : (0 : Int) ≤ q := h1
    have h2' : q < (k.bits : Int) := h2
    have hm : min q.toNat k.bits = q.toNat := by omega
    exact ⟨_, _, h, rfl, fun w => by simp [binOp, Op.shift, Int.not_lt.2 h1', hm]⟩
  case shr =>
    obtain ⟨⟨h1, h2⟩, h⟩ := h
    have h1' : (0 : Int) ≤ q := h1
    have h2' : q < (k.bits : Int) := h2
    have hm : min q.toNat k.bits = q.toNat := by omega
    exact ⟨_, _, h, rfl, fun w => by simp [binOp, Op.shift, Int.not_lt.2 h1', hm]⟩
  case quo =>
    obtain ⟨rfl, hb, h2⟩ := hk h
    exact ⟨_, _, h2, rfl, fun w => by simp [binOp, Op.intDiv, hb]⟩
  case rem =>
    obtain ⟨rfl, hb, h2⟩ := hk h
    exact ⟨_, _, h2, rfl, fun w => by simp [binOp, Op.intDiv, hb]⟩
  all_goals
    obtain ⟨rfl, h2⟩ := hk h
    refine ⟨_, _, h2, rfl, fun w => ?_⟩
    first
      | (simp [binOp, Op.intArith]; done)
      | (simp [binOp, Op.intBits]; done)
      | (simp [binOp, Op.intCmp, beq_int, bne_int]; done)
      | (simp only [binOp, Op.intCmp]; simp)

theorem binBool_sound {c : Cfg} {op : BinOp} {t : TypeId} {p q : Bool} {yc : Bool} {K : EV → Prop} (h : c.binK op t (.p .bool p) (.p .bool q) yc K) :
    ∃ v u, K v ∧ Rep c.P m v JJ u ∧ ∀ w : World, (binOp op t (.bool p) (.bool q)).run c.P w = .ok u w := by
  simp only [Cfg.binK] at h
  split at h
  · rename_i hu
    exact ⟨_, _, h, rfl, fun w => by simp [binOp, Op.equal, Op.maxDepth, run_equalIn_bool w _ t p q hu, beq_bool]⟩
  · rename_i hu
    exact ⟨_, _, h, rfl, fun w => by simp [binOp, Op.equal, Op.maxDepth, run_equalIn_bool w _ t p q hu, beq_bool]⟩
  · exact h.elim

/-! ### Structs of numbers and bools -/

theorem kindOK_bool {d : Option TypeDesc} {x : Bool} (h : kindOK d (.p .bool x) = true) : d = some .bool := by
  cases d with
  | none => simp [kindOK] at h
  | some d => cases d <;> simp [kindOK] at h; rfl

theorem kindOK_int {d : Option TypeDesc} {k : IntKind} {x : Int} (h : kindOK d (.p (.int k) x) = true) : ∃ k', d = some (.int k') := by
  cases d with
  | none => simp [kindOK] at h
  | some d => cases d <;> simp [kindOK] at h; exact ⟨_, rfl⟩

/-- One cell against another. -/
theorem eqK_sound {c : Base} {f : Field} {a b : EV} {u v : Value} {K : Bool → Prop} (h : eqK a b K) (ha : Rep c.P m a JJ u) (hb : Rep c.P m b JJ v)
    (ht : kindOK (c.P.underlying f.type) a = true) :
    ∃ r, K r ∧ ∀ (d : Nat) (w : World), (Op.equalIn (d + 1) f.type u v).run c.P w = .ok r w ∧ (isAgg f.type).run c.P w = .ok false w := by
  unfold eqK at h
  split at h
  · rename_i x y
    obtain rfl : u = .bool x := ha
    obtain rfl : v = .bool y := hb
    have hu := kindOK_bool ht
    exact ⟨_, h, fun d w => ⟨by rw [run_equalIn_bool w d _ x y hu, beq_bool], by simp [isAgg, run_underlying hu]⟩⟩
  · rename_i k x k' y
    split at h
    · rename_i e
      subst e
      obtain rfl : u = .int k x := ha
      obtain rfl : v = .int k y := hb
      obtain ⟨k2, hu⟩ := kindOK_int ht
      exact ⟨_, h, fun d w => ⟨by rw [run_equalIn_int w d _ k k2 x y hu]; rfl, by simp [isAgg, run_underlying hu]⟩⟩
    · exact h.elim
  · exact h.elim

theorem run_part {P : Program} {e : TypeId} {w : World} (h : (isAgg e).run P w = .ok false w) {xs : Array Value} {off : Nat} {v : Value} (hx : xs[off]? = some v) : (part e xs off).run P w = .ok v w := by
  simp [part, h, hx]

theorem eqL_sound {c : Base} {us vs : List Value} : ∀ (fs : List Field) (o : Nat) (cs ds : List EV) (K : Bool → Prop), c.fieldEV fs o cs = true → RepL c.P m cs JJ (us.drop o) → RepL c.P m ds JJ (vs.drop o) → eqLK cs ds K →
    ∃ r, K r ∧ ∀ (d : Nat) (w : World), (Op.eqFields (d + 1) us.toArray vs.toArray fs).run c.P w = .ok r w
  | [], o, cs, ds, K, hf, h1, h2, h => by
    cases cs with
    | nil =>
      cases ds with
      | nil => exact ⟨true, h, fun d w => by simp [Op.eqFields]⟩
      | cons _ _ => exact h.elim
    | cons _ _ => simp [Base.fieldEV] at hf
  | f :: fs, o, cs, ds, K, hf, h1, h2, h => by
    cases cs with
    | nil => simp [Base.fieldEV] at hf
    | cons a cs =>
      simp only [Base.fieldEV, Bool.and_eq_true] at hf
      obtain ⟨⟨⟨hn, ho⟩, ht⟩, hf⟩ := hf
      have ho' := Nat.eq_of_beq_eq_true ho
      have hn' : f.name ≠ "_" := by simpa using hn
      cases ds with
      | nil => cases cs <;> exact h.elim
      | cons b ds =>
        obtain ⟨u, us', e1, r1, r2⟩ := RepL_cons.1 h1
        obtain ⟨v, vs', e2, q1, q2⟩ := RepL_cons.1 h2
        have hu : us.toArray[f.offset]? = some u := by
          rw [ho']
          have : (us.drop o)[0]? = some u := by rw [e1]; rfl
          simpa using this
        have hv : vs.toArray[f.offset]? = some v := by
          rw [ho']
          have : (vs.drop o)[0]? = some v := by rw [e2]; rfl
          simpa using this
        have d1 : us.drop (o + 1) = us' := by rw [← List.drop_drop, e1]; rfl
        have d2 : vs.drop (o + 1) = vs' := by rw [← List.drop_drop, e2]; rfl
        have step : ∀ (r q : Bool), (∀ (d : Nat) (w : World), (Op.equalIn (d + 1) f.type u v).run c.P w = .ok r w ∧ (isAgg f.type).run c.P w = .ok false w) → (∀ (d : Nat) (w : World), (Op.eqFields (d + 1) us.toArray vs.toArray fs).run c.P w = .ok q w) →
            ∀ (d : Nat) (w : World), (Op.eqFields (d + 1) us.toArray vs.toArray (f :: fs)).run c.P w = .ok (r && q) w := by
          intro r q hr hq d w
          obtain ⟨x1, x2⟩ := hr d w
          simp only [Op.eqFields, if_pos hn', Sem.run_bind, run_part x2 hu, run_part x2 hv, Result.andThen_ok, x1]
          cases r <;> simp [hq d w]
        cases cs with
        | nil =>
          cases ds with
          | nil =>
            simp only [eqLK] at h
            obtain ⟨r, k1, k2⟩ := eqK_sound h r1 q1 ht
            cases fs with
            | nil =>
              have := step r true k2 (fun d w => by simp [Op.eqFields])
              exact ⟨r, k1, fun d w => by simpa using this d w⟩
            | cons _ _ => simp [Base.fieldEV] at hf
          | cons _ _ =>
            simp only [eqLK] at h
            obtain ⟨r, k1, k2⟩ := eqK_sound h r1 q1 ht
            exact k1.elim
        | cons a' cs =>
          have h' : eqK a b fun x => eqLK (a' :: cs) ds fun y => K (x && y) := by
            cases ds <;> exact h
          obtain ⟨r, k1, k2⟩ := eqK_sound h' r1 q1 ht
          obtain ⟨q, l1, l2⟩ := eqL_sound fs (o + 1) (a' :: cs) ds _ hf (by rw [d1]; exact r2) (by rw [d2]; exact q2) k1
          exact ⟨r && q, l1, step r q k2 l2⟩

theorem binAgg_sound {c : Cfg} {op : BinOp} {t : TypeId} {xs ys : List EV} {us vs : List Value} {yc : Bool} {K : EV → Prop} (h : c.binK op t (.agg xs) (.agg ys) yc K) (h1 : RepL c.P m xs JJ us) (h2 : RepL c.P m ys JJ vs) (ox oy : Operand) :
    ∃ v u, K v ∧ Rep c.P m v JJ u ∧ ∀ w : World, (do eqGuard op t ox oy (.agg us.toArray) (.agg vs.toArray); binOp op t (.agg us.toArray) (.agg vs.toArray)).run c.P w = .ok u w := by
  simp only [Cfg.binK] at h
  obtain ⟨hp, h⟩ := cond_true' h
  unfold Base.plainEq at hp
  split at hp
  · rename_i fs hu
    simp only [Bool.and_eq_true, Bool.not_eq_true'] at hp
    obtain ⟨⟨hs, hg⟩, hf⟩ := hp
    have hfs : c.P.fieldsOf t = fs := by simp [Program.fieldsOf, hu]
    have run : ∀ r, (∀ (d : Nat) (w : World), (Op.eqFields (d + 1) us.toArray vs.toArray fs.toList).run c.P w = .ok r w) → ∀ w : World, (Op.equalIn 10000 t (.agg us.toArray) (.agg vs.toArray)).run c.P w = .ok r w := by
      intro r hr w
      rw [run_equalIn_struct w 9999 t _ _ (by rw [hfs]; exact hu) hs, hfs]
      exact hr 9998 w
    split at h
    · obtain ⟨r, k1, k2⟩ := eqL_sound fs.toList 0 xs ys _ hf h1 h2 h
      exact ⟨_, _, k1, rfl, fun w => by simp only [Sem.run_bind, run_eqGuard_agg w _ t ox oy _ _ hg, Result.andThen_ok, run_eql_struct, run r k2 w]⟩
    · obtain ⟨r, k1, k2⟩ := eqL_sound fs.toList 0 xs ys _ hf h1 h2 h
      exact ⟨_, _, k1, rfl, fun w => by simp only [Sem.run_bind, run_eqGuard_agg w _ t ox oy _ _ hg, Result.andThen_ok, run_neq_struct, run r k2 w]⟩
    · exact h.elim
  · cases hp

/-- Any two values. -/
theorem bin_sound {c : Cfg} {op : BinOp} {t : TypeId} {x y : EV} {u v : Value} {oy : Operand} {K : EV → Prop} (h : c.binK op t x y (isConst oy) K) (hx : Rep c.P m x JJ u) (hy : Rep c.P m y JJ v) (ox : Operand) :
    ∃ e q, K e ∧ Rep c.P m e JJ q ∧ ∀ w : World, (do eqGuard op t ox oy u v; binOp op t u v).run c.P w = .ok q w := by
  unfold Cfg.binK at h
  split at h
  · rename_i k p k' q
    obtain rfl : u = .int k p := hx
    obtain rfl : v = .int k' q := hy
    obtain ⟨e, r, h1, h2, h3⟩ := binInt_sound (c := c) (m := m) (JJ := JJ) (t := t) (yc := isConst oy) (op := op) (K := K) (by unfold Cfg.binK; exact h)
    exact ⟨e, r, h1, h2, fun w => by simp only [Sem.run_bind, run_eqGuard_int, Result.andThen_ok, h3 w]⟩
  · rename_i p q
    obtain rfl : u = .bool p := hx
    obtain rfl : v = .bool q := hy
    obtain ⟨e, r, h1, h2, h3⟩ := binBool_sound (c := c) (m := m) (JJ := JJ) (t := t) (yc := isConst oy) (op := op) (K := K) (by unfold Cfg.binK; exact h)
    exact ⟨e, r, h1, h2, fun w => by simp only [Sem.run_bind, run_eqGuard_bool, Result.andThen_ok, h3 w]⟩
  · rename_i xs ys
    obtain ⟨us, rfl, h1⟩ := hx
    obtain ⟨vs, rfl, h2⟩ := hy
    exact binAgg_sound (c := c) (op := op) (t := t) (yc := isConst oy) (by unfold Cfg.binK; exact h) h1 h2 ox oy
  · rename_i al p
    obtain ⟨hc, h⟩ := cond_true' h
    obtain rfl : v = .nilIface := hy
    have hg : ∀ w, (eqGuard op t ox oy u .nilIface).run c.P w = .ok () w := by
      intro w
      cases oy <;> simp only [isConst, Bool.false_eq_true] at hc
      unfold eqGuard
      cases op <;> cases u <;> simp
    have run : ∀ ms, c.P.underlying t = some (.interface ms) → ∀ w, (Op.equal t u .nilIface).run c.P w = .ok p.isNone w := by
      intro ms hu w
      have hu2 : c.P.underlying t = some (.interface (c.P.methodsAt t)) := by rw [hu]; simp [Program.methodsAt, hu]
      cases p with
      | none =>
        obtain rfl : u = .nilIface := hx
        exact run_equalIn_nil_nil w 9999 t hu2
      | some y =>
        obtain ⟨t', v', rfl, _⟩ := hx
        exact run_equalIn_held_nil w 9999 t t' v' hu2
    have hu' : u = .nilIface ∨ ∃ t' v', u = .iface t' v' := by
      cases p with
      | none => exact .inl hx
      | some y => obtain ⟨t', v', q, _⟩ := hx; exact .inr ⟨t', v', q⟩
    split at h
    · rename_i ms hu hh
      refine ⟨_, _, h, rfl, fun w => ?_⟩
      simp only [Sem.run_bind, hg w, Result.andThen_ok]
      rcases hu' with rfl | ⟨t', v', rfl⟩ <;> simp only [binOp, Sem.run_bind, run ms hu w, Result.andThen_ok, Sem.run_pure]
    · rename_i ms hu hh
      refine ⟨_, _, h, rfl, fun w => ?_⟩
      simp only [Sem.run_bind, hg w, Result.andThen_ok]
      rcases hu' with rfl | ⟨t', v', rfl⟩ <;> simp only [binOp, Sem.run_bind, run ms hu w, Result.andThen_ok, Sem.run_pure]
    · exact h.elim
  · rename_i p q
    obtain rfl : u = .string p := hx
    obtain rfl : v = .string q := hy
    have e : (p.toList == q.toList) = strE p q := by rw [ByteArray.toList_eq, ByteArray.toList_eq, Bool.eq_iff_iff, beq_iff_eq, strE, decide_eq_true_iff]
    have hg : ∀ w, (eqGuard op t ox oy (.string p) (.string q)).run c.P w = .ok () w := fun w => by cases op <;> simp [eqGuard]
    split at h
    · exact ⟨_, _, h, rfl, fun w => by simp only [Sem.run_bind, hg w, Result.andThen_ok, binOp, Op.stringOp, e, Sem.run_pure]⟩
    · exact ⟨_, _, h, rfl, fun w => by simp only [Sem.run_bind, hg w, Result.andThen_ok, binOp, Op.stringOp, e, Sem.run_pure]⟩
    · exact h.elim
  · rename_i sh xs
    obtain ⟨base, cap, rfl, _, hx2⟩ := hx
    obtain rfl : v = .slice none 0 0 := hy
    split at h
    · rename_i e hu
      have hb : base.isNone = true → xs = [] := fun hn => by
        rcases hx2 with q | ⟨b, o, q, _⟩
        · exact q
        · rw [q] at hn; cases hn
      refine ⟨_, _, h base.isNone hb, rfl, fun w => ?_⟩
      have hg : (eqGuard .eql t ox oy (.slice base xs.length cap) (.slice none 0 0)).run c.P w = .ok () w := by
        unfold eqGuard
        rfl
      have he : (Op.equal t (.slice base xs.length cap) (.slice none 0 0)).run c.P w = .ok base.isNone w := by
        unfold Op.equal Op.maxDepth Op.equalIn
        cases base <;> simp [run_underlying hu]
      simp only [Sem.run_bind, hg, Result.andThen_ok, binOp, he, Sem.run_pure]
    · exact h.elim
  · exact h.elim
end
end Go.Proofs.YtgeefhjlfdidmaaGreatDoor.V


/- Quiet operations: the model does what the condition says. No condition of its own. -/
namespace Go.Proofs.YtgeefhjlfdidmaaGreatDoor.V
open Go Go.RowKit
set_option linter.unusedVariables false
set_option linter.unusedSimpArgs false

section
variable {c : Cfg} {m0 : Mem} {w0 : World} {fx : Fx} {m : Mem} {bk : List Cn} {st : St} {a : Act} {w : World}

/-- What is so of a quiet operation ('ld': it reads memory). -/
def Yld (ld : Bool) (c : Cfg) (m : Mem) (bk : List Cn) (st : St) (w : World) (K : EV → Prop) (s : Sem Value) : Prop :=
  ∃ v u, K v ∧ Rep c.P m v (J st.hp bk) u ∧ ∀ w', (ld = true → Same bk w w' ∧ Holds w' m) → s.run c.P w' = .ok u w'

theorem Yld.of {K : EV → Prop} {s : Sem Value} {v : EV} {u : Value} (h1 : K v) (h2 : Rep c.P m v (J st.hp bk) u) (h3 : ∀ w', s.run c.P w' = .ok u w') : Yld false c m bk st w K s := ⟨v, u, h1, h2, fun w' _ => h3 w'⟩

theorem pickK_sound {z : Bool} {x y : EV} {K : EV → Prop} {u1 u2 : Value} {JJ : EV → Value → Prop} (h : pickK z x y K) (h1 : Rep c.P m x JJ u1) (h2 : Rep c.P m y JJ u2) : ∃ v, K v ∧ Rep c.P m v JJ (if z = true then u1 else u2) := by
  unfold pickK at h
  split at h
  · rename_i p q
    refine ⟨_, h, ?_⟩
    cases z
    · exact h2
    · exact h1
  · cases z
    · exact ⟨_, h, h2⟩
    · exact ⟨_, h, h1⟩

theorem load_sound (S : Sat c m0 w0 fx m bk st a w) {t : TypeId} {x : EV} {u : Value} {K : EV → Prop} (hx : Rep c.P m x (J st.hp bk) u) (k : Cfg.ptK st x fun cs off => c.ldK t cs off K) :
    Yld true c m bk st w K (Instr.loadAt t u) := by
  obtain ⟨cs, off, b, o, us, k1, e1, e2, e3⟩ := ptK_sound S hx k
  subst e1
  obtain ⟨v, q, l1, l2, l3⟩ := ldK_sound (b := b) (o := o) k1 e2
  exact ⟨v, q, l1, l2, fun w' h => l3 w' (e3 w' (h rfl).1 (h rfl).2)⟩

theorem field_sound {s : TypeId} {x : EV} {u : Value} {f : Nat} {fs : Array Field} {fd : Field} {K : EV → Prop} (hx : Rep c.P m x (J st.hp bk) u) (hu : c.P.underlying s = some (.struct fs)) (hf : fs[f]? = some fd)
    (h1 : isPt st x = true) (h2 : 1 ≤ c.sizeOf fd.type) (k : K (x.fwd fd.offset)) : Yld false c m bk st w K (Instr.fieldAt s u f) := by
  obtain ⟨b, o, e1, e2⟩ := fwd_sound fd.offset hx h1
  subst e1
  obtain ⟨i, hi, hsz⟩ := cellsOf_pos h2
  have hne : i.size ≠ 0 := by rw [hsz]; exact Nat.pos_iff_ne_zero.1 h2
  refine .of k e2 fun w' => ?_
  simp [Instr.fieldAt, run_underlying hu, hf, Instr.sureAddr, fieldPlace, sizeOf, run_typeInfo w' hi, hne, add_none]

theorem part_sound {t : TypeId} {cs : List EV} {off : Nat} {K : EV → Prop} {us : List Value} {JJ : EV → Value → Prop} (k : c.ldK t cs off K) (h : RepL c.P m cs JJ us) :
    ∃ v u, K v ∧ Rep c.P m v JJ u ∧ ∀ w' : World, (part t us.toArray off).run c.P w' = .ok u w' := by
  have agg : ∀ d, c.P.underlying t = some d → d.isRow = true → off + c.sizeOf t ≤ cs.length → K (.agg ((cs.drop off).take (c.sizeOf t))) →
      ∃ v u, K v ∧ Rep c.P m v JJ u ∧ ∀ w' : World, (part t us.toArray off).run c.P w' = .ok u w' := by
    intro d hu hd hl k
    refine ⟨_, .agg ((us.drop off).take (c.sizeOf t)).toArray, k, ⟨_, rfl, RepL_take _ (RepL_drop _ h)⟩, fun w' => ?_⟩
    obtain ⟨i, hi⟩ := info_of_underlying hu
    have hagg : (isAgg t).run c.P w' = .ok true w' := by
      simp only [isAgg, Sem.run_bind, run_underlying hu, Result.andThen_ok]
      cases d <;> first | rfl | (simp [TypeDesc.isRow] at hd; done)
    have he : us.toArray.extract off (off + c.sizeOf t) = ((us.drop off).take (c.sizeOf t)).toArray := by
      simp [List.extract_eq_take_drop]
    simp only [part, Sem.run_bind, hagg, Result.andThen_ok, if_true, run_sizeOf w' hi, Sem.run_pure]
    rw [show c.P.cellsOf t = c.sizeOf t from rfl, he]
  unfold Cfg.ldK at k
  split at k
  · rename_i hu; obtain ⟨hb, k⟩ := cond_true' k; exact agg _ hu rfl (ble_le hb) k
  · rename_i hu; obtain ⟨hb, k⟩ := cond_true' k; exact agg _ hu rfl (ble_le hb) k
  · rename_i d hn1 hn2 hu
    unfold atK at k
    split at k
    · rename_i v hv
      obtain ⟨u, hu1, hu2⟩ := RepL_get h hv
      refine ⟨v, u, k, hu2, fun w' => ?_⟩
      have hagg : (isAgg t).run c.P w' = .ok false w' := by
        simp only [isAgg, Sem.run_bind, run_underlying hu, Result.andThen_ok]
        cases d <;> first | rfl | exact absurd hu (hn1 _) | exact absurd hu (hn2 _ _)
      exact run_part hagg (by simpa using hu1)
    · exact k.elim
  · exact k.elim

theorem rd_get {s : Shape} {xs : List s.Val} {n : Nat} (h : n < xs.length) : xs[n]? = some (rd s xs n) := by
  unfold rd
  rw [List.getD_eq_getElem?_getD, List.getElem?_eq_getElem h]
  rfl

/-- A row's slice value. -/
theorem Sat.rowVal (S : Sat c m0 w0 fx m bk st a w) {id ver : Nat} {md : Md} {v : Nat} {e : TypeId} {s : Shape} {xs : List s.Val} {u : Value} (he : st.hp[id]? = some (.row md v e s xs)) (hv : v = ver) (h : J st.hp bk (.row id ver) u) :
    bk[id]? = some (.row u) ∧ ∃ cs, RowRep c.P m s xs cs ∧ w.ownsRow fx.n0 e s.size u xs.length cs := by
  obtain ⟨md', v', e', s', xs', cv, h1, h2, h3, h4⟩ := h
  rw [he] at h1; cases h1
  have := h4 hv.symm
  subst this
  obtain ⟨q, q1, q2⟩ := S.ents id _ he
  rw [h2] at q1; cases q1
  obtain ⟨cs, r1, r2, _⟩ := q2
  exact ⟨h2, cs, r1, r2⟩

theorem slK_len (S : Sat c m0 w0 fx m bk st a w) {v : EV} {u : Value} {K : (s : Shape) → List s.Val → Prop} (h : Rep c.P m v (J st.hp bk) u) (k : slK st v K) :
    ∃ s xs base cap, K s xs ∧ u = .slice base xs.length cap := by
  unfold slK at k
  split at k
  · obtain ⟨base, cap, hu, _, _⟩ := h
    exact ⟨_, _, base, cap, k, hu⟩
  · exact ⟨_, _, none, 0, k, h⟩
  · rename_i id ver
    split at k
    · rename_i md v e s xs he
      obtain ⟨hb, k2⟩ := cond_true' k
      obtain ⟨_, cs, _, ho⟩ := S.rowVal he (Nat.eq_of_beq_eq_true hb) h
      rcases ho.2 with ⟨h1, h2⟩ | ⟨g, cap, cur, h1, _⟩
      · exact ⟨s, xs, none, 0, k2, by rw [h1, h2]⟩
      · exact ⟨s, xs, _, cap, k2, h1⟩
    · exact k.elim
  · exact k.elim

theorem beq_eq {a b : Nat} (h : Nat.beq a b = true) : a = b := Nat.eq_of_beq_eq_true h

theorem run_sizeOf' {P : Program} {t : TypeId} (w : World) (h : 1 ≤ P.cellsOf t) : (sizeOf t).run P w = .ok (P.cellsOf t) w := by
  obtain ⟨i, hi, _⟩ := cellsOf_pos h
  exact run_sizeOf w hi

theorem run_sizeOf_und {P : Program} {t : TypeId} {d : TypeDesc} (w : World) (h : P.underlying t = some d) : (sizeOf t).run P w = .ok (P.cellsOf t) w := by
  obtain ⟨i, hi⟩ := info_of_underlying h
  exact run_sizeOf w hi

theorem elem_eq {P : Program} {t e : TypeId} (h : P.underlying t = some (.slice e)) : P.elem t = e := by simp [Program.elem, h]

/-- An element's place in a slice that nobody writes. -/
theorem index_slice {t e : TypeId} {s : Shape} {xs : List s.Val} {u : Value} {k : IntKind} {n : Int} {K : EV → Prop} (hu : c.P.underlying t = some (.slice e)) (hsz : c.sizeOf e = s.size) (hpos : 1 ≤ s.size) (h : (Reps c.P (.slice s)).V m xs u)
    (h0 : 0 ≤ n) (h1 : n < (xs.length : Int)) (kk : K (.ip (s.cellsE (rd s xs n.toNat)) 0)) : Yld false c m bk st w K (Instr.indexAt t u (.int k n)) := by
  obtain ⟨base, cap, rfl, hcap, hx⟩ := h
  have hn : n.toNat < xs.length := by omega
  rcases hx with hx | ⟨b, o, rfl, hx⟩
  · subst hx; simp at hn
  · obtain ⟨us, e1, e2⟩ := hx n.toNat _ (rd_get hn)
    refine .of kk ⟨b, o + n.toNat * s.size, us, rfl, RepL_cells s _ e1, fun j v hj => e2 j v hj⟩ fun w' => ?_
    have hE : 1 ≤ c.P.cellsOf e := by rw [show c.P.cellsOf e = s.size from hsz]; exact hpos
    rw [run_indexAt_slice w' t _ _ _ _ _ (by rw [elem_eq hu]; exact hu), if_pos ⟨h0, h1⟩, elem_eq hu, run_sizeOf' w' hE]
    simp only [Result.andThen_ok, add_none, Nat.add_zero]
    rw [show c.P.cellsOf e = s.size from hsz]

theorem index_row (S : Sat c m0 w0 fx m bk st a w) {t e : TypeId} {id ver v : Nat} {md : Md} {e' : TypeId} {s : Shape} {xs : List s.Val} {u : Value} {k : IntKind} {n : Int} {K : EV → Prop} (hu : c.P.underlying t = some (.slice e)) (hsz : c.sizeOf e = s.size)
    (hpos : 1 ≤ s.size) (he : st.hp[id]? = some (.row md v e' s xs)) (hv : v = ver) (h : J st.hp bk (.row id ver) u) (h0 : 0 ≤ n) (h1 : n < (xs.length : Int)) (kk : K (.rp id ver n.toNat 0)) : Yld false c m bk st w K (Instr.indexAt t u (.int k n)) := by
  obtain ⟨hb, cs, r1, r2⟩ := S.rowVal he hv h
  have hn : n.toNat < xs.length := by omega
  rcases r2.2 with ⟨q1, q2⟩ | ⟨g, cap, cur, rfl, _⟩
  · omega
  · refine .of kk ⟨md, v, e', s, xs, _, he, hb, by omega, fun _ => ⟨g, _, cap, rfl, rfl, hn⟩⟩ fun w' => ?_
    have hE : 1 ≤ c.P.cellsOf e := by rw [show c.P.cellsOf e = s.size from hsz]; exact hpos
    rw [run_indexAt_slice w' t _ _ _ _ _ (by rw [elem_eq hu]; exact hu), if_pos ⟨h0, h1⟩, elem_eq hu, run_sizeOf' w' hE]
    simp only [Result.andThen_ok, add_none, Nat.zero_add, Nat.add_zero]
    rw [show c.P.cellsOf e = s.size from hsz]

theorem run_index_arr {t e : TypeId} {len : Nat} (hu : c.P.underlying t = some (.array len e)) {b o : Nat} {k : IntKind} {n : Int} (h0 : 0 ≤ n) (h1 : n < (len : Int)) {sz : Nat} (w' : World) (hs : (sizeOf e).run c.P w' = .ok sz w') :
    (Instr.indexAt t (.pointer (some ⟨b, o, none⟩)) (.int k n)).run c.P w' = .ok (.pointer (some ⟨b, o + n.toNat * sz, none⟩)) w' := by
  have e1 : c.P.arrayLen t = len := by simp [Program.arrayLen, hu]
  have e2 : c.P.elem t = e := by simp [Program.elem, hu]
  rw [run_indexAt_array w' t _ _ _ (by rw [e1, e2]; exact hu), if_pos ⟨h0, by rw [e1]; exact h1⟩, e2, hs]
  simp only [Result.andThen_ok, add_none]
end
end Go.Proofs.YtgeefhjlfdidmaaGreatDoor.V

