/- The data of a calculus of verification conditions over the given program's own code: typed shapes, abstract values, an abstract heap, and the condition itself (a function on code that the kernel evaluates). No condition of its own. -/
import Derived.Calls
import Derived.OrdersHeld
import Derived.Below
import Derived.KernelRfl
namespace Go.Proofs.YtjeoelajkncpcaaDoor.V
open Go

/-- The shape of a Go type, as far as this calculus speaks of it. Sequences of fields, parameters and results are chains of 'pair' ('unit': none; one: itself). -/
inductive Shape where
  | bool | int (k : IntKind) | slice (s : Shape) | st (f : Shape) | unit | pair (a b : Shape) | tup (f : Shape)
  | func (ins out : Shape) | iface (alts : Shape) | one (t : Nat) (s : Shape) | alt (t : Nat) (s r : Shape)
  deriving DecidableEq

/-- What a shape's values are in Lean. -/
@[reducible] def Shape.Val : Shape → Type
  | .bool => Bool
  | .int _ => Int
  | .slice s => List s.Val
  | .st f => f.Val
  | .unit => Unit
  | .pair a b => a.Val × b.Val
  | .tup f => f.Val
  | .func i o => i.Val → Option o.Val
  | .iface a => Option a.Val
  | .one _ s => s.Val
  | .alt _ s r => s.Val ⊕ r.Val

/-- Some value of each shape. -/
def Shape.dflt : (s : Shape) → s.Val
  | .bool => false
  | .int _ => (0 : Int)
  | .slice _ => []
  | .st f => f.dflt
  | .unit => ()
  | .pair a b => (a.dflt, b.dflt)
  | .tup f => f.dflt
  | .func _ _ => fun _ => none
  | .iface _ => none
  | .one _ s => s.dflt
  | .alt _ s _ => .inl s.dflt

/-- How many cells a value takes. -/
def Shape.size : Shape → Nat
  | .bool | .int _ | .slice _ | .func _ _ | .iface _ => 1
  | .st f => f.size
  | .unit => 0
  | .pair a b => a.size + b.size
  | .tup _ | .one _ _ | .alt _ _ _ => 0

/-- No slice, function or interface value in it. -/
def Shape.flat : Shape → Bool
  | .bool | .int _ | .unit => true
  | .slice _ | .func _ _ | .iface _ | .one _ _ | .alt _ _ _ => false
  | .st f | .tup f => f.flat
  | .pair a b => a.flat && b.flat

/-- An element of a list of values (the default beyond its end). -/
def rd (s : Shape) (xs : List s.Val) (i : Nat) : s.Val := xs.getD i s.dflt

/-- An abstract value: 'bot' unknown; 'p' a pure value; 'raw' this very value; 'nil' the nil slice; 'ip' a pointer into memory that nobody writes, whose cells are known; 'box', 'rp', 'row' pointers and slices into the abstract heap. -/
inductive EV where
  | bot
  | p (s : Shape) (v : s.Val)
  | raw (v : Value)
  | nil (s : Shape)
  | ip (cs : List EV) (off : Nat)
  | box (id off : Nat)
  | rp (id ver k off : Nat)
  | row (id ver : Nat)
  | agg (cs : List EV)
  | tup (vs : List EV)
  | clo (fn : Fn) (first captured : List EV)
  | ifc (t : Nat) (v : EV)

/-- A value's cells. -/
def Shape.cellsE : (s : Shape) → s.Val → List EV
  | .st f, x => f.cellsE x
  | .unit, _ => []
  | .pair a b, x => a.cellsE x.1 ++ b.cellsE x.2
  | .bool, x => [.p .bool x]
  | .int k, x => [.p (.int k) x]
  | .slice s, x => [.p (.slice s) x]
  | .func i o, x => [.p (.func i o) x]
  | .iface a, x => [.p (.iface a) x]
  | .tup _, _ | .one _ _, _ | .alt _ _ _, _ => []

/-- A value, as it lies in a temporary (no tuple). -/
def Shape.enc0 : (s : Shape) → s.Val → EV
  | .st f, x => .agg (f.cellsE x)
  | .unit, x => .p .unit x
  | .pair a b, x => .p (.pair a b) x
  | .bool, x => .p .bool x
  | .int k, x => .p (.int k) x
  | .slice s, x => .p (.slice s) x
  | .func i o, x => .p (.func i o) x
  | .iface a, x => .p (.iface a) x
  | .tup f, x => .p (.tup f) x
  | .one t s, x => .p (.one t s) x
  | .alt t s r, x => .p (.alt t s r) x

/-- A sequence's values, one by one. -/
def Shape.compsE : (s : Shape) → s.Val → List EV
  | .pair a b, x => a.enc0 x.1 :: b.compsE x.2
  | .unit, _ => []
  | .st f, x => [.agg (f.cellsE x)]
  | .bool, x => [.p .bool x]
  | .int k, x => [.p (.int k) x]
  | .slice s, x => [.p (.slice s) x]
  | .func i o, x => [.p (.func i o) x]
  | .iface a, x => [.p (.iface a) x]
  | .tup _, _ | .one _ _, _ | .alt _ _ _, _ => [.bot]

/-- A value as it lies in a temporary. -/
def Shape.enc : (s : Shape) → s.Val → EV
  | .tup f, x => .tup (f.compsE x)
  | .st f, x => .agg (f.cellsE x)
  | .unit, x => .p .unit x
  | .pair a b, x => .p (.pair a b) x
  | .bool, x => .p .bool x
  | .int k, x => .p (.int k) x
  | .slice s, x => .p (.slice s) x
  | .func i o, x => .p (.func i o) x
  | .iface a, x => .p (.iface a) x
  | .one t s, x => .p (.one t s) x
  | .alt t s r, x => .p (.alt t s r) x

/-- How a block is held: it may be written; not for now; no more. -/
inductive Md where
  | own | lock | froz
  deriving DecidableEq

def Md.isOwn : Md → Bool
  | .own => true
  | .lock => false
  | .froz => false

def Md.isLock : Md → Bool
  | .own => false
  | .lock => true
  | .froz => false

/-- A block of the abstract heap: a variable, or the row of a slice that the call owns. -/
inductive Ent where
  | box (md : Md) (cs : List EV)
  | row (md : Md) (ver : Nat) (e : TypeId) (s : Shape) (xs : List s.Val)

def Ent.md : Ent → Md
  | .box m _ => m
  | .row m _ _ _ _ => m

def Ent.setMd (m : Md) : Ent → Ent
  | .box _ cs => .box m cs
  | .row _ v e s xs => .row m v e s xs

structure St where
  env : Nat → EV
  hp : List Ent

/-- The program; what its tables hold; each interface type's dynamic types. -/
structure Base where
  P : Program
  tab : Nat → Option (List Int)
  alts : TypeId → Option Shape

/-- What the condition is told besides: each loop's varying temporaries, varying blocks, blocks to be frozen ahead of it; the temporaries whose nil is a row. -/
structure Cfg extends Base where
  lv : Nat → List Nat × List Nat × List Nat
  rows : List Nat

def St.put (st : St) (d : Option Nat) (v : EV) : St :=
  match d with
  | some d => { st with env := fun i => cond (Nat.beq i d) v (st.env i) }
  | none => st

/-- A constant. -/
def cst : Value → EV
  | .bool b => .p .bool b
  | .int k n => .p (.int k) n
  | v => .raw v

def Cfg.ev (c : Cfg) (st : St) : Operand → EV
  | .tmp t => st.env t
  | .const v => cst v
  | .global g => match c.tab g with
    | some l => .ip (l.map fun n => .p (.int .i64) n) 0
    | none => .bot
  | .func f => .clo (.func f) [] []

/-- A chain. -/
def seqS : List Shape → Shape
  | [] => .unit
  | [s] => s
  | s :: r => .pair s (seqS r)

def allS : List (Option Shape) → Option (List Shape)
  | [] => some []
  | none :: _ => none
  | some s :: r => (allS r).map (s :: ·)

/-- A type's shape. -/
def Cfg.shp (c : Cfg) : Nat → TypeId → Option Shape
  | 0, _ => none
  | n + 1, t => match c.P.underlying t with
    | some .bool => some .bool
    | some (.int k) => some (.int k)
    | some (.slice e) => (c.shp n e).map .slice
    | some (.struct fs) => (allS (fs.toList.map fun f => c.shp n f.type)).map fun l => .st (seqS l)
    | some (.array k e) => (c.shp n e).map fun s => .st (seqS (List.replicate k s))
    | some (.func ps rs _) => match allS (ps.toList.map (c.shp n)), allS (rs.toList.map (c.shp n)) with
      | some a, some [r] => some (.func (seqS a) r)
      | some a, some r => some (.func (seqS a) (.tup (seqS r)))
      | _, _ => none
    | some (.interface _) => c.alts t
    | _ => none

def deep : Nat := 12

def Cfg.sizeOf (c : Cfg) (t : TypeId) : Nat := c.P.cellsOf t

/-- What must be shown, and what follows. -/
def chk (a b : Prop) : Prop := a ∧ b

/-- The numbers of cells that all bear numbers. -/
def intsOf (k : IntKind) : List EV → Option (List Int)
  | [] => some []
  | .p (.int k') n :: r => if k' = k then (intsOf k r).map (n :: ·) else none
  | _ => none

/-- The cell at a place. -/
def atK (cs : List EV) (off : Nat) (K : EV → Prop) : Prop :=
  match cs[off]? with
  | some c => K c
  | none => False

/-- What a load reads. -/
def Cfg.ldK (c : Cfg) (t : TypeId) (cs : List EV) (off : Nat) (K : EV → Prop) : Prop :=
  match c.P.underlying t with
  | some (.struct _) | some (.array _ _) => cond (Nat.ble (off + c.sizeOf t) cs.length) (K (.agg ((cs.drop off).take (c.sizeOf t)))) False
  | some _ => atK cs off K
  | none => False

/-- A pointer's cells, and its place among them. -/
def Cfg.ptK (st : St) (x : EV) (K : List EV → Nat → Prop) : Prop :=
  match x with
  | .ip cs off => K cs off
  | .box id off => match st.hp[id]? with
    | some (.box _ cs) => K cs off
    | _ => False
  | .rp id ver k off => match st.hp[id]? with
    | some (.row _ v _ s xs) => cond (Nat.beq v ver) (K (s.cellsE (rd s xs k)) off) False
    | _ => False
  | _ => False

/-- The same pointer, further on. -/
def EV.fwd : EV → Nat → EV
  | .ip cs off, n => .ip cs (off + n)
  | .box id off, n => .box id (off + n)
  | .rp id ver k off, n => .rp id ver k (off + n)
  | _, _ => .bot

/-- A pointer that is not out of date. -/
def isPt (st : St) : EV → Bool
  | .ip _ _ => true
  | .box _ _ => true
  | .rp id ver _ _ => match st.hp[id]? with
    | some (.row _ v _ _ _) => Nat.beq v ver
    | _ => false
  | _ => false

/-- A slice's shape and elements. -/
def slK (st : St) (x : EV) (K : (s : Shape) → List s.Val → Prop) : Prop :=
  match x with
  | .p (.slice s) xs => K s xs
  | .nil s => K s []
  | .row id ver => match st.hp[id]? with
    | some (.row _ v _ s xs) => cond (Nat.beq v ver) (K s xs) False
    | _ => False
  | _ => False

def EV.cells : EV → List EV
  | .agg cs => cs
  | v => [v]

/-- Cells laid over others. -/
def laid (cs : List EV) (off : Nat) (vs : List EV) : List EV := cs.take off ++ vs ++ cs.drop (off + vs.length)

/-- A type's zero. -/
def Shape.zeroC : Shape → List EV
  | .bool => [.p .bool false]
  | .int k => [.p (.int k) (0 : Int)]
  | .slice s => [.nil s]
  | .st f => f.zeroC
  | .unit => []
  | .pair a b => a.zeroC ++ b.zeroC
  | .func _ _ => [.raw .nilFunc]
  | .iface _ => [.raw .nilIface]
  | .tup _ | .one _ _ | .alt _ _ _ => []

def Shape.zeroE : Shape → EV
  | .bool => .p .bool false
  | .int k => .p (.int k) (0 : Int)
  | .slice s => .nil s
  | .st f => .agg f.zeroC
  | .func _ _ => .raw .nilFunc
  | .iface _ => .raw .nilIface
  | _ => .bot

/-- A value of one shape as one of another: they are the same. -/
def castK (a b : Shape) (x : a.Val) (K : b.Val → Prop) : Prop :=
  if h : a = b then K (h ▸ x) else False

/- A value with other words for the heap's own. -/
mutual
def EV.sub (rowf boxf : Nat → Nat → EV) : EV → EV
  | .row id ver => rowf id ver
  | .box id off => boxf id off
  | .rp _ _ _ _ => .bot
  | .agg cs => .agg (EV.subL rowf boxf cs)
  | .tup cs => .tup (EV.subL rowf boxf cs)
  | .clo fn a b => .clo fn (EV.subL rowf boxf a) (EV.subL rowf boxf b)
  | .ifc t v => .ifc t (EV.sub rowf boxf v)
  | .bot => .bot
  | .p s x => .p s x
  | .raw v => .raw v
  | .nil s => .p (.slice s) []
  | .ip cs off => .ip cs off
def EV.subL (rowf boxf : Nat → Nat → EV) : List EV → List EV
  | [] => []
  | v :: r => EV.sub rowf boxf v :: EV.subL rowf boxf r
end

/-- Frozen: the heap's own words are struck. 'n': how deep blocks are followed. -/
def frz (hp : List Ent) : Nat → EV → EV
  | 0, v => v.sub (fun _ _ => .bot) (fun _ _ => .bot)
  | n + 1, v => v.sub
      (fun id ver => match hp[id]? with
        | some (.row _ v _ s xs) => cond (Nat.beq v ver) (.p (.slice s) xs) .bot
        | _ => .bot)
      (fun id off => match hp[id]? with
        | some (.box _ cs) => .ip (cs.map (frz hp n)) off
        | _ => .bot)

/- The blocks that a value names. -/
mutual
def EV.ids : EV → List Nat
  | .row id _ => [id]
  | .box id _ => [id]
  | .rp id _ _ _ => [id]
  | .agg cs => EV.idsL cs
  | .tup cs => EV.idsL cs
  | .clo _ a b => EV.idsL a ++ EV.idsL b
  | .ifc _ v => EV.ids v
  | .bot => []
  | .p _ _ => []
  | .raw _ => []
  | .nil _ => []
  | .ip _ _ => []
def EV.idsL : List EV → List Nat
  | [] => []
  | v :: r => EV.ids v ++ EV.idsL r
end

def Ent.ids : Ent → List Nat
  | .box _ cs => EV.idsL cs
  | .row _ _ _ _ _ => []

/-- Not to be written for now. -/
def Ent.lock (x : Ent) : Ent := cond x.md.isOwn (x.setMd .lock) x

/-- The blocks of a set are written no more. -/
def frzH (ids : List Nat) : Nat → List Ent → List Ent
  | _, [] => []
  | n, x :: r => cond (ids.contains n) (x.setMd .froz) x :: frzH ids (n + 1) r
end Go.Proofs.YtjeoelajkncpcaaDoor.V
