/- The verification condition of code, as a function that the kernel evaluates on the program's own code. -/
import Derived.Test.YtjeoelajkncpcaaDoorV2
namespace Go.Proofs.YtjeoelajkncpcaaDoor.V
open Go

def isNil : EV → Bool
  | .nil _ => true
  | .raw (.slice none 0 0) => true
  | _ => false

/- An abstract value as one of a shape (decV), a row of cells as fields (decC), a row of values as arguments (decS), a value behind an interface (decA). -/
mutual
def decV (c : Cfg) (st : St) : (s : Shape) → EV → (s.Val → Prop) → Prop
  | .bool, v, K => match v with
    | .p .bool x => K x
    | _ => False
  | .int k, v, K => match v with
    | .p (.int k') x => if k' = k then K x else False
    | _ => False
  | .slice s, v, K => cond (isNil v) (K []) (slK st v fun s' xs => castK (.slice s') (.slice s) xs K)
  | .st f, v, K => match v with
    | .agg cs => decC c st f cs fun x r => match r with
      | [] => K x
      | _ => False
    | _ => False
  | .func i o, v, K => match v with
    | .p s x => castK s (.func i o) x K
    | .clo (.func f) a b => cloP c.toBase f (a.map (frz st.hp 3)) (b.map (frz st.hp 3)) i o K
    | .raw .nilFunc => K fun _ => none
    | _ => False
  | .iface a, v, K => match v with
    | .p s x => castK s (.iface a) x K
    | .raw .nilIface => K none
    | .ifc t x => decA c st a t x fun y => K (some y)
    | _ => False
  | .unit, _, _ => False
  | .pair _ _, _, _ => False
  | .tup _, _, _ => False
  | .one _ _, _, _ => False
  | .alt _ _ _, _, _ => False
def decC (c : Cfg) (st : St) : (s : Shape) → List EV → (s.Val → List EV → Prop) → Prop
  | .st f, cs, K => decC c st f cs K
  | .unit, cs, K => K () cs
  | .pair a b, cs, K => decC c st a cs fun x r => decC c st b r fun y r' => K (x, y) r'
  | .bool, cs, K => match cs with
    | .p .bool x :: r => K x r
    | _ => False
  | .int k, cs, K => match cs with
    | .p (.int k') x :: r => if k' = k then K x r else False
    | _ => False
  | .slice s, cs, K => match cs with
    | v :: r => cond (isNil v) (K [] r) (slK st v fun s' xs => castK (.slice s') (.slice s) xs fun x => K x r)
    | _ => False
  | .func i o, cs, K => match cs with
    | .p s x :: r => castK s (.func i o) x fun x => K x r
    | .clo (.func f) a b :: r => cloP c.toBase f (a.map (frz st.hp 3)) (b.map (frz st.hp 3)) i o fun x => K x r
    | .raw .nilFunc :: r => K (fun _ => none) r
    | _ => False
  | .iface a, cs, K => match cs with
    | .p s x :: r => castK s (.iface a) x fun x => K x r
    | .raw .nilIface :: r => K none r
    | .ifc t v :: r => decA c st a t v fun y => K (some y) r
    | _ => False
  | .tup _, _, _ => False
  | .one _ _, _, _ => False
  | .alt _ _ _, _, _ => False
def decA (c : Cfg) (st : St) : (s : Shape) → Nat → EV → (s.Val → Prop) → Prop
  | .one t s, t', v, K => cond (Nat.beq t t') (decV c st s v K) False
  | .alt t s r, t', v, K => cond (Nat.beq t t') (decV c st s v fun x => K (.inl x)) (decA c st r t' v fun x => K (.inr x))
  | .bool, _, _, _ => False
  | .int _, _, _, _ => False
  | .slice _, _, _, _ => False
  | .st _, _, _, _ => False
  | .unit, _, _, _ => False
  | .pair _ _, _, _, _ => False
  | .tup _, _, _, _ => False
  | .func _ _, _, _, _ => False
  | .iface _, _, _, _ => False
end

def decS (c : Cfg) (st : St) : (s : Shape) → List EV → (s.Val → Prop) → Prop
  | .pair a b, v :: r, K => decV c st a v fun x => decS c st b r fun y => K (x, y)
  | .unit, [], K => K ()
  | s, [v], K => decV c st s v K
  | _, _, _ => False

/-- Two cells of numbers or bools: are they one? -/
def eqK (a b : EV) (K : Bool → Prop) : Prop :=
  match a, b with
  | .p .bool x, .p .bool y => K (decide (x = y))
  | .p (.int k) x, .p (.int k') y => if k = k' then K (decide ((x : Int) = y)) else False
  | _, _ => False

def eqLK : List EV → List EV → (Bool → Prop) → Prop
  | [], [], K => K true
  | [a], [b], K => eqK a b K
  | a :: r, b :: q, K => eqK a b fun x => eqLK r q fun y => K (x && y)
  | _, _, _ => False

/-- Is a type of the kind of a value: a bool, a number? -/
def kindOK : Option TypeDesc → EV → Bool
  | some .bool, .p .bool _ => true
  | some (.int _), .p (.int _) _ => true
  | _, _ => false

/-- Fields of numbers and bools, one cell each, one behind the other, and cells of these kinds. -/
def Base.fieldEV (c : Base) : List Field → Nat → List EV → Bool
  | [], _, [] => true
  | f :: fs, o, v :: vs => f.name != "_" && Nat.beq f.offset o && kindOK (c.P.underlying f.type) v && c.fieldEV fs (o + 1) vs
  | _, _, _ => false

/-- A struct whose values '==' compares field by field. -/
def Base.plainEq (c : Base) (t : TypeId) (xs : List EV) : Bool :=
  match c.P.underlying t with
  | some (.struct fs) => !c.P.stoodInHeld t && !c.P.eqGuardType c.P.depth t && c.fieldEV fs.toList 0 xs
  | _ => false

def isConst : Operand → Bool
  | .const _ => true
  | _ => false

/-- An operation on two values. -/
def Cfg.binK (c : Cfg) (op : BinOp) (t : TypeId) (x y : EV) (yc : Bool) (K : EV → Prop) : Prop :=
  match x, y with
  | .p (.int k) a, .p (.int k') b => match op with
    | .shl => chk ((0 : Int) ≤ b ∧ (b : Int) < k.bits) (K (.p (.int k) (k.wrap (a * 2 ^ (b : Int).toNat))))
    | .shr => chk ((0 : Int) ≤ b ∧ (b : Int) < k.bits) (K (.p (.int k) ((a : Int).fdiv (2 ^ (b : Int).toNat))))
    | .add => if k = k' then K (.p (.int k) (k.wrap (a + b))) else False
    | .sub => if k = k' then K (.p (.int k) (k.wrap (a - b))) else False
    | .mul => if k = k' then K (.p (.int k) (k.wrap (a * b))) else False
    | .quo => if k = k' then chk ((b : Int) ≠ 0) (K (.p (.int k) (k.wrap ((a : Int).tdiv b)))) else False
    | .rem => if k = k' then chk ((b : Int) ≠ 0) (K (.p (.int k) ((a : Int).tmod b))) else False
    | .and => if k = k' then K (.p (.int k) (k.wrap (BitVec.ofInt k.bits a &&& BitVec.ofInt k.bits b).toNat)) else False
    | .or => if k = k' then K (.p (.int k) (k.wrap (BitVec.ofInt k.bits a ||| BitVec.ofInt k.bits b).toNat)) else False
    | .xor => if k = k' then K (.p (.int k) (k.wrap (BitVec.ofInt k.bits a ^^^ BitVec.ofInt k.bits b).toNat)) else False
    | .andNot => if k = k' then K (.p (.int k) (k.wrap (BitVec.ofInt k.bits a &&& ~~~ BitVec.ofInt k.bits b).toNat)) else False
    | .eql => if k = k' then K (.p .bool (decide ((a : Int) = b))) else False
    | .neq => if k = k' then K (.p .bool (!decide ((a : Int) = b))) else False
    | .lss => if k = k' then K (.p .bool (decide ((a : Int) < b))) else False
    | .leq => if k = k' then K (.p .bool (decide ((a : Int) ≤ b))) else False
    | .gtr => if k = k' then K (.p .bool (decide ((b : Int) < a))) else False
    | .geq => if k = k' then K (.p .bool (decide ((b : Int) ≤ a))) else False
  | .p .bool a, .p .bool b => match op, c.P.underlying t with
    | .eql, some .bool => K (.p .bool (decide ((a : Bool) = b)))
    | .neq, some .bool => K (.p .bool (!decide ((a : Bool) = b)))
    | _, _ => False
  | .agg xs, .agg ys => cond (c.plainEq t xs) (match op with
    | .eql => eqLK xs ys fun b => K (.p .bool b)
    | .neq => eqLK xs ys fun b => K (.p .bool (!b))
    | _ => False) False
  | .p (.iface _) a, .raw .nilIface => cond yc (match op, c.P.underlying t with
    | .eql, some (.interface _) => K (.p .bool a.isNone)
    | .neq, some (.interface _) => K (.p .bool (!a.isNone))
    | _, _ => False) False
  | _, _ => False

/-- Cells that are a shape's zero, at a list's head. -/
def Shape.zeroAt : Shape → List Value → Option (List Value)
  | .bool, .bool false :: r => some r
  | .int k, .int k' n :: r => if k' = k ∧ n = 0 then some r else none
  | .slice _, .slice none 0 0 :: r => some r
  | .st f, l => f.zeroAt l
  | .unit, l => some l
  | .pair a b, l => (a.zeroAt l).bind b.zeroAt
  | .func _ _, .nilFunc :: r => some r
  | .iface _, .nilIface :: r => some r
  | _, _ => none

def isNilL : Option (List Value) → Bool
  | some [] => true
  | _ => false

/-- The type's zero is the shape's. -/
def Cfg.zeroOK (c : Cfg) (t : TypeId) (s : Shape) : Bool :=
  match (c.P.info? t).bind (·.zero) with
  | some (.agg cs) => (match s with
    | .st _ => true
    | _ => false) && isNilL (s.zeroAt cs.toList)
  | some (.tuple _) => false
  | some z => (match s with
    | .st _ => false
    | _ => true) && isNilL (s.zeroAt [z])
  | none => false

/-- All parts of a type are known. -/
def Cfg.partsOK (c : Cfg) (t : TypeId) : Bool :=
  match c.P.underlying t with
  | some (.struct fs) => fs.toList.all fun f => (c.P.info? f.type).isSome
  | some (.array _ e) => (c.P.info? e).isSome
  | _ => false

/-- The greatest, the least. -/
def mxE (f : Int → Int → Int) : EV → List EV → (EV → Prop) → Prop
  | v, [], K => K v
  | .p (.int k) a, .p (.int k') b :: r, K => if k' = k then mxE f (.p (.int k) (f a b)) r K else False
  | _, _, _ => False

def maxI (a b : Int) : Int := if b > a then b else a
def minI (a b : Int) : Int := if b < a then b else a

def pickK (x : Bool) (a b : EV) (K : EV → Prop) : Prop :=
  match a, b with
  | .p .bool y, .p .bool z => K (.p .bool (cond x y z))
  | _, _ => cond x (K a) (K b)

/-- A value whose cells are known: an aggregate's, or itself. -/
def oneV (st : St) : EV → Bool
  | .agg _ | .nil _ | .ip _ _ | .box _ _ | .clo _ _ _ | .ifc _ _ => true
  | .p .bool _ | .p (.int _) _ | .p (.slice _) _ | .p (.func _ _) _ | .p (.iface _) _ => true
  | .raw .nilFunc | .raw .nilIface => true
  | .row id ver => match st.hp[id]? with
    | some (.row _ v _ _ _) => Nat.beq v ver
    | _ => false
  | _ => false

/-- May a value lie in one cell? -/
def cellV (st : St) (v : EV) : Bool := oneV st v && (match v with
  | .agg _ => false
  | _ => true)

/-- A type's places, by number. -/
def Cfg.place (c : Cfg) (t : TypeId) (i : Nat) : Option (Nat × Nat) :=
  match c.P.underlying t with
  | some (.struct fs) => (fs[i]?).map fun f => (f.offset, c.sizeOf f.type)
  | some (.array _ e) => some (i * c.sizeOf e, c.sizeOf e)
  | _ => none

def Cfg.fillK (c : Cfg) (st : St) (t : TypeId) (cs : List EV) : List (Nat × EV) → (List EV → Prop) → Prop
  | [], K => K cs
  | (i, v) :: r, K => match c.place t i with
    | some (off, n) => cond (oneV st v && Nat.beq v.cells.length n && Nat.ble (off + n) cs.length) (c.fillK st t (laid cs off v.cells) r K) False
    | none => False

/-- A value behind an interface: is it of this type? -/
def altK : (a : Shape) → a.Val → Nat → (EV → Prop) → Prop → Prop
  | .one t s, x, t', A, B => cond (Nat.beq t t') (A (s.enc0 x)) B
  | .alt t s r, x, t', A, B => sumK x (fun y => cond (Nat.beq t t') (A (s.enc0 y)) B) (fun y => altK r y t' A B)
  | _, _, _, _, _ => False

/-- A quiet operation: what it yields. -/
def Cfg.quiet (c : Cfg) (o : Op) (st : St) (K : EV → Prop) : Prop :=
  match o with
  | .move x | .assign x => K (c.ev st x)
  | .pick b x y => match c.ev st b with
    | .p .bool z => pickK z (c.ev st x) (c.ev st y) K
    | _ => False
  | .load t a => Cfg.ptK st (c.ev st a) fun cs off => c.ldK t cs off K
  | .fieldAddr s x f => match c.P.underlying s with
    | some (.struct fs) => match fs[f]? with
      | some fd => cond (isPt st (c.ev st x) && Nat.ble 1 (c.sizeOf fd.type)) (K ((c.ev st x).fwd fd.offset)) False
      | none => False
    | _ => False
  | .field t x f => match c.ev st x, c.P.underlying t with
    | .agg cs, some (.struct fs) => match fs[f]? with
      | some fd => c.ldK fd.type cs fd.offset K
      | none => False
    | _, _ => False
  | .indexAddr t x i => match c.ev st i, c.P.underlying t with
    | .p (.int _) n, some (.slice e) => match c.ev st x with
      | .p (.slice s) xs => cond (Nat.beq (c.sizeOf e) s.size && Nat.ble 1 s.size) (chk ((0 : Int) ≤ n ∧ (n : Int) < (xs.length : Int)) (K (.ip (s.cellsE (rd s xs (n : Int).toNat)) 0))) False
      | .row id ver => match st.hp[id]? with
        | some (.row _ v _ s xs) => cond (Nat.beq (c.sizeOf e) s.size && Nat.ble 1 s.size && Nat.beq v ver) (chk ((0 : Int) ≤ n ∧ (n : Int) < (xs.length : Int)) (K (.rp id ver (n : Int).toNat 0))) False
        | _ => False
      | _ => False
    | .p (.int _) n, some (.array len e) => match c.ev st x with
      | .ip cs off => match intsOf .i64 cs with
        | some l => cond (Nat.beq (c.sizeOf e) 1 && Nat.ble (off + len) cs.length) (chk ((0 : Int) ≤ n ∧ (n : Int) < (len : Int)) (K (.ip [.p (.int .i64) (l.getD (off + (n : Int).toNat) 0)] 0))) False
        | none => False
      | .box id off => cond (Nat.ble 1 (c.sizeOf e)) (chk ((0 : Int) ≤ n ∧ (n : Int) < (len : Int)) (K (.box id (off + (n : Int).toNat * c.sizeOf e)))) False
      | _ => False
    | _, _ => False
  | .index t x i => match c.ev st i, c.P.underlying t, c.ev st x with
    | .p (.int _) n, some (.array len e), .agg cs => match intsOf .i64 cs, c.P.underlying e with
      | some l, some (.int _) => cond (Nat.beq (c.sizeOf e) 1 && Nat.beq len cs.length) (chk ((0 : Int) ≤ n ∧ (n : Int) < (len : Int)) (K (.p (.int .i64) (l.getD (n : Int).toNat 0)))) False
      | _, _ => False
    | _, _, _ => False
  | .extract t i => match c.ev st t with
    | .tup vs => atK vs i K
    | _ => False
  | .binOp op t x y _ => c.binK op t (c.ev st x) (c.ev st y) (isConst y) K
  | .unOp op _ x => match op, c.ev st x with
    | .not, .p .bool a => K (.p .bool (!a))
    | .neg, .p (.int k) n => K (.p (.int k) (k.wrap (0 - n)))
    | .xor, .p (.int k) n => K (.p (.int k) (k.wrap (BitVec.ofInt k.bits (if k.signed then -1 else k.max) ^^^ BitVec.ofInt k.bits n).toNat))
    | _, _ => False
  | .convert q d x => match c.P.underlying d, c.ev st x with
    | some (.int k), .p (.int _) n => cond (c.P.underlying q).isSome (K (.p (.int k) (k.wrap n))) False
    | _, _ => False
  | .build t parts => match c.shp deep t, c.P.underlying t with
    | some (.st f), some _ => cond (c.zeroOK t (.st f) && c.partsOK t) (c.fillK st t f.zeroC (parts.toList.map fun q => (q.1, c.ev st q.2)) fun cs => K (.agg cs)) False
    | _, _ => False
  | .makeFunc fn a b => K (.clo fn (a.toList.map (c.ev st)) (b.toList.map (c.ev st)))
  | .makeInterface t x => match c.P.underlying t with
    | some (.interface _) => False
    | some _ => K (.ifc t (c.ev st x))
    | none => False
  | .nilCheck x => match c.ev st x with
    | .box i o => K (.box i o)
    | .ip cs o => K (.ip cs o)
    | .clo (.func f) a b => K (.clo (.func f) a b)
    | .p (.iface a) y => optK y False fun _ => K (.p (.iface a) y)
    | .ifc t v => K (.ifc t v)
    | _ => False
  | .typeAssert x _ t ok => match c.P.underlying t, c.shp deep t with
    | some (.interface _), _ => False
    | some _, some s => cond (c.zeroOK t s) (match c.ev st x, ok with
      | .p (.iface a) y, true => optK y (K (.tup [s.zeroE, .p .bool false])) fun z => altK a z t (fun v => K (.tup [v, .p .bool true])) (K (.tup [s.zeroE, .p .bool false]))
      | .ifc t' v, true => cond (Nat.beq t' t) (K (.tup [v, .p .bool true])) (K (.tup [s.zeroE, .p .bool false]))
      | .ifc t' v, false => cond (Nat.beq t' t) (K v) False
      | .raw .nilIface, true => K (.tup [s.zeroE, .p .bool false])
      | _, _ => False) False
    | _, _ => False
  | .call { callee := .builtin b, args, argTypes } => match b, args.toList.map (c.ev st), argTypes[0]?.bind c.P.underlying with
    | .len, [x], some (.slice _) => slK st x fun _ xs => K (.p (.int .i64) (xs.length : Int))
    | .cap, [x], some (.slice _) => cond (isNil x) (K (.p (.int .i64) (0 : Int))) False
    | .max, x :: r, _ => mxE maxI x r K
    | .min, x :: r, _ => mxE minI x r K
    | _, _, _ => False
  | _ => False

/-- Is an operation quiet: does it leave the heap alone, and ask nothing of a callee? -/
def isQuiet : Op → Bool
  | .alloc _ | .box _ _ | .buildSlice _ _ _ | .store _ _ _ | .panic _ => false
  | .call { callee := .builtin .append, .. } => false
  | .call { callee := .builtin _, .. } => true
  | .call _ => false
  | .move _ | .assign _ | .pick _ _ _ | .load _ _ | .fieldAddr _ _ _ | .field _ _ _ | .indexAddr _ _ _ | .index _ _ _ | .extract _ _ | .binOp _ _ _ _ _ | .unOp _ _ _ | .convert _ _ _
  | .build _ _ | .makeFunc _ _ _ | .makeInterface _ _ | .nilCheck _ | .typeAssert _ _ _ _ => true
  | _ => false

/-- All of a list's values as values of one shape. -/
def decE (c : Cfg) (st : St) (s : Shape) : List EV → (List s.Val → Prop) → Prop
  | [], K => K []
  | v :: r, K => decV c st s v fun x => decE c st s r fun xs => K (x :: xs)

/-- The parts of a slice's literal, each given, in order. -/
def inOrder : Nat → List (Nat × EV) → Bool
  | _, [] => true
  | n, (i, _) :: r => Nat.beq i n && inOrder (n + 1) r

/-- The words of a set of values, and of the blocks that they name. -/
def closeIds (hp : List Ent) (l : List Nat) : List Nat := l ++ l.flatMap fun i => match hp[i]? with
  | some e => e.ids
  | none => []

/-- Nothing that these blocks name is outside of them, and each may be frozen. -/
def shutIds (hp : List Ent) (l : List Nat) : Bool := l.all fun i => match hp[i]? with
  | some e => !e.md.isLock && e.ids.all (l.contains ·)
  | none => false

/-- What a call's results mean for the blocks that its arguments name: if they are numbers and bools alone, nothing; else these are written no more. -/
def afterK (out : Shape) (args : List EV) (hp : List Ent) (K : List Ent → Prop) : Prop :=
  cond out.flat (K hp) (cond (shutIds hp (closeIds hp (EV.idsL args))) (K (frzH (closeIds hp (EV.idsL args)) 0 hp)) False)

def outS (l : List Shape) : Shape := match l with
  | [s] => s
  | l => .tup (seqS l)

/-- A method of a type's values. -/
def Cfg.method (c : Cfg) (t : TypeId) (name : String) : Option FuncId :=
  match c.P.info? t with
  | some i => match i.methods.toList.find? (·.name == name), c.P.underlying t with
    | some _, some (.pointer _) => none
    | some m, some _ => match m.func, m.path.toList with
      | some (f, false), [] => some f
      | _, _ => none
    | _, none => none
    | none, _ => none
  | none => none

/-- A call of a function of the program. -/
def Cfg.callK (c : Cfg) (st : St) (f : FuncId) (args : List EV) (K : EV → List Ent → Prop) : Prop :=
  match c.P.funcs[f]? with
  | some fn => match allS (fn.params.toList.map (c.shp deep)), allS (fn.resultTypes.toList.map (c.shp deep)) with
    | some ins, some outs => cond (Nat.beq fn.nfree 0) (decS c st (seqS ins) args fun x =>
        afterK (outS outs) args st.hp fun hp => callP c.toBase f (seqS ins) (outS outs) x fun r => K ((outS outs).enc r) hp) False
    | _, _ => False
  | none => False

/-- A call through an interface value. -/
def Cfg.invK (c : Cfg) (st : St) (name : String) (args : List EV) (K : EV → List Ent → Prop) : (a : Shape) → a.Val → Prop
  | .one t s, x => match c.method t name with
    | some f => c.callK st f (s.enc0 x :: args) K
    | none => False
  | .alt t s r, x => sumK x (fun y => match c.method t name with
    | some f => c.callK st f (s.enc0 y :: args) K
    | none => False) (fun y => c.invK st name args K r y)
  | _, _ => False

def noIds : List Nat → Bool
  | [] => true
  | _ => false

/-- An operation that makes or writes memory, or calls. -/
def Cfg.loud (c : Cfg) (o : Oper) (st : St) (K : EV → List Ent → Prop) : Prop :=
  match o.op with
  | .alloc t => match c.shp deep t with
    | some s => cond (c.zeroOK t s) (K (.box st.hp.length 0) (st.hp ++ [.box .own s.zeroC])) False
    | none => False
  | .box t x => cond (oneV st (c.ev st x) && Nat.beq (c.ev st x).cells.length (c.sizeOf t)) (K (.box st.hp.length 0) (st.hp ++ [.box .own (c.ev st x).cells])) False
  | .buildSlice t n parts => match c.P.underlying t with
    | some (.slice e) => match c.shp deep e with
      | some s => cond (c.zeroOK e s && Nat.beq (c.sizeOf e) s.size && Nat.ble 1 s.size) (match n with
        | 0 => cond (Nat.beq parts.size 0) (K (.row st.hp.length 0) (st.hp ++ [.row .own 0 e s []])) False
        | n + 1 => cond (inOrder 0 (parts.toList.map fun q => (q.1, c.ev st q.2)) && Nat.beq parts.size (n + 1) && Nat.ble ((n + 1) * s.size) 10000) (decE c st s (parts.toList.map fun q => c.ev st q.2) fun xs =>
            afterK (.slice s) (parts.toList.map fun q => c.ev st q.2) st.hp fun hp => K (.p (.slice s) xs) hp) False) False
      | none => False
    | _ => False
  | .store t a x => match c.ev st a with
    | .box id off => match st.hp[id]? with
      | some (.box .own cs) => cond (oneV st (c.ev st x) && (c.ev st x).cells.all (cellV st) && Nat.ble 1 (c.sizeOf t) && Nat.beq (c.ev st x).cells.length (c.sizeOf t) && Nat.ble (off + (c.ev st x).cells.length) cs.length) (K .bot (st.hp.set id (.box .own (laid cs off (c.ev st x).cells)))) False
      | _ => False
    | .rp id ver k off => match st.hp[id]? with
      | some (.row .own v e s xs) => cond (Nat.beq v ver && oneV st (c.ev st x) && (c.ev st x).cells.all (cellV st) && Nat.ble 1 (c.sizeOf t) && Nat.beq (c.ev st x).cells.length (c.sizeOf t) && Nat.ble (off + (c.ev st x).cells.length) s.size && noIds (EV.idsL (laid (s.cellsE (rd s xs k)) off (c.ev st x).cells)))
          (decC c st s (laid (s.cellsE (rd s xs k)) off (c.ev st x).cells) fun y r => match r with
            | [] => K .bot (st.hp.set id (.row .own v e s (xs.set k y)))
            | _ => False) False
      | _ => False
    | _ => False
  | .call { callee := .builtin .append, args, argTypes } => match args.toList.map (c.ev st), argTypes.toList with
    | [d, x], [t, t'] => cond (Nat.beq t t') (match c.P.underlying t with
      | some (.slice e) => match d with
        | .row id ver => match st.hp[id]? with
          | some (.row .own v e' s xs) => cond (Nat.beq v ver && Nat.beq e' e && c.zeroOK e s && Nat.beq (c.sizeOf e) s.size && Nat.ble 1 s.size && Nat.ble 1 (c.P.bytesOf e)) (slK st x fun s' ys => castK (.slice s') (.slice s) ys fun ys =>
              chk ((xs.length + ys.length) * c.P.bytesOf e ≤ 140737488355328) (K (.row id (ver + 1)) (st.hp.set id (.row .own (ver + 1) e s (xs ++ ys))))) False
          | _ => False
        | _ => cond (isNil d) (match c.shp deep e with
          | some s => cond (c.zeroOK e s && Nat.beq (c.sizeOf e) s.size && Nat.ble 1 s.size && Nat.ble 1 (c.P.bytesOf e)) (slK st x fun s' ys => castK (.slice s') (.slice s) ys fun ys =>
              chk (ys.length * c.P.bytesOf e ≤ 140737488355328) (K (.row st.hp.length 0) (st.hp ++ [.row .own 0 e s ys]))) False
          | none => False) False
      | _ => False) False
    | _, _ => False
  | .call { callee := .value f, args, .. } => match c.ev st f with
    | .clo (.func f) [] [] => c.callK st f (args.toList.map (c.ev st)) K
    | .p (.func i out) g => decS c st i (args.toList.map (c.ev st)) fun x => afterK out (args.toList.map (c.ev st)) st.hp fun hp => gcall g x fun r => K (out.enc r) hp
    | _ => False
  | .call { callee := .invoke r name, args, .. } => match c.ev st r with
    | .p (.iface a) y => optK y False fun z => c.invK st name (args.toList.map (c.ev st)) K a z
    | .ifc t v => match c.method t name with
      | some f => c.callK st f (v :: args.toList.map (c.ev st)) K
      | none => False
    | _ => False
  | _ => False

/-! ### Regions -/

/-- Does an operation read memory? -/
def isLoad : Op → Bool
  | .load _ _ => true
  | _ => false

/-- Does an operation write memory that was there? -/
def isWriter : Op → Bool
  | .store _ _ _ => true
  | .call { callee := .builtin .append, .. } => true
  | _ => false

/-- What an operation waits for. -/
def waits (ops : Array Oper) (k : Nat) : List Nat :=
  match ops[k]? with
  | some o => (o.after.toList.filter (Region.binds .any)).map (·.on)
  | none => []

/-- What the members of a list wait for, and so on: places below k are looked at. -/
def down (ops : Array Oper) : Nat → List Nat → List Nat
  | 0, l => l
  | k + 1, l => cond (l.contains k) (down ops k (waits ops k ++ l)) (down ops k l)

def opAt (ops : Array Oper) (i : Nat) (p : Op → Bool) : Bool :=
  match ops[i]? with
  | some o => p o.op
  | none => false

/-- Every writer of a region waits for every load. -/
def writersOK (ops : Array Oper) : Bool :=
  (List.range ops.size).all fun j => !opAt ops j isWriter || (List.range ops.size).all fun i => !opAt ops i isLoad || (down ops ops.size [j]).contains i

def Cfg.drawOK (c : Cfg) (ops : Array Oper) : Bool := c.P.follows .mixedOrders && Region.noSelect ops && writersOK ops

/-- A nil that is kept as a row of the call's own. -/
def Cfg.rowOf (c : Cfg) (o : Oper) : Option (TypeId × Shape) :=
  match o.dst, o.op with
  | some d, .assign (.const (.slice none 0 0)) => cond (c.rows.contains d) (match c.P.underlying o.type with
    | some (.slice e) => (c.shp deep e).map fun s => (e, s)
    | _ => none) none
  | _, _ => none

/-- A nil, with its shape. -/
def Cfg.nilOf (c : Cfg) (o : Oper) : Option Shape :=
  match o.op with
  | .assign (.const (.slice none 0 0)) | .move (.const (.slice none 0 0)) => match c.P.underlying o.type with
    | some (.slice e) => c.shp deep e
    | _ => none
  | _ => none

/-- An operation, its guard paid. -/
def Cfg.runK (c : Cfg) (o : Oper) (st : St) (K : St → Prop) : Prop :=
  match c.rowOf o with
  | some (e, s) => K (St.put { st with hp := st.hp ++ [.row .own 0 e s []] } o.dst (.row st.hp.length 0))
  | none => match c.nilOf o with
    | some s => K (st.put o.dst (.nil s))
    | none => cond (isQuiet o.op) (c.quiet o.op st fun v => K (st.put o.dst v)) (c.loud o st fun v hp => K (St.put { st with hp := hp } o.dst v))

/-- May a temporary be written? -/
def okDst (W : List Nat) (d : Option Nat) : Bool :=
  match d with
  | some d => W.contains d
  | none => true

def Cfg.opK (c : Cfg) (W : List Nat) (ops : Array Oper) (o : Oper) (st : St) (K : St → Prop) : Prop :=
  cond (okDst W o.dst) (match o.guard with
    | none => c.runK o st K
    | some (j, want) => match (ops[j]?).bind (·.dst) with
      | some d => cond (okDst W (some d)) (match st.env d with
        | .p .bool x => cond x
            (cond want (c.runK o (st.put (some d) (.p .bool true)) K) (K ((st.put (some d) (.p .bool true)).put o.dst (.raw undef))))
            (cond want (K ((st.put (some d) (.p .bool false)).put o.dst (.raw undef))) (c.runK o (st.put (some d) (.p .bool false)) K))
        | .raw (.tuple _) => K (st.put o.dst (.raw undef))
        | _ => False) False
      | none => False) False

def Cfg.seqK (c : Cfg) (W : List Nat) (ops : Array Oper) : List Oper → St → (St → Prop) → Prop
  | [], st, K => K st
  | o :: r, st, K => c.opK W ops o st fun st => c.seqK W ops r st K

def Cfg.quietAt (c : Cfg) (ops : Array Oper) (i : Nat) : Bool :=
  match ops[i]? with
  | some o => isQuiet o.op && (c.rowOf o).isNone
  | none => false

def allK (F : Nat → Prop) : List Nat → Prop
  | [] => True
  | [i] => F i
  | i :: r => F i ∧ allK F r

/-- A region that draws its order: what is quiet is taken first. -/
def Cfg.drawK (c : Cfg) (W : List Nat) (ops : Array Oper) : Nat → Array Bool → St → (St → Prop) → Prop
  | 0, listed, st, K => match Region.ready .any ops listed with
    | [] => K st
    | _ => False
  | n + 1, listed, st, K => match (Region.ready .any ops listed).find? fun i => c.quietAt ops i && Region.free .any ops listed i with
    | some i => match ops[i]? with
      | some o => c.opK W ops o st fun st => c.drawK W ops n (listed.setIfInBounds i true) st K
      | none => False
    | none => match Region.ready .any ops listed with
      | [] => False
      | rs => allK (fun i => match ops[i]? with
        | some o => c.opK W ops o st fun st => c.drawK W ops n (listed.setIfInBounds i true) st K
        | none => False) rs

/-! ### Loops -/

/-- A part of the state that a loop's rounds may change. -/
inductive Slot where
  | e (v : EV)
  | n (x : Ent)

def EV.sh : EV → Shape
  | .p s _ => s
  | _ => .unit

/-- A state part's cells that bear values. -/
def shC : List EV → Shape
  | [] => .unit
  | [v] => v.sh
  | v :: r => .pair v.sh (shC r)

def Slot.sh : Slot → Shape
  | .e (.agg cs) => shC cs
  | .e v => v.sh
  | .n (.box _ cs) => shC cs
  | .n (.row _ _ _ s _) => .slice s

def shL : List Slot → Shape
  | [] => .unit
  | [v] => v.sh
  | v :: r => .pair v.sh (shL r)

def EV.lf : (v : EV) → v.sh.Val
  | .p _ x => x
  | .bot => () | .raw _ => () | .nil _ => () | .ip _ _ => () | .box _ _ => () | .rp _ _ _ _ => () | .row _ _ => () | .agg _ => () | .tup _ => () | .clo _ _ _ => () | .ifc _ _ => ()

def lfC : (l : List EV) → (shC l).Val
  | [] => ()
  | [v] => v.lf
  | v :: w :: r => (v.lf, lfC (w :: r))

def Slot.lf : (s : Slot) → s.sh.Val
  | .e (.agg cs) => lfC cs
  | .e (.p s x) => EV.lf (.p s x)
  | .e .bot => () | .e (.raw _) => () | .e (.nil _) => () | .e (.ip _ _) => () | .e (.box _ _) => () | .e (.rp _ _ _ _) => () | .e (.row _ _) => () | .e (.tup _) => () | .e (.clo _ _ _) => () | .e (.ifc _ _) => ()
  | .n (.box _ cs) => lfC cs
  | .n (.row _ _ _ _ xs) => xs

def lfL : (l : List Slot) → (shL l).Val
  | [] => ()
  | [v] => v.lf
  | v :: w :: r => (v.lf, lfL (w :: r))

def EV.mk' : (v : EV) → v.sh.Val → EV
  | .p s _, x => .p s x
  | .box i o, _ => .box i o
  | .row i v, _ => .row i v
  | .bot, _ => .bot | .raw _, _ => .bot | .nil _, _ => .bot | .ip _ _, _ => .bot | .rp _ _ _ _, _ => .bot | .agg _, _ => .bot | .tup _, _ => .bot | .clo _ _ _, _ => .bot | .ifc _ _, _ => .bot

def mkC : (l : List EV) → (shC l).Val → List EV
  | [], _ => []
  | [v], x => [v.mk' x]
  | v :: w :: r, x => v.mk' x.1 :: mkC (w :: r) x.2

def Slot.mk' : (s : Slot) → s.sh.Val → Slot
  | .e (.agg cs), x => .e (.agg (mkC cs x))
  | .e (.p s y), x => .e (EV.mk' (.p s y) x)
  | .e (.box i o), _ => .e (.box i o)
  | .e (.row i v), _ => .e (.row i v)
  | .e .bot, _ => .e .bot | .e (.raw _), _ => .e .bot | .e (.nil _), _ => .e .bot | .e (.ip _ _), _ => .e .bot | .e (.rp _ _ _ _), _ => .e .bot | .e (.tup _), _ => .e .bot | .e (.clo _ _ _), _ => .e .bot | .e (.ifc _ _), _ => .e .bot
  | .n (.box o cs), x => .n (.box o (mkC cs x))
  | .n (.row o v el s _), xs => .n (.row o v el s xs)

def mkL : (l : List Slot) → (shL l).Val → List Slot
  | [], _ => []
  | [v], x => [v.mk' x]
  | v :: w :: r, x => v.mk' x.1 :: mkL (w :: r) x.2

/-- A value found behind a round, held against the part as it stood ahead of the loop. -/
def EV.mat : (v : EV) → EV → (v.sh.Val → Prop) → Prop
  | .p s _, u, K => match u with
    | .p s' y => castK s' s y K
    | _ => False
  | .box i o, u, K => match u with
    | .box i' o' => cond (Nat.beq i i' && Nat.beq o o') (K ()) False
    | _ => False
  | .row i v, u, K => match u with
    | .row i' v' => cond (Nat.beq i i' && Nat.beq v v') (K ()) False
    | _ => False
  | .bot, _, K => K () | .raw _, _, K => K () | .nil _, _, K => K () | .ip _ _, _, K => K () | .rp _ _ _ _, _, K => K () | .agg _, _, K => K () | .tup _, _, K => K () | .clo _ _ _, _, K => K () | .ifc _ _, _, K => K ()

def matC : (l : List EV) → List EV → ((shC l).Val → Prop) → Prop
  | [], [], K => K ()
  | [v], [u], K => v.mat u K
  | v :: w :: r, u :: q, K => v.mat u fun x => matC (w :: r) q fun y => K (x, y)
  | _, _, _ => False

def Slot.mat : (s : Slot) → Slot → (s.sh.Val → Prop) → Prop
  | .e (.agg cs), u, K => match u with
    | .e (.agg ds) => matC cs ds K
    | _ => False
  | .e (.p s y), u, K => match u with
    | .e u => EV.mat (.p s y) u K
    | _ => False
  | .e (.box i o), u, K => match u with
    | .e u => EV.mat (.box i o) u K
    | _ => False
  | .e (.row i v), u, K => match u with
    | .e u => EV.mat (.row i v) u K
    | _ => False
  | .e .bot, _, K => K () | .e (.raw _), _, K => K () | .e (.nil _), _, K => K () | .e (.ip _ _), _, K => K () | .e (.rp _ _ _ _), _, K => K () | .e (.tup _), _, K => K () | .e (.clo _ _ _), _, K => K () | .e (.ifc _ _), _, K => K ()
  | .n (.box _ cs), u, K => match u with
    | .n (.box .own ds) => matC cs ds K
    | _ => False
  | .n (.row _ v el s _), u, K => match u with
    | .n (.row .own v' el' s' ys) => cond (Nat.beq el' el && Nat.beq v' v) (castK (.slice s') (.slice s) ys K) False
    | _ => False

def matL : (l : List Slot) → List Slot → ((shL l).Val → Prop) → Prop
  | [], [], K => K ()
  | [v], [u], K => v.mat u K
  | v :: w :: r, u :: q, K => v.mat u fun x => matL (w :: r) q fun y => K (x, y)
  | _, _, _ => False

/-- The rows that a loop makes longer: it knows them by what varies. -/
def apOf (st : St) (lv hv : List Nat) : List Nat := (lv.flatMap (fun t => (st.env t).ids) ++ hv.flatMap fun i => match st.hp[i]? with
  | some x => x.ids
  | none => []).filter (hv.contains ·)

/-- A row's version at a round's head. -/
def nrmV (hp0 : List Ent) (ap : List Nat) (id v : Nat) : Nat := cond (ap.contains id) (match hp0[id]? with
  | some (.row _ v0 _ _ _) => v0 + 1
  | _ => 0) v

/-- A value at a round's head: the blocks of the round itself are forgotten. -/
def nrmE (hp0 hp : List Ent) (ap : List Nat) (v : EV) : EV :=
  v.sub (fun id ver => cond (Nat.blt id hp0.length) (match hp[id]? with
      | some (.row _ v _ _ _) => cond (Nat.beq v ver) (.row id (nrmV hp0 ap id ver)) .bot
      | _ => .bot) .bot)
    (fun id off => cond (Nat.blt id hp0.length) (.box id off) .bot)

def nrmN (hp0 hp : List Ent) (ap : List Nat) (i : Nat) : Ent → Ent
  | .box o cs => .box o (cs.map (nrmE hp0 hp ap))
  | .row o v e s xs => .row o (nrmV hp0 ap i v) e s xs

def slotsOf (hp0 : List Ent) (ap : List Nat) (st : St) (lv hv : List Nat) : List Slot :=
  lv.map (fun t => .e (nrmE hp0 st.hp ap (st.env t))) ++ hv.map fun i => match st.hp[i]? with
    | some x => .n (nrmN hp0 st.hp ap i x)
    | none => .e .bot

/-- The parts, laid into a state. -/
def getE : List Nat → List Slot → Nat → Option EV
  | t :: r, .e v :: q, i => cond (Nat.beq t i) (some v) (getE r q i)
  | _ :: r, _ :: q, i => getE r q i
  | _, _, _ => none

def getN : List Nat → List Slot → Nat → Option Ent
  | t :: r, .n v :: q, i => cond (Nat.beq t i) (some v) (getN r q i)
  | _ :: r, _ :: q, i => getN r q i
  | _, _, _ => none

def laidIn (hv : List Nat) (sl : List Slot) : Nat → List Ent → List Ent
  | _, [] => []
  | n, x :: r => (match getN hv sl n with
    | some y => y
    | none => x.lock) :: laidIn hv sl (n + 1) r

/-- Behind a loop what was locked for it may be written again. -/
def unlock : List Ent → List Ent → List Ent
  | x :: r, y :: q => cond (x.md.isOwn && y.md.isLock) (y.setMd .own) y :: unlock r q
  | _, q => q

def headOf (st : St) (lv hv W : List Nat) (sl : List Slot) : St :=
  { env := fun i => match getE lv sl i with
      | some v => v
      | none => cond (W.contains i) .bot (st.env i),
    hp := laidIn hv (sl.drop lv.length) 0 st.hp }

/-- The blocks that a loop varies are the call's own. -/
def ownAll (hp : List Ent) (hv : List Nat) : Bool := hv.all fun i => match hp[i]? with
  | some x => x.md.isOwn
  | none => false

def _root_.Go.Code.firstRegion' : Code → Nat
  | .region id _ _ => id
  | .seq a _ => a.firstRegion'
  | .block _ b => b.firstRegion'
  | .loop b => b.firstRegion'
  | .scope b => b.firstRegion'
  | _ => 0

def _root_.Go.Code.dsts' : Code → List Nat
  | .region _ ops _ => ops.toList.filterMap (·.dst)
  | .seq a b => a.dsts' ++ b.dsts'
  | .block _ b => b.dsts'
  | .loop b => b.dsts'
  | .scope b => b.dsts'
  | .cond _ a b => a.dsts' ++ b.dsts'
  | _ => []

inductive Ex where
  | normal | ret | exit (id : Nat)

/-- A loop's condition, out of that of its round. -/
def Cfg.loopV (lv hv W : List Nat) (st : St) (F : St → (Ex → St → Prop) → Prop) (K : Ex → St → Prop) : Prop :=
  loopP (fun x back => F (headOf st lv hv W (mkL (slotsOf st.hp (apOf st lv hv) st lv hv) x)) fun e st' => match e with
    | .normal => matL (slotsOf st.hp (apOf st lv hv) st lv hv) (slotsOf st.hp (apOf st lv hv) st' lv hv) back
    | .ret => K .ret { st' with hp := unlock st.hp st'.hp }
    | .exit id => K (.exit id) { st' with hp := unlock st.hp st'.hp }) (lfL (slotsOf st.hp (apOf st lv hv) st lv hv))

/-- THE CONDITION. -/
def Cfg.vc (c : Cfg) : Code → List Nat → St → (Ex → St → Prop) → Prop
  | .skip, _, st, K => K .normal st
  | .label _, _, st, K => K .normal st
  | .ret, _, st, K => K .ret st
  | .exit id, _, st, K => K (.exit id) st
  | .region _ ops draw, W, st, K => cond draw (cond (c.drawOK ops) (c.drawK W ops ops.size (Array.replicate ops.size false) st (K .normal)) False) (c.seqK W ops ops.toList st (K .normal))
  | .seq a b, W, st, K => c.vc a W st fun e st => match e with
    | .normal => c.vc b W st K
    | .ret => K .ret st
    | .exit id => K (.exit id) st
  | .cond x a b, W, st, K => match c.ev st x with
    | .p .bool z => cond z (c.vc a W st K) (c.vc b W st K)
    | _ => False
  | .block id b, W, st, K => c.vc b W st fun e st => match e with
    | .normal => K .normal st
    | .ret => K .ret st
    | .exit j => cond (Nat.beq j id) (K .normal st) (K (.exit j) st)
  | .scope b, W, st, K => c.vc b W st K
  | .loop b, W, st, K =>
    cond (b.dsts'.all (W.contains ·) && ownAll (frzH (c.lv b.firstRegion').2.2 0 st.hp) (c.lv b.firstRegion').2.1 && shutIds st.hp (c.lv b.firstRegion').2.2)
      (Cfg.loopV (c.lv b.firstRegion').1 (c.lv b.firstRegion').2.1 b.dsts' { st with hp := frzH (c.lv b.firstRegion').2.2 0 st.hp } (fun st' back => c.vc b b.dsts' st' back) K) False
  | _, _, _, _ => False

def Cfg.resK (c : Cfg) (st : St) : List ResultVar → (List EV → Prop) → Prop
  | [], K => K []
  | .tmp t :: r, K => c.resK st r fun vs => K (st.env t :: vs)
  | .cell a t :: r, K => Cfg.ptK st (st.env a) fun cs off => c.ldK t cs off fun v => c.resK st r fun vs => K (v :: vs)

def Cfg.retK (c : Cfg) (fn : Func) (out : Shape) (st : St) (R : out.Val → Prop) : Prop :=
  c.resK st fn.results.toList fun vs => match vs with
    | [v] => decV c st out v R
    | vs => match out, R with
      | .tup f, R => decS c st f vs R
      | _, _ => False

/-- The condition of a function's contract. -/
def Cfg.fnK (c : Cfg) (f : FuncId) (args : List EV) (out : Shape) (R : out.Val → Prop) : Prop :=
  match c.P.funcs[f]? with
  | some fn => match fn.body with
    | some b => cond (b.dsts'.all (fun d => Nat.blt d fn.ntmps) && !(fn.name == "runtime.NumGoroutine")) (c.vc b b.dsts' { env := fun i => (args[i]?).getD .bot, hp := [] } fun e st => match e with
      | .normal => c.retK fn out st R
      | .ret => c.retK fn out st R
      | .exit _ => False) False
    | none => False
  | none => False
end Go.Proofs.YtjeoelajkncpcaaDoor.V
