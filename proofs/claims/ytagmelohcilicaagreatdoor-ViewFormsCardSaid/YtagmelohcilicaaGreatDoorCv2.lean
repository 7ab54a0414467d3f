/-
The abstract machine: what each operation does to values that stand for data, without addresses, capacities and orders.
-/
import Derived.Test.YtagmelohcilicaaGreatDoorCv1
namespace Go.Proofs.Cdm
open Go

/-- A step into a struct, an array, a filter. -/
inductive Stp where
  | l | r | i (n : Nat) | f (j : Nat)
  deriving DecidableEq, Inhabited

/-- A value in a function's frame. -/
inductive AV where
  | ro (t : Ty) (x : t.den)
  | nils (t : Ty)
  | own (d g : Nat)
  | ptr (d : Nat) (p : List Stp) (t : Ty)
  | pel (d g i : Nat) (p : List Stp) (t : Ty)
  | rpt (t : Ty) (x : t.den)
  | unit
  | pair (a b : AV)
  | tup (a : AV)
  | fn (f : FuncId) (first caps : AV)
  | ipt (t : TypeId) (d : Nat)
  | nilp
  | undef
instance : Inhabited AV := ⟨.undef⟩

/-- A variable in memory, or a slice of the call's own. -/
inductive Blk where
  | box (ty : Ty) (v : AV)
  | sl (t : Ty) (e : TypeId) (g : Nat) (ex : Bool) (l : List t.den)
  | dead
instance : Inhabited Blk := ⟨.dead⟩

def look {α : Type} : List (Nat × α) → Nat → Option α
  | [], _ => none
  | x :: r, k => bif Nat.beq x.1 k then some x.2 else look r k

structure St where
  tm : List (Nat × AV)
  si : List (Nat × Blk)
def St.t (st : St) (k : Nat) : AV := (look st.tm k).getD .undef
def St.s (st : St) (k : Nat) : Option Blk := look st.si k
def St.upd (st : St) (tm : List (Nat × AV)) (si : List (Nat × Blk)) : St := ⟨tm ++ st.tm, si ++ st.si⟩

inductive Res where
  | t (k : Nat) | s (k : Nat)
def Res.beq : Res → Res → Bool
  | .t a, .t b => Nat.beq a b
  | .s a, .s b => Nat.beq a b
  | _, _ => false

/-- What an operation asks of the frame. -/
inductive Q (α : Type) : Type 1 where
  | pure (a : α)
  | fail
  | getT (t : Nat) (k : AV → Q α)
  | getS (d : Nat) (k : Option Blk → Q α)
  | opt {β : Type} (o : Option β) (k : β → Q α)
  | chk (p : Prop) (dp : Decidable p) (k : Q α)
  | br (b : Bool) (x y : Q α)
namespace Q
def bind {α β : Type} : Q α → (α → Q β) → Q β
  | .pure a, f => f a
  | .fail, _ => .fail
  | .getT t k, f => .getT t fun v => (k v).bind f
  | .getS d k, f => .getS d fun v => (k v).bind f
  | .opt o k, f => .opt o fun v => (k v).bind f
  | .chk p dp k, f => .chk p dp (k.bind f)
  | .br b x y, f => .br b (x.bind f) (y.bind f)
/-- In the frame's own words: what comes out, and what was read. -/
def run {α R : Type} (st : St) : Q α → List Res → (α → List Res → Option R) → Option R
  | .pure a, rs, k => k a rs
  | .fail, _, _ => none
  | .getT t f, rs, k => (f (st.t t)).run st (rs ++ [.t t]) k
  | .getS d f, rs, k => (f (st.s d)).run st (rs ++ [.s d]) k
  | .opt o f, rs, k => o.bind fun b => (f b).run st rs k
  | .chk p dp f, rs, k => @ite _ p dp (f.run st rs k) none
  | .br b x y, rs, k => match b with
    | true => x.run st rs k
    | false => y.run st rs k
/-- Outright. -/
def ev {α : Type} (st : St) : Q α → Option α
  | .pure a => some a
  | .fail => none
  | .getT t f => (f (st.t t)).ev st
  | .getS d f => (f (st.s d)).ev st
  | .opt o f => o.bind fun b => (f b).ev st
  | .chk p dp f => @ite _ p dp (f.ev st) none
  | .br b x y => match b with
    | true => x.ev st
    | false => y.ev st
/-- What is read on the way. -/
def reads {α : Type} (st : St) : Q α → List Res
  | .pure _ => []
  | .fail => []
  | .getT t f => .t t :: (f (st.t t)).reads st
  | .getS d f => .s d :: (f (st.s d)).reads st
  | .opt o f => match o with
    | some b => (f b).reads st
    | none => []
  | .chk p dp f => @ite _ p dp (f.reads st) []
  | .br b x y => match b with
    | true => x.reads st
    | false => y.reads st
end Q
instance : Monad Q where
  pure := Q.pure
  bind := Q.bind

/-! ### Filters' fields -/
def Flt.op : Flt → Int | .mk x _ _ _ _ _ => x
def Flt.key : Flt → Int | .mk _ x _ _ _ _ => x
def Flt.lo : Flt → Int | .mk _ _ x _ _ _ => x
def Flt.hi : Flt → Int | .mk _ _ _ x _ _ => x
def Flt.tag : Flt → List UInt8 | .mk _ _ _ _ x _ => x
def Flt.args : Flt → List Flt | .mk _ _ _ _ _ x => x

/-! ### Typed data: a part, and another part in its place -/
def castT (u t : Ty) (y : u.den) : Option t.den := if h : u = t then some (h ▸ y) else none

def getT {α : Type} : List Stp → (t : Ty) → t.den → ((t : Ty) → t.den → Q α) → Q α
  | [], t, x, k => k t x
  | .l :: p, .cons a _, x, k => getT p a x.1 k
  | .r :: p, .cons _ b, x, k => getT p b x.2 k
  | .i n :: p, .array _ t, l, k => .opt (l[n]?) fun y => getT p t y k
  | [.f 0], .flt, f, k => k (.int .i64) f.op
  | [.f 1], .flt, f, k => k (.int .i64) f.key
  | [.f 2], .flt, f, k => k (.int .i64) f.lo
  | [.f 3], .flt, f, k => k (.int .i64) f.hi
  | [.f 4], .flt, f, k => k .str f.tag
  | [.f 5], .flt, f, k => k (.slice .flt) f.args
  | _, _, _, _ => .fail

def setT {α : Type} : List Stp → (t : Ty) → t.den → (u : Ty) → u.den → (t.den → Q α) → Q α
  | [], t, _, u, y, k => .opt (castT u t y) k
  | .l :: p, .cons a _, x, u, y, k => setT p a x.1 u y fun z => k (z, x.2)
  | .r :: p, .cons _ b, x, u, y, k => setT p b x.2 u y fun z => k (x.1, z)
  | .i n :: p, .array _ t, l, u, y, k => .opt (l[n]?) fun x => setT p t x u y fun z => k (l.set n z)
  | [.f 0], .flt, f, u, y, k => .opt (castT u (.int .i64) y) fun z => k (.mk z f.key f.lo f.hi f.tag f.args)
  | [.f 1], .flt, f, u, y, k => .opt (castT u (.int .i64) y) fun z => k (.mk f.op z f.lo f.hi f.tag f.args)
  | [.f 2], .flt, f, u, y, k => .opt (castT u (.int .i64) y) fun z => k (.mk f.op f.key z f.hi f.tag f.args)
  | [.f 3], .flt, f, u, y, k => .opt (castT u (.int .i64) y) fun z => k (.mk f.op f.key f.lo z f.tag f.args)
  | [.f 4], .flt, f, u, y, k => .opt (castT u .str y) fun z => k (.mk f.op f.key f.lo f.hi z f.args)
  | [.f 5], .flt, f, u, y, k => .opt (castT u (.slice .flt) y) fun z => k (.mk f.op f.key f.lo f.hi f.tag z)
  | _, _, _, _, _, _ => .fail

/-- Where a part lies, and of which type it is. -/
def offT : List Stp → Ty → Option (Nat × Ty)
  | [], t => some (0, t)
  | .l :: p, .cons a _ => offT p a
  | .r :: p, .cons a b => (offT p b).map fun x => (a.size + x.1, x.2)
  | .i n :: p, .array m t => bif Nat.blt n m then (offT p t).map fun x => (n * t.size + x.1, x.2) else none
  | [.f 0], .flt => some (0, .int .i64)
  | [.f 1], .flt => some (1, .int .i64)
  | [.f 2], .flt => some (2, .int .i64)
  | [.f 3], .flt => some (3, .int .i64)
  | [.f 4], .flt => some (4, .str)
  | [.f 5], .flt => some (5, .slice .flt)
  | _, _ => none

def rsteps : Nat → List Stp
  | 0 => [.l]
  | n + 1 => .r :: rsteps n
def Ty.nf : Ty → Nat
  | .cons _ b => b.nf + 1
  | .flt => 6
  | _ => 0
def fstep : Ty → Nat → List Stp
  | .flt, j => [.f j]
  | _, j => rsteps j

/-! ### Values of the frame: parts -/
def getA {α : Type} : List Stp → AV → (AV → Q α) → Q α
  | [], v, k => k v
  | s :: p, .ro t x, k => getT (s :: p) t x fun u y => k (.ro u y)
  | .l :: p, .pair a _, k => getA p a k
  | .r :: p, .pair _ b, k => getA p b k
  | _, _, _ => .fail

/-- A value stands at a place of a type. -/
def fits : AV → Ty → Bool
  | .ro t _, u => decide (t = u)
  | .nils t, .slice u => decide (t = u)
  | .own _ _, .slice _ => true
  | .ptr _ _ _, .op => true
  | .pel _ _ _ _ _, .op => true
  | .rpt _ _, .op => true
  | .fn _ _ _, .op => true
  | .ipt _ _, .ifc => true
  | .nilp, .op => true
  | .unit, .unit => true
  | .pair a b, .cons t u => fits a t && fits b u
  | _, _ => false

def setA {α : Type} : List Stp → AV → AV → (AV → Q α) → Q α
  | [], _, u, k => k u
  | .l :: p, .pair a b, u, k => setA p a u fun a' => k (.pair a' b)
  | .r :: p, .pair a b, u, k => setA p b u fun b' => k (.pair a b')
  | .l :: p, .ro (.cons s t) x, u, k => setA p (.ro s x.1) u fun a' => k (.pair a' (.ro t x.2))
  | .r :: p, .ro (.cons s t) x, u, k => setA p (.ro t x.2) u fun b' => k (.pair (.ro s x.1) b')
  | s :: p, .ro t x, .ro t' y, k => setT (s :: p) t x t' y fun z => k (.ro t z)
  | _, _, _, _ => .fail

/-! ### Zero values -/
def zeroT : (t : Ty) → t.den
  | .int _ => (0 : Int)
  | .bool => false
  | .str => []
  | .ifc => DV.nilI
  | .flt => .mk 0 0 0 0 [] []
  | .slice _ => []
  | .unit => ()
  | .cons a b => (zeroT a, zeroT b)
  | .array n t => List.replicate n (zeroT t)
  | .op => ()
def zeroA : Ty → AV
  | .slice t => .nils t
  | .cons a b => .pair (zeroA a) (zeroA b)
  | .unit => .unit
  | .op => .nilp
  | t => .ro t (zeroT t)

/-! ### From the frame's values to deep data: what is led to is not stored into any more -/
def toT0 {α : Type} : (t : Ty) → AV → (t.den → List (Nat × Blk) → Q α) → Q α
  | t, .ro u x, k => .opt (castT u t x) fun y => k y []
  | .slice t, .nils u, k => .chk (u = t) inferInstance (k [] [])
  | .slice t, .own d g, k => .getS d fun b => match b with
    | some (.sl u e g' _ l) => .chk (g = g') inferInstance (.opt (castT (.slice u) (.slice t) l) fun y => k y [(d, .sl u e g' false l)])
    | _ => .fail
  | .cons t u, .pair a b, k => toT0 t a fun x m => toT0 u b fun y n => k (x, y) (m ++ n)
  | .unit, .unit, k => k () []
  | _, _, _ => .fail
def toT {α : Type} : (t : Ty) → AV → (t.den → List (Nat × Blk) → Q α) → Q α
  | .ifc, .ipt tid d, k => .chk (¬ (1000 ≤ d ∧ d < 10000)) inferInstance <| .getS d fun b => match b with
    | some (.box ty v) => toT0 ty v fun x m => k (DV.ifc tid false [.ptr (enc ty x)]) ((d, .dead) :: m)
    | _ => .fail
  | .cons t u, .pair a b, k => toT t a fun x m => toT u b fun y n => k (x, y) (m ++ n)
  | t, v, k => toT0 t v k

/-! ### Reading values -/
def AV.prj (t : Ty) : AV → Option t.den
  | .ro u x => castT u t x
  | _ => none
def asInt {α : Type} (v : AV) (k : IntKind → Int → Q α) : Q α :=
  match v with
  | .ro (.int j) x => k j x
  | _ => .fail
def asBool {α : Type} (v : AV) (k : Bool → Q α) : Q α :=
  match v with
  | .ro .bool b => k b
  | _ => .fail

/-! ### What is told of a program beside its text -/
structure TI where
  ty : Ty
  e : TypeId
  bytes : Nat
  cmp : Bool
inductive Sh where
  | ro (t : Ty)
  | own (t : Ty) (e : TypeId)
  | box (t : Ty)
  | unit
  | pair (a b : Sh)
inductive Ann where
  | leaf
  | node (l r : Ann)
  | keep (ts ss : List Nat) (co : List (Nat × Nat × Ty × TypeId)) (l r : Ann)
def Ann.a : Ann → Ann
  | .node l _ => l
  | .keep _ _ _ l _ => l
  | .leaf => .leaf
def Ann.b : Ann → Ann
  | .node _ r => r
  | .keep _ _ _ _ r => r
  | .leaf => .leaf
abbrev Ret := List AV × List Blk
structure Env where
  P : Program
  T : TypeId → Option TI
  ann : FuncId → Ann
  shp : FuncId → List Sh
  ext : FuncId → Option (List AV → List Blk → Option Ret)

/-- What an operation comes to: writes; or a call, whose results then are written. -/
inductive Pend where
  | done (tm : List (Nat × AV)) (si : List (Nat × Blk))
  | call (f : FuncId) (args : List AV) (bs : List Blk) (dst : Option Nat) (shs : List Sh) (ids : List (Nat × Ty)) (marks : List (Nat × Blk))

section ops
variable (E : Env)
def ty {α : Type} (t : TypeId) (k : TI → Q α) : Q α :=
  match E.T t with
  | some i => k i
  | none => .fail

def constA {α : Type} (t : TypeId) (v : Value) (k : AV → Q α) : Q α :=
  match v with
  | .int j n => k (.ro (.int j) n)
  | .bool b => k (.ro .bool b)
  | .string s => .chk (s.data.toList.length ≤ 140737488355328) inferInstance (k (.ro .str s.data.toList))
  | .nilIface => k (.ro .ifc .nilI)
  | .slice none 0 0 => ty E t fun i => match i.ty with
    | .slice u => k (.nils u)
    | _ => .fail
  | .pointer none => k .nilp
  | .nilFunc => k .nilp
  | _ => .fail
/-- An operand; 't' is the type that a constant nil has. -/
def opd {α : Type} (t : TypeId) (x : Operand) (k : AV → Q α) : Q α :=
  match x with
  | .tmp u => .getT u k
  | .const v => constA E t v k
  | .func f => k (.fn f .unit .unit)
  | .global _ => .fail

def put1 (o : Oper) (v : AV) (si : List (Nat × Blk)) : Q Pend :=
  match o.dst with
  | some d => .pure (.done [(d, v)] si)
  | none => .pure (.done [] si)
/-- A new site: the operation's own slot. -/
def fresh {α : Type} (o : Oper) (k : Nat → Q α) : Q α :=
  match o.dst with
  | some d => .getS d fun b => match b with
    | none => k d
    | some _ => .fail
  | none => .fail

/-- All parts of a struct, one by one, in their places. -/
def fill {α : Type} (fz : Bool) : (t : Ty) → AV → List (Nat × AV) → List (Nat × Blk) → (AV → List (Nat × Blk) → Q α) → Q α
  | _, v, [], m, k => k v m
  | .flt, .ro .flt f, (j, u) :: r, m, k =>
    match offT [.f j] .flt with
    | some x => toT x.2 u fun y n => setT [.f j] .flt f x.2 y fun g => fill fz .flt (.ro .flt g) r (m ++ n) k
    | none => .fail
  | .array n t, .ro (.array n' t') l, (j, u) :: r, m, k =>
    toT t u fun y q => setT [.i j] (.array n' t') l t y fun g => fill fz (.array n t) (.ro (.array n' t') g) r (m ++ q) k
  | t, v, (j, u) :: r, m, k =>
    match offT (rsteps j) t with
    | some x => bif fz then toT x.2 u fun y q => setA (rsteps j) v (.ro x.2 y) fun v' => fill fz t v' r (m ++ q) k
      else .chk (fits u x.2 = true) inferInstance (setA (rsteps j) v u fun v' => fill fz t v' r m k)
    | none => .fail

def toTs {α : Type} (t : Ty) : List AV → (List t.den → List (Nat × Blk) → Q α) → Q α
  | [], k => k [] []
  | v :: r, k => toT t v fun x m => toTs t r fun l n => k (x :: l) (m ++ n)

def opds {α : Type} : List (TypeId × Operand) → (List AV → Q α) → Q α
  | [], k => k []
  | (t, x) :: r, k => opd E t x fun v => opds r fun l => k (v :: l)

/-- A slice's elements, to be read alone; marks: what is not stored into any more. -/
def rows {α : Type} (t : Ty) (v : AV) (k : List t.den → Q α) : Q α :=
  match v with
  | .ro u x => .opt (castT u (.slice t) x) k
  | .nils u => .chk (u = t) inferInstance (k [])
  | .own d g => .getS d fun b => match b with
    | some (.sl u _ g' _ l) => .chk (g = g') inferInstance (.opt (castT (.slice u) (.slice t) l) k)
    | _ => .fail
  | _ => .fail
end ops

/-! ### Reckoning -/
def intBin {α : Type} (op : BinOp) (j : IntKind) (a b : Int) (k : AV → Q α) : Q α :=
  match op with
  | .add => k (.ro (.int j) (j.wrap (a + b)))
  | .sub => k (.ro (.int j) (j.wrap (a - b)))
  | .mul => k (.ro (.int j) (j.wrap (a * b)))
  | .quo => .chk (b ≠ 0) inferInstance (k (.ro (.int j) (j.wrap (a.tdiv b))))
  | .rem => .chk (b ≠ 0) inferInstance (k (.ro (.int j) (a.tmod b)))
  | .and => k (.ro (.int j) (j.wrap (BitVec.ofInt j.bits a &&& BitVec.ofInt j.bits b).toNat))
  | .or => k (.ro (.int j) (j.wrap (BitVec.ofInt j.bits a ||| BitVec.ofInt j.bits b).toNat))
  | .xor => k (.ro (.int j) (j.wrap (BitVec.ofInt j.bits a ^^^ BitVec.ofInt j.bits b).toNat))
  | .eql => k (.ro .bool (decide (a = b)))
  | .neq => k (.ro .bool (!decide (a = b)))
  | .lss => k (.ro .bool (decide (a < b)))
  | .leq => k (.ro .bool (decide (a ≤ b)))
  | .gtr => k (.ro .bool (decide (b < a)))
  | .geq => k (.ro .bool (decide (b ≤ a)))
  | _ => .fail
def shiftBin {α : Type} (op : BinOp) (j : IntKind) (a b : Int) (k : AV → Q α) : Q α :=
  match op with
  | .shl => .chk (0 ≤ b) inferInstance (k (.ro (.int j) (j.wrap (a * 2 ^ min b.toNat j.bits))))
  | .shr => .chk (0 ≤ b) inferInstance (k (.ro (.int j) (a.fdiv (2 ^ min b.toNat j.bits))))
  | _ => .fail
def strBin {α : Type} (op : BinOp) (a b : List UInt8) (k : AV → Q α) : Q α :=
  match op with
  | .add => .chk (a.length + b.length ≤ 140737488355328) inferInstance (k (.ro .str (a ++ b)))
  | .eql => k (.ro .bool (decide (a = b)))
  | .neq => k (.ro .bool (!decide (a = b)))
  | .lss => k (.ro .bool (Op.bytesLess a b))
  | .leq => k (.ro .bool (Op.bytesLess a b || decide (a = b)))
  | .gtr => k (.ro .bool (!(Op.bytesLess a b || decide (a = b))))
  | .geq => k (.ro .bool (!Op.bytesLess a b))
  | _ => .fail
def DV.isNil : DV → Bool
  | .nilI => true
  | _ => false
def eqT : (t : Ty) → t.den → t.den → Bool
  | .int _, a, b => decide ((a : Int) = b)
  | .bool, a, b => a == b
  | .str, a, b => decide ((a : List UInt8) = b)
  | .unit, _, _ => true
  | .cons s t, a, b => eqT s a.1 b.1 && eqT t a.2 b.2
  | .array _ t, a, b => go (eqT t) a b
  | _, _, _ => false
where
  go {α : Type} (f : α → α → Bool) : List α → List α → Bool
    | x :: l, y :: m => f x y && go f l m
    | _, _ => true
def eqBin {α : Type} (op : BinOp) (b : Bool) (k : AV → Q α) : Q α :=
  match op with
  | .eql => k (.ro .bool b)
  | .neq => k (.ro .bool (!b))
  | _ => .fail
def isConst : Operand → Bool
  | .const _ => true
  | _ => false

section ops
variable (E : Env)
def binQ {α : Type} (op : BinOp) (xt : TypeId) (x y : Operand) (k : AV → Q α) : Q α :=
  opd E xt x fun a => opd E xt y fun b =>
  match a, b with
  | .ro (.int j) m, .ro (.int j') n =>
    match op with
    | .shl => shiftBin .shl j m n k
    | .shr => shiftBin .shr j m n k
    | _ => .chk (j = j') inferInstance (intBin op j m n k)
  | .ro .str m, .ro .str n => strBin op m n k
  | .ro .bool m, .ro .bool n => ty E xt fun i => .chk (i.ty = .bool) inferInstance (eqBin op (m == n) k)
  | .ro .ifc m, .ro .ifc n => ty E xt fun i => .chk (i.ty = .ifc) inferInstance (
      match y with
      | .const .nilIface => eqBin op m.isNil k
      | _ => match x with
        | .const .nilIface => eqBin op n.isNil k
        | _ => .fail)
  | .ipt _ _, .ro .ifc _ => ty E xt fun i => .chk (i.ty = .ifc) inferInstance (match y with
      | .const .nilIface => eqBin op false k
      | _ => .fail)
  | a, b => ty E xt fun i => .chk (i.cmp = true) inferInstance (toT i.ty a fun m _ => toT i.ty b fun n _ => eqBin op (eqT i.ty m n) k)

def unQ {α : Type} (op : UnOp) (v : AV) (k : AV → Q α) : Q α :=
  match op, v with
  | .not, .ro .bool b => k (.ro .bool (!b))
  | .neg, .ro (.int j) n => k (.ro (.int j) (j.wrap (0 - n)))
  | .xor, .ro (.int j) n => k (.ro (.int j) (j.wrap (BitVec.ofInt j.bits (if j.signed then -1 else j.max) ^^^ BitVec.ofInt j.bits n).toNat))
  | _, _ => .fail

def convQ {α : Type} (src dst : TypeId) (v : AV) (k : AV → Q α) : Q α :=
  ty E src fun s => ty E dst fun d =>
  match s.ty, d.ty with
  | .int _, .int j' => match v with
    | .ro (.int _) n => k (.ro (.int j') (j'.wrap n))
    | _ => .fail
  | .str, .str => match v with
    | .ro .str x => k (.ro .str x)
    | _ => .fail
  | .str, .slice (.int .u8) => ty E d.e fun e => .chk (e.ty = .int .u8) inferInstance <| match v with
    | .ro .str x => k (.ro (.slice (.int .u8)) (x.map fun b => (b.toNat : Int)))
    | _ => .fail
  | .slice (.int .u8), .str => ty E s.e fun e => .chk (e.ty = .int .u8) inferInstance <| rows (.int .u8) v fun l => k (.ro .str (l.map fun (n : Int) => UInt8.ofNat n.toNat))
  | _, _ => .fail

/-- A bound of a cut. -/
def bnd {α : Type} (x : Option AV) (k : Option Nat → Q α) : Q α :=
  match x with
  | none => k none
  | some (.ro (.int _) n) => .chk (0 ≤ (n : Int)) inferInstance (k (some (n : Int).toNat))
  | _ => .fail
def cutL {α β : Type} (l : List β) (lo hi : Option Nat) (k : List β → Q α) : Q α :=
  match lo, hi with
  | none, none => k l
  | some a, none => .chk (a ≤ l.length) inferInstance (k (l.drop a))
  | none, some b => .chk (b ≤ l.length) inferInstance (k (l.take b))
  | some a, some b => .chk (a ≤ b) inferInstance (.chk (b ≤ l.length) inferInstance (k ((l.take b).drop a)))
def bndOpd {α : Type} (t : TypeId) (x : Option Operand) (k : Option Nat → Q α) : Q α :=
  match x with
  | none => k none
  | some y => opd E t y fun v => bnd (some v) k
def sliceQ (o : Oper) (t : TypeId) (x : AV) (lo hi mx : Option Nat) : Q Pend :=
  ty E t fun i =>
  match i.ty, mx with
  | .str, none => match x with
    | .ro .str s => cutL s lo hi fun s' => put1 o (.ro .str s') []
    | _ => .fail
  | .slice u, none => match x with
    | .nils _ => .chk (lo.getD 0 = 0 ∧ hi.getD 0 = 0) inferInstance (put1 o (.nils u) [])
    | _ => toT0 (.slice u) x fun l m => cutL l lo hi fun l' => put1 o (.ro (.slice u) l') m
  | .slice u, some m => .chk (m = 0) inferInstance (.chk (hi = some 0) inferInstance (.chk (lo.getD 0 = 0) inferInstance (rows u x fun _ => put1 o (.nils u) [])))
  | _, _ => .fail

def indexAddrQ (o : Oper) (t : TypeId) (x i : AV) : Q Pend :=
  ty E t fun ti => asInt i fun _ n => .chk (0 ≤ n) inferInstance (
  match ti.ty, x with
  | .slice u, .ro s l => .opt (castT s (.slice u) l) fun l => .opt (l[n.toNat]?) fun y => put1 o (.rpt u y) []
  | .slice u, .own d g => .getS d fun b => match b with
    | some (.sl u' _ g' _ l) => .chk (g = g' ∧ u = u') inferInstance (.chk (n.toNat < l.length) inferInstance (put1 o (.pel d g n.toNat [] u) []))
    | _ => .fail
  | .array m u, .ptr d p s => .chk (n.toNat < m ∧ s = .array m u) inferInstance (put1 o (.ptr d (p ++ [.i n.toNat]) u) [])
  | .array m u, .rpt s x => .opt (castT s (.array m u) x) fun l => .opt (l[n.toNat]?) fun y => put1 o (.rpt u y) []
  | _, _ => .fail)

def fieldAddrQ (o : Oper) (t : TypeId) (x : AV) (j : Nat) : Q Pend :=
  ty E t fun i => match offT (fstep i.ty j) i.ty with
  | some q => .chk (j < i.ty.nf) inferInstance (
    match x with
    | .ptr d p s => .chk (s = i.ty) inferInstance (put1 o (.ptr d (p ++ fstep i.ty j) q.2) [])
    | .pel d g n p s => .chk (s = i.ty) inferInstance (put1 o (.pel d g n (p ++ fstep i.ty j) q.2) [])
    | .rpt s y => .chk (s = i.ty) inferInstance (getT (fstep i.ty j) s y fun u z => put1 o (.rpt u z) [])
    | _ => .fail)
  | none => .fail

def loadQ (o : Oper) (t : TypeId) (x : AV) : Q Pend :=
  ty E t fun i =>
  match x with
  | .ptr d p s => .chk (s = i.ty) inferInstance (.getS d fun b => match b with
    | some (.box _ v) => getA p v fun u => put1 o u []
    | _ => .fail)
  | .rpt s y => .chk (s = i.ty) inferInstance (put1 o (.ro s y) [])
  | .pel d g n p s => .chk (s = i.ty) inferInstance (.getS d fun b => match b with
    | some (.sl u _ g' _ l) => .chk (g = g') inferInstance (.opt (l[n]?) fun y => getT p u y fun s z => put1 o (.ro s z) [])
    | _ => .fail)
  | _ => .fail

def storeQ (o : Oper) (t : TypeId) (x v : AV) : Q Pend :=
  ty E t fun i =>
  match x with
  | .ptr d p s => .chk (s = i.ty ∧ fits v i.ty = true ∧ o.dst = none) inferInstance (.getS d fun b => match b with
    | some (.box s w) => setA p w v fun w' => .pure (.done [] [(d, .box s w')])
    | _ => .fail)
  | .pel d g n p s => .chk (s = i.ty ∧ o.dst = none) inferInstance (.getS d fun b => match b with
    | some (.sl u e g' true l) => .chk (g = g') inferInstance (toT i.ty v fun y m => .chk (m.all (fun z => !Nat.beq z.1 d) = true) inferInstance (.opt (l[n]?) fun z => setT p u z i.ty y fun z' => .pure (.done [] ((d, .sl u e g' true (l.set n z')) :: m))))
    | _ => .fail)
  | _ => .fail

/-- What is appended, behind what is there. -/
def addQ {α : Type} (st xt : TypeId) (bytes : Nat) (u jt : Ty) (x : AV) (l : List u.den) (k : List u.den → Q α) : Q α :=
  match jt with
  | .str => match x with
    | .ro .str y => .opt (castT (.slice (.int .u8)) (.slice u) (y.map fun b => (b.toNat : Int))) fun m => .chk ((l.length + m.length) * bytes ≤ 140737488355328) inferInstance (k (l ++ m))
    | _ => .fail
  | .slice _ => .chk (st = xt) inferInstance (rows u x fun m => .chk ((l.length + m.length) * bytes ≤ 140737488355328) inferInstance (k (l ++ m)))
  | _ => .fail
def appendQ (o : Oper) (st xt : TypeId) (s x : AV) : Q Pend :=
  ty E st fun i => ty E xt fun j =>
  match i.ty with
  | .slice u =>
    match s with
    | .nils u' => .chk (u' = u) inferInstance (fresh o fun d => addQ st xt i.bytes u j.ty x [] fun l => put1 o (.own d 0) [(d, .sl u i.e 0 true l)])
    | .own d g => .getS d fun b => match b with
      | some (.sl u' e g' ex l) => .chk (g = g' ∧ u' = u ∧ e = i.e) inferInstance (.opt (castT (.slice u') (.slice u) l) fun l => addQ st xt i.bytes u j.ty x l fun l' => put1 o (.own d (g + 1)) [(d, .sl u i.e (g + 1) ex l')])
      | _ => .fail
    | _ => .fail
  | _ => .fail

def minmaxFrom {α : Type} (mx : Bool) (j : IntKind) : Int → List AV → (AV → Q α) → Q α
  | a, [], k => k (.ro (.int j) a)
  | a, .ro (.int j') b :: r, k => .chk (j = j') inferInstance (minmaxFrom mx j (if mx then max a b else min a b) r k)
  | _, _, _ => .fail
def minmax {α : Type} (mx : Bool) (l : List AV) (k : AV → Q α) : Q α :=
  match l with
  | .ro (.int j) a :: r => minmaxFrom mx j a r k
  | _ => .fail

def lenQ (o : Oper) (t : TypeId) (x : AV) : Q Pend :=
  ty E t fun i =>
  match i.ty, x with
  | .str, .ro .str s => put1 o (.ro (.int .i64) (s.length : Int)) []
  | .slice _, .nils _ => put1 o (.ro (.int .i64) (0 : Int)) []
  | .slice u, _ => rows u x fun l => put1 o (.ro (.int .i64) (l.length : Int)) []
  | .array n _, _ => put1 o (.ro (.int .i64) (n : Int)) []
  | _, _ => .fail

/-! ### Calls -/
def ids : AV → List Nat
  | .ptr d _ _ => [d]
  | .ipt _ d => [d]
  | .fn _ a b => ids a ++ ids b
  | .pair a b => ids a ++ ids b
  | _ => []
def addId (l : List Nat) (d : Nat) : List Nat := bif l.any (Nat.beq d) then l else l ++ [d]
def place (l : List Nat) (d : Nat) : Nat := go l 1000
where
  go : List Nat → Nat → Nat
    | [], n => n
    | x :: r, n => bif Nat.beq x d then n else go r (n + 1)
def ren (l : List Nat) : AV → AV
  | .ptr d p t => .ptr (place l d) p t
  | .ipt t d => .ipt t (place l d)
  | .fn f a b => .fn f (ren l a) (ren l b)
  | .pair a b => .pair (ren l a) (ren l b)
  | v => v
def chain : AV → List AV
  | .pair a b => a :: chain b
  | _ => []
/-- An argument: data; or a pointer, a function, as it is. -/
def argQ {α : Type} (t : TypeId) (v : AV) (k : AV → List (Nat × Blk) → Q α) : Q α :=
  match v with
  | .ptr d p t => k (.ptr d p t) []
  | .fn f a b => k (.fn f a b) []
  | .ipt i d => k (.ipt i d) []
  | v => ty E t fun i => toT i.ty v fun x m => k (.ro i.ty x) m
def argsQ {α : Type} : List (TypeId × AV) → (List AV → List (Nat × Blk) → Q α) → Q α
  | [], k => k [] []
  | (t, v) :: r, k => argQ E t v fun a m => argsQ r fun l n => k (a :: l) (m ++ n)
def boxes {α : Type} : List Nat → (List (Nat × Ty) → List Blk → List (Nat × Blk) → Q α) → Q α
  | [], k => k [] [] []
  | d :: r, k => .getS d fun b => match b with
    | some (.box t v) => toT0 t v fun x m => boxes r fun l bs n => k ((d, t) :: l) (.box t (.ro t x) :: bs) (m ++ n)
    | _ => .fail
/-- What may be handed over as it is. -/
def clean : AV → Bool
  | .own _ _ | .pel _ _ _ _ _ | .tup _ | .undef => false
  | .fn _ a b => clean a && clean b
  | .pair a b => clean a && clean b
  | _ => true
def callQ (o : Oper) (f : FuncId) (args : List AV) (marks : List (Nat × Blk)) : Q Pend :=
  let l := (args.flatMap ids).foldl addId []
  .chk (args.all clean = true) inferInstance <| boxes l fun is bs m => .chk ((marks ++ m).all (fun y => !l.any (Nat.beq y.1)) = true) inferInstance <|
    .pure (.call f (args.map (ren l)) bs o.dst (E.shp f) is (marks ++ m))

/-- Whether the yielded bool of an operation guards another one. -/
def isGuard (ops : Array Oper) (d : Nat) : Bool := ops.any fun o => match o.guard with
  | some (j, _) => match (ops[j]?).bind (·.dst) with
    | some d' => Nat.beq d d'
    | none => false
  | none => false

def pickQ {α : Type} (c a b : AV) (k : AV → Q α) : Q α := asBool c fun x => .br x (k a) (k b)

/-- One operation. -/
def opQ (o : Oper) : Q Pend :=
  match o.op with
  | .move x => opd E o.type x fun v => put1 o v []
  | .assign x => opd E o.type x fun v => put1 o v []
  | .pick c a b => opd E o.type c fun c => opd E o.type a fun a => opd E o.type b fun b => pickQ c a b fun v => put1 o v []
  | .alloc t => ty E t fun i => fresh o fun d => put1 o (.ptr d [] i.ty) [(d, .box i.ty (zeroA i.ty))]
  | .box t x => ty E t fun i => opd E t x fun v => .chk (fits v i.ty = true) inferInstance (fresh o fun d => put1 o (.ptr d [] i.ty) [(d, .box i.ty v)])
  | .build t ps => ty E t fun i => .chk (i.ty.isAgg = true) inferInstance <| opds E (ps.toList.map fun p => (t, p.2)) fun vs =>
      fill (Nat.beq i.e 1) i.ty (zeroA i.ty) ((ps.toList.map (·.1)).zip vs) [] fun v m => put1 o v m
  | .buildSlice t n ps => ty E t fun i => match i.ty with
    | .slice u => .chk (ps.toList.map (·.1) = List.range n) inferInstance (opds E (ps.toList.map fun p => (i.e, p.2)) fun vs =>
        match n with
        | 0 => put1 o (.nils u) []
        | _ + 1 => .chk (n * u.size ≤ 16777216) inferInstance <| toTs u vs fun l m => fresh o fun d => put1 o (.own d 0) ((d, .sl u i.e 0 true l) :: m))
    | _ => .fail
  | .load t a => opd E t a fun a => loadQ E o t a
  | .store t a x => opd E t a fun a => opd E t x fun x => storeQ E o t a x
  | .nilCheck x => opd E o.type x fun v => match v with
    | .ptr d p s => put1 o (.ptr d p s) []
    | .rpt t x => put1 o (.rpt t x) []
    | .pel d g n p s => put1 o (.pel d g n p s) []
    | _ => .fail
  | .binOp op t x y _ => binQ E op t x y fun v => put1 o v []
  | .unOp op t x => opd E t x fun v => unQ op v fun v => put1 o v []
  | .convert s d x => opd E s x fun v => convQ E s d v fun v => put1 o v []
  | .makeInterface t x => opd E t x fun v => ty E t fun i => match v with
    | .ptr d [] _ => .chk (i.ty = .op) inferInstance (put1 o (.ipt t d) [])
    | _ => .chk (i.ty ≠ .ifc) inferInstance (toT i.ty v fun x m => put1 o (.ro .ifc (DV.ifc t i.ty.isAgg (enc i.ty x))) m)
  | .makeFunc (.func f) first caps => opds E (first.toList.map fun x => (o.type, x)) fun a => opds E (caps.toList.map fun x => (o.type, x)) fun b =>
      put1 o (.fn f (a.foldr .pair .unit) (b.foldr .pair .unit)) []
  | .makeSlice t l c => ty E t fun i => match i.ty with
    | .slice u => opd E t l fun l => opd E t c fun c => asInt l fun _ n => asInt c fun _ m =>
        .chk (0 ≤ n ∧ n ≤ m ∧ m * i.bytes ≤ 140737488355328) inferInstance (fresh o fun d => put1 o (.own d 0) [(d, .sl u i.e 0 true (List.replicate n.toNat (zeroT u)))])
    | _ => .fail
  | .slice t x lo hi mx => opd E t x fun x => bndOpd E t lo fun lo => bndOpd E t hi fun hi => bndOpd E t mx fun mx => sliceQ E o t x lo hi mx
  | .fieldAddr t x j => opd E t x fun x => fieldAddrQ E o t x j
  | .field t x j => opd E t x fun x => ty E t fun i => .chk (j < i.ty.nf ∧ fits x i.ty = true) inferInstance (getA (fstep i.ty j) x fun u => put1 o u [])
  | .indexAddr t x i => opd E t x fun x => opd E t i fun i => indexAddrQ E o t x i
  | .index t x i => opd E t x fun x => opd E t i fun i => ty E t fun ti => asInt i fun _ n => .chk (0 ≤ n) inferInstance (
      match ti.ty, x with
      | .str, .ro .str s => .opt (s[n.toNat]?) fun b => put1 o (.ro (.int .u8) (b.toNat : Int)) []
      | .array m u, .ro s y => .opt (castT s (.array m u) y) fun l => .opt (l[n.toNat]?) fun z => put1 o (.ro u z) []
      | _, _ => .fail)
  | .extract x j => opd E o.type x fun v => match v with
    | .tup a => match (chain a)[j]? with
      | some u => put1 o u []
      | none => .fail
    | _ => .fail
  | .call c => match c.callee with
    | .builtin .len => opds E (c.argTypes.toList.zip c.args.toList) fun vs => match vs with
      | [x] => lenQ E o (c.argTypes.getD 0 0) x
      | _ => .fail
    | .builtin .append => opds E (c.argTypes.toList.zip c.args.toList) fun vs => match vs with
      | [s, x] => appendQ E o (c.argTypes.getD 0 0) (c.argTypes.getD 1 0) s x
      | _ => .fail
    | .builtin .max => .chk (c.argTypes.size = c.args.size) inferInstance <| opds E (c.argTypes.toList.zip c.args.toList) fun vs => minmax true vs fun v => put1 o v []
    | .builtin .min => .chk (c.argTypes.size = c.args.size) inferInstance <| opds E (c.argTypes.toList.zip c.args.toList) fun vs => minmax false vs fun v => put1 o v []
    | .value g => .chk (c.argTypes.size = c.args.size) inferInstance <| opd E 0 g fun h => match h with
      | .fn f first caps => opds E (c.argTypes.toList.zip c.args.toList) fun vs => argsQ E (c.argTypes.toList.zip vs) fun as m => callQ E o f (chain first ++ as ++ chain caps) m
      | _ => .fail
    | _ => .fail
  | _ => .fail
end ops

/-! ### Code -/
inductive Ex where
  | normal | ret | exit (id : Nat)

structure Orc where
  call : FuncId → List AV → List Blk → Option Ret
  loop : FuncId → Code → Ann → St → Option (Ex × St)

/-- What a call gave, into the caller's frame. -/
def AV.isOwn (n : Nat) : AV → Option Unit
  | .own d 0 => bif Nat.beq d n then some () else none
  | _ => none
def AV.isPtr (n : Nat) : AV → Option Unit
  | .ptr d [] _ => bif Nat.beq d n then some () else none
  | _ => none
def AV.fst : AV → Option AV
  | .pair a _ => some a
  | _ => none
def AV.snd : AV → Option AV
  | .pair _ b => some b
  | _ => none
def Blk.rows (t : Ty) (e : TypeId) : Blk → Option (List t.den)
  | .sl u e' 0 true l => bif Nat.beq e e' then castT (.slice u) (.slice t) l else none
  | _ => none
def Blk.var (t : Ty) : Blk → Option t.den
  | .box u (.ro s x) => bif decide (u = t) then castT s t x else none
  | _ => none
def nth {α : Type} : List α → Nat → Option α
  | [], _ => none
  | a :: _, 0 => some a
  | _ :: l, n + 1 => nth l n
/-- 'n': how many sites were told already; 'd': the call's slot; 'nb': how many were handed over. -/
def imp {R : Type} (d nb : Nat) (bs : List Blk) : Sh → Nat → AV → (AV → Nat → List (Nat × Blk) → Option R) → Option R
  | .ro t, n, v, k => (v.prj t).bind fun x => k (.ro t x) n []
  | .own t e, n, v, k => (v.isOwn (1000 + nb + n)).bind fun _ => (nth bs (nb + n)).bind fun b => (b.rows t e).bind fun l =>
      k (.own (10000 + 100 * d + n) 0) (n + 1) [(10000 + 100 * d + n, .sl t e 0 true l)]
  | .box t, n, v, k => (v.isPtr (1000 + nb + n)).bind fun _ => (nth bs (nb + n)).bind fun b => (b.var t).bind fun x =>
      k (.ptr (10000 + 100 * d + n) [] t) (n + 1) [(10000 + 100 * d + n, .box t (.ro t x))]
  | .unit, n, v, k => match v with
    | .unit => k .unit n []
    | _ => none
  | .pair a b, n, v, k => v.fst.bind fun x => v.snd.bind fun y => imp d nb bs a n x fun x' n' m => imp d nb bs b n' y fun y' n'' m' => k (.pair x' y') n'' (m ++ m')
def imps {R : Type} (d nb : Nat) (bs : List Blk) : List Sh → Nat → List AV → (List AV → List (Nat × Blk) → Option R) → Option R
  | [], _, [], k => k [] []
  | [], _, _ :: _, _ => none
  | s :: r, n, vs, k => (nth vs 0).bind fun v => imp d nb bs s n v fun v' n' m => imps d nb bs r n' (vs.drop 1) fun l m' => k (v' :: l) (m ++ m')
def backs {R : Type} (bs : List Blk) : Nat → List (Nat × Ty) → (List (Nat × Blk) → Option R) → Option R
  | _, [], k => k []
  | n, x :: r, k => (nth bs n).bind fun b => (b.var x.2).bind fun y => backs bs (n + 1) r fun l => k ((x.1, .box x.2 (.ro x.2 y)) :: l)
def news : List Sh → Bool
  | [] => true
  | _ => false
def tupA : List AV → AV
  | [v] => v
  | l => .tup (l.foldr .pair .unit)
/-- The sites that a call's results take. -/
def Sh.count : Sh → Nat
  | .own _ _ | .box _ => 1
  | .pair a b => a.count + b.count
  | _ => 0
def free (st : St) : List Nat → Bool
  | [] => true
  | d :: r => (match st.s d with | none => true | some _ => false) && free st r
def Pend.run {R : Type} (X : Orc) (st : St) : Pend → (St → Option R) → Option R
  | .done tm si, k => k (st.upd tm si)
  | .call f args bs dst shs ids marks, k => (X.call f args bs).bind fun r => backs r.2 0 ids fun m =>
      match dst with
      | none => k (st.upd [] (m ++ marks))
      | some d => imps d ids.length r.2 shs 0 r.1 fun vs m' => k (st.upd [(d, tupA vs)] (m' ++ m ++ marks))
def Pend.writes : Pend → List Res
  | .done tm si => tm.map (fun x => .t x.1) ++ si.map (fun x => .s x.1)
  | .call _ _ _ dst shs ids marks => dst.toList.map .t ++ (match dst with
      | none => []
      | some d => (List.range (shs.map Sh.count).sum).map fun n => .s (10000 + 100 * d + n)) ++ ids.map (fun x => .s x.1) ++ marks.map fun x => .s x.1
/-- The sites that must be new. -/
def Pend.need : Pend → List Nat
  | .done _ _ => []
  | .call _ _ _ dst shs _ _ => match dst with
      | none => []
      | some d => (List.range (shs.map Sh.count).sum).map fun n => 10000 + 100 * d + n

/-- An operation under its guard; a bool that guards others is parted. -/
def gopQ (E : Env) (ops : Array Oper) (o : Oper) : Q Pend :=
  let act : Q Pend := (opQ E o).bind fun p => match p with
    | .done [(d, .ro .bool b)] si => bif isGuard ops d then .br b (.pure (.done [(d, .ro .bool true)] si)) (.pure (.done [(d, .ro .bool false)] si)) else .pure (.done [(d, .ro .bool b)] si)
    | p => .pure p
  match o.guard with
  | none => act
  | some (j, want) => match (ops[j]?).bind (·.dst) with
    | none => .fail
    | some d => .getT d fun v => asBool v fun b => .br b (bif want then act else skip) (bif want then skip else act)
where skip : Q Pend := match o.dst with
    | some d => .pure (.done [(d, .undef)] [])
    | none => .pure (.done [] [])

structure Foot where
  r : List Res
  w : List Res
def clash (a b : List Res) : Bool := a.any fun x => b.any (Res.beq x)
/-- Operations whose order is open do not meet. -/
def apart (before : Array Nat) : Nat → Foot → Nat → List Foot → Bool
  | _, _, _, [] => true
  | i, f, j, g :: r => ((before.getD j 0).testBit i || !(clash f.w g.w || clash f.w g.r || clash f.r g.w)) && apart before i f (j + 1) r
def allApart (before : Array Nat) : Nat → List Foot → Bool
  | _, [] => true
  | i, f :: r => apart before i f (i + 1) r && allApart before (i + 1) r
/-- The orders that are open are all of them whole. -/
def edgesOk (ops : Array Oper) : Bool := (List.range ops.size).all fun i => match ops[i]? with
  | some o => o.after.all fun e => !Region.binds .any e || Nat.blt e.on i
  | none => true

def runOps {R : Type} (E : Env) (X : Orc) (n : Nat) (ops : Array Oper) : List Nat → St → List Foot → (St → List Foot → Option R) → Option R
  | [], st, fs, k => k st fs
  | i :: r, st, fs, k => match ops[i]? with
    | none => none
    | some o => (gopQ E ops o).run st [] fun p rs =>
        bif (p.need.all fun d => match st.s d with | none => true | some _ => false) && (match o.dst with | some d => Nat.blt d n | none => true) then
          p.run X st fun st' => runOps E X n ops r st' (fs ++ [⟨rs ++ p.need.map .s, p.writes⟩]) k
        else none

mutual
def keepA (ss : List (Nat × Nat)) : AV → AV
  | .own d g => match look ss d with
    | some g' => bif Nat.beq g g' then .own d 0 else .undef
    | none => .undef
  | .ptr d p t => match look ss d with
    | some _ => .ptr d p t
    | none => .undef
  | .pair a b => match keepA ss a with
    | .undef => .undef
    | x => match keepA ss b with
      | .undef => .undef
      | y => .pair x y
  | .tup a => .tup (keepC ss a)
  | .fn f a b => .fn f (keepC ss a) (keepC ss b)
  | .ipt _ _ => .undef
  | .pel _ _ _ _ _ => .undef
  | v => v
/-- A chain, link by link. -/
def keepC (ss : List (Nat × Nat)) : AV → AV
  | .pair a b => .pair (keepA ss a) (keepC ss b)
  | v => v
end
def keepB (ss : List (Nat × Nat)) : Blk → Blk
  | .box t v => match keepA ss v with
    | .undef => .dead
    | w => .box t w
  | .sl t e _ ex l => .sl t e 0 ex l
  | .dead => .dead
def gens (st : St) : List Nat → List (Nat × Nat)
  | [] => []
  | d :: r => match st.s d with
    | some (.sl _ _ g _ _) => (d, g) :: gens st r
    | some (.box _ _) => (d, 0) :: gens st r
    | _ => gens st r
def keepS (st : St) (ss : List (Nat × Nat)) : List (Nat × Nat) → List (Nat × Blk)
  | [] => []
  | x :: r => match st.s x.1 with
    | some b => (x.1, keepB ss b) :: keepS st ss r
    | none => keepS st ss r
/-- Empty slices that are nil, as rows of one's own. -/
def coerce (st : St) : List (Nat × Nat × Ty × TypeId) → St
  | [] => st
  | (s, d, t, e) :: r => match st.t s, st.s d with
    | .nils u, none => bif decide (u = t) && (Nat.blt 0 t.size && Nat.blt d 1000) then coerce (st.upd [(s, .own d 0)] [(d, .sl t e 0 true [])]) r else coerce st r
    | _, _ => coerce st r
/-- Only what is named stays. -/
def norm (h : Ann) (st0 : St) : St :=
  match h with
  | .keep ts ss co _ _ =>
    let st := coerce st0 co
    let gs := gens st ss
    ⟨ts.map fun t => (t, keepA gs (st.t t)), keepS st gs gs⟩
  | _ => st0

def den {R : Type} (E : Env) (X : Orc) (n : Nat) (f : FuncId) : Code → Ann → (Ex → St → Option R) → St → Option R
  | .skip, _, K, st => K .normal st
  | .region _ ops draw, _, K, st => runOps E X n ops (List.range ops.size) st [] fun st' fs =>
      bif !draw || (edgesOk ops && allApart (Region.before ops) 0 fs) then K .normal st' else none
  | .seq a b, h, K, st => den E X n f a h.a (fun e st' => match e with
    | .normal => den E X n f b h.b K (norm h st')
    | e => K e st') st
  | .cond c x y, h, K, st => (opd E 0 c fun v => asBool v Q.pure).run st [] fun b _ => match b with
    | true => den E X n f x h.a K st
    | false => den E X n f y h.b K st
  | .block id c, h, K, st => den E X n f c h.a (fun e st' => match e with
    | .exit j => bif Nat.beq j id then K .normal st' else K (.exit j) st'
    | e => K e st') st
  | .loop c, h, K, st => (X.loop f c h (norm h st)).bind fun r => K r.1 r.2
  | .exit id, _, K, st => K (.exit id) st
  | .ret, _, K, st => K .ret st
  | _, _, _, _ => none

/-! ### A call: in, and out -/
def enter (args : List AV) (bs : List Blk) : St := ⟨number 0 args, number 1000 bs⟩
where number {α : Type} : Nat → List α → List (Nat × α)
    | _, [] => []
    | n, a :: l => (n, a) :: number (n + 1) l
/-- Results: data; or rows and variables of one's own, handed over. 'used': the sites that were handed over already, or read. -/
def exp {α : Type} (nb : Nat) : Sh → List Nat → List Blk → AV → (AV → List Nat → List Blk → Q α) → Q α
  | .ro t, us, bs, v, k => toT t v fun x m => .chk (m.all (fun y => !us.any (Nat.beq y.1)) = true) inferInstance (k (.ro t x) (m.map (·.1) ++ us) bs)
  | .own t e, us, bs, v, k => match v with
    | .nils u => .chk (u = t ∧ 0 < t.size) inferInstance (k (.own (1000 + nb + bs.length) 0) us (bs ++ [.sl t e 0 true []]))
    | .own d g => .getS d fun b => match b with
      | some (.sl u e' g' true l) => .chk (g = g' ∧ e = e' ∧ us.any (Nat.beq d) = false) inferInstance (.opt (castT (.slice u) (.slice t) l) fun l =>
          k (.own (1000 + nb + bs.length) 0) (d :: us) (bs ++ [.sl t e 0 true l]))
      | _ => .fail
    | _ => .fail
  | .box t, us, bs, v, k => match v with
    | .ptr d [] _ => .getS d fun b => match b with
      | some (.box u w) => .chk (u = t ∧ us.any (Nat.beq d) = false ∧ ¬ (1000 ≤ d ∧ d < 10000)) inferInstance (toT0 t w fun x m =>
          .chk (m.all (fun y => !(d :: us).any (Nat.beq y.1)) = true) inferInstance (k (.ptr (1000 + nb + bs.length) [] t) (d :: m.map (·.1) ++ us) (bs ++ [.box t (.ro t x)])))
      | _ => .fail
    | _ => .fail
  | .unit, us, bs, v, k => match v with
    | .unit => k .unit us bs
    | _ => .fail
  | .pair a b, us, bs, v, k => match v with
    | .pair x y => exp nb a us bs x fun x' us bs => exp nb b us bs y fun y' us bs => k (.pair x' y') us bs
    | _ => .fail
def exps {α : Type} (nb : Nat) : List (Sh × AV) → List Nat → List Blk → (List AV → List Nat → List Blk → Q α) → Q α
  | [], us, bs, k => k [] us bs
  | (s, v) :: r, us, bs, k => exp nb s us bs v fun v' us bs => exps nb r us bs fun l us bs => k (v' :: l) us bs
/-- The variables that were handed over, as they are now. -/
def outs {α : Type} : Nat → List Nat → (List Blk → List Nat → Q α) → Q α
  | 0, us, k => k [] us
  | n + 1, us, k => outs n us fun l us => .getS (1000 + n) fun b => match b with
    | some (.box t w) => toT0 t w fun x m => .chk (m.all (fun y => !us.any (Nat.beq y.1)) = true) inferInstance (k (l ++ [.box t (.ro t x)]) (m.map (·.1) ++ us))
    | _ => .fail
def resQ {α : Type} (E : Env) (r : ResultVar) (k : AV → Q α) : Q α :=
  match r with
  | .tmp t => .getT t k
  | .cell a t => .getT a fun v => match v with
    | .ptr d [] _ => ty E t fun i => .getS d fun b => match b with
      | some (.box u w) => .chk (u = i.ty) inferInstance (k w)
      | _ => .fail
    | _ => .fail
def ress {α : Type} (E : Env) : List ResultVar → (List AV → Q α) → Q α
  | [], k => k []
  | r :: l, k => resQ E r fun v => ress E l fun vs => k (v :: vs)
def finQ (E : Env) (f : FuncId) (fn : Func) (nb : Nat) : Q Ret :=
  ress E fn.results.toList fun vs => .chk ((E.shp f).length = vs.length) inferInstance (outs nb [] fun l us => exps nb ((E.shp f).zip vs) us [] fun rs _ bs => .pure (rs, l ++ bs))
def fin (E : Env) (f : FuncId) (fn : Func) (nb : Nat) (e : Ex) (st : St) : Option Ret :=
  match e with
  | .exit _ => none
  | _ => (finQ E f fn nb).run st [] fun r _ => some r
/-- A call, its callees and loops told. -/
def body (E : Env) (X : Orc) (f : FuncId) (args : List AV) (bs : List Blk) : Option Ret :=
  match E.ext f with
  | some g => g args bs
  | none => match E.P.funcs[f]? with
    | some fn => match fn.body with
      | some c => bif Nat.ble args.length fn.ntmps && (Nat.blt fn.ntmps 1000 && Nat.ble bs.length 9000) then den E X fn.ntmps f c (E.ann f) (fun e st => fin E f fn bs.length e st) (enter args bs) else none
      | none => none
    | none => none
def lbody (E : Env) (X : Orc) (f : FuncId) (c : Code) (h : Ann) (st : St) : Option (Ex × St) :=
  match E.P.funcs[f]? with
  | some fn => den E X fn.ntmps f c h.a (fun e st' => match e with
    | .normal => X.loop f c h (norm h st')
    | e => some (e, st')) st
  | none => none
end Go.Proofs.Cdm
