/- The engine, part 1: what a walk knows of a value (AVal), of memory (Blk), and what an operation makes of it. -/
import Derived.Orders
import Derived.Below
namespace Eng
open Go

/-- What is known of a value. 'i', 'b': reckoned as the walk goes on; 's', 'sb': by a term. -/
inductive AVal where
  | i (k : IntKind) (n : Int)
  | s (k : IntKind) (n : Int)
  | b (t : Bool)
  | sb (t : Bool)
  | v (x : Value)
  | agg (cs : List AVal)
  | tup (vs : List AVal)
  | lst (sym : Bool) (n : Nat) (cs : List AVal)
  | ref (cs : List AVal) (off : Nat)
  | own (id off : Nat)
  | osl (sym : Bool) (id off n sz : Nat)
  | new (sym : Bool) (n sz : Nat) (cs : List AVal)
  | ifc (t : TypeId) (x : AVal)
  | fn (f : Fn) (first cap : List AVal)
  | any

instance : Inhabited AVal := ⟨.tup []⟩

structure Blk where
  live : Bool
  wr : Bool
  cells : List AVal
instance : Inhabited Blk := ⟨⟨false, false, []⟩⟩

structure St where
  tmps : List AVal
  heap : List Blk

/-- The arithmetic, held apart so that the walk does not open it. -/
structure Ar where
  bin : BinOp → IntKind → Int → Int → Int
  okb : BinOp → Int → Bool
  cmp : BinOp → Int → Int → Bool
  un : UnOp → IntKind → Int → Int
  wrap : IntKind → Int → Int
  not : Bool → Bool
  beq : Bool → Bool → Bool
  eqs : List (AVal × AVal) → Bool
  inb : Int → Nat → Bool
  offs : Nat → Int → Nat → Nat
  len : Nat → Int
  seq : ByteArray → ByteArray → Bool
  room : Nat → Nat → Bool
  rowend : List AVal → Nat → Nat → Bool

def wrp (k : IntKind) (n : Int) : Int := k.wrap n

def rbin (op : BinOp) (k : IntKind) (x y : Int) : Int :=
  match op with
  | .add => k.wrap (x + y)
  | .sub => k.wrap (x - y)
  | .mul => k.wrap (x * y)
  | .quo => k.wrap (x.tdiv y)
  | .rem => x.tmod y
  | .and => k.wrap ((BitVec.ofInt k.bits x &&& BitVec.ofInt k.bits y).toNat : Nat)
  | .or => k.wrap ((BitVec.ofInt k.bits x ||| BitVec.ofInt k.bits y).toNat : Nat)
  | .xor => k.wrap ((BitVec.ofInt k.bits x ^^^ BitVec.ofInt k.bits y).toNat : Nat)
  | .andNot => k.wrap ((BitVec.ofInt k.bits x &&& ~~~ BitVec.ofInt k.bits y).toNat : Nat)
  | .shl => k.wrap (x * 2 ^ (min y.toNat k.bits))
  | .shr => x.fdiv (2 ^ (min y.toNat k.bits))
  | _ => 0

/-- Whether the second operand lets the operation go through. -/
def rokb (op : BinOp) (y : Int) : Bool :=
  match op with
  | .quo | .rem => !(y == 0)
  | .shl | .shr => !(decide (y < 0))
  | _ => true

def rcmp (op : BinOp) (x y : Int) : Bool :=
  match op with
  | .eql => x == y
  | .neq => x != y
  | .lss => decide (x < y)
  | .leq => decide (x ≤ y)
  | .gtr => decide (x > y)
  | .geq => decide (x ≥ y)
  | _ => false

def run1 (op : UnOp) (k : IntKind) (x : Int) : Int :=
  match op with
  | .neg => k.wrap (0 - x)
  | .xor => rbin .xor k (if k.signed then -1 else k.max) x
  | _ => 0

def isCmp : BinOp → Bool
  | .eql | .neq | .lss | .leq | .gtr | .geq => true
  | _ => false
def isArith : BinOp → Bool
  | .add | .sub | .mul | .quo | .rem | .and | .or | .xor | .andNot | .shl | .shr => true
  | _ => false
def isShift : BinOp → Bool
  | .shl | .shr => true
  | _ => false

def needsOk : BinOp → Bool
  | .quo | .rem | .shl | .shr => true
  | _ => false

/-- Two leaves alike: integers, bools, strings. -/
def leafEq : AVal × AVal → Bool
  | (.i _ a, .i _ c) | (.i _ a, .s _ c) | (.s _ a, .i _ c) | (.s _ a, .s _ c) => a == c
  | (.b a, .b c) | (.b a, .sb c) | (.sb a, .b c) | (.sb a, .sb c) => a == c
  | (.v (.string a), .v (.string c)) => a == c
  | _ => false

def Ar.real : Ar where
  bin := rbin
  okb := rokb
  cmp := rcmp
  un := run1
  wrap := wrp
  not := fun t => !t
  beq := fun x y => x == y
  eqs := fun l => l.all leafEq
  inb := fun i n => decide (0 ≤ i) && decide (i < (n : Int))
  offs := fun off i sz => off + i.toNat * sz
  len := fun n => (n : Int)
  seq := fun a b => a == b
  room := fun n b => decide (n * b ≤ 140737488355328)
  rowend := fun cs n sz => cs.length == n * sz

/-- The types that a walk asks for. -/
inductive UT where
  | int (k : IntKind)
  | bool
  | str
  | ptr (e : TypeId)
  | slice (e : TypeId)
  | arr (n : Nat) (e : TypeId)
  | struct (fs : List (Nat × TypeId × String))
  | iface (ms : List (String × TypeId))
  | other
  deriving DecidableEq, Inhabited

structure Ty where
  und : TypeId → UT
  size : TypeId → Nat
  bytes : TypeId → Nat
  zero : TypeId → List Value
  meth : TypeId → String → Option FuncId
  eqok : TypeId → Bool
  mu : FuncId → Bool   -- functions whose contracts speak of memory that is written

def isAgg : UT → Bool
  | .arr _ _ | .struct _ => true
  | _ => false

def oneV : Value → Bool
  | .agg _ | .tuple _ => false
  | _ => true
def ofV1 : Value → AVal
  | .int k n => .i k n
  | .bool t => .b t
  | .agg _ | .tuple _ => .any
  | x => .v x
def mapV : List Value → List AVal
  | [] => []
  | x :: l => ofV1 x :: mapV l
def ofV : Value → AVal
  | .agg cs => .agg (mapV cs.toList)
  | .tuple cs => match cs.toList with | [] => .tup [] | _ => .any
  | x => ofV1 x

def lget : List AVal → Nat → Option AVal
  | [], _ => none
  | x :: _, 0 => some x
  | _ :: l, n + 1 => lget l n

def hget : List Blk → Nat → Blk
  | [], _ => default
  | x :: _, 0 => x
  | _ :: l, n + 1 => hget l n

def lset : List AVal → Nat → AVal → List AVal
  | [], _, _ => []
  | _ :: l, 0, y => y :: l
  | x :: l, n + 1, y => x :: lset l n y

def hset : List Blk → Nat → Blk → List Blk
  | [], _, _ => []
  | _ :: l, 0, y => y :: l
  | x :: l, n + 1, y => x :: hset l n y

/-- 'n' cells from 'off' on. -/
def lsub : List AVal → Nat → Nat → Option (List AVal)
  | _, 0, 0 => some []
  | [], _, _ => none
  | x :: l, 0, n + 1 => (lsub l 0 n).map (x :: ·)
  | _ :: l, off + 1, n => lsub l off n

/-- cells written from 'off' on. -/
def lput : List AVal → Nat → List AVal → Option (List AVal)
  | l, 0, [] => some l
  | [], _, _ => none
  | _ :: l, 0, y :: ys => (lput l 0 ys).map (y :: ·)
  | x :: l, off + 1, ys => (lput l off ys).map (x :: ·)

def ev (s : St) : Operand → AVal
  | .tmp t => (lget s.tmps t).getD (.tup [])
  | .const x => ofV x
  | .global g => .v (.pointer (some ⟨g, 0, none⟩))
  | .func f => .fn (.func f) [] []

def AVal.cells : AVal → Option (List AVal)
  | .agg cs => some cs
  | .any => none
  | x => some [x]

/-- It fills one cell. -/
def AVal.one : AVal → Bool
  | .agg _ | .tup _ | .new .. | .any => false
  | _ => true

/-- No memory behind it. -/
def AVal.plain : AVal → Bool
  | .i .. | .s .. | .b _ | .sb _ => true
  | .v (.string _) | .v (.slice none _ _) | .v (.pointer none) | .v .nilIface | .v .nilFunc | .v (.map none) => true
  | _ => false

def put (s : St) (d : Option Tmp) (x : AVal) : St :=
  match d with
  | some d => { s with tmps := lset s.tmps d x }
  | none => s

def snapL (f : AVal → Option AVal) : List AVal → Option (List AVal)
  | [] => some []
  | x :: l => match f x, snapL f l with
    | some y, some ys => some (y :: ys)
    | _, _ => none

/-- A value as a tree: what is one's own is read off. The number bounds the depth. -/
def snap (h : List Blk) : Nat → AVal → Option AVal
  | 0, _ => none
  | d + 1, x => match x with
    | .i k n => some (.i k n)
    | .s k n => some (.s k n)
    | .b t => some (.b t)
    | .sb t => some (.sb t)
    | .v x => some (.v x)
    | .agg cs => (snapL (snap h d) cs).map .agg
    | .tup vs => (snapL (snap h d) vs).map .tup
    | .lst m n cs => some (.lst m n cs)
    | .ref cs off => some (.ref cs off)
    | .own id off => if (hget h id).live then (snapL (snap h d) (hget h id).cells).map (.ref · off) else none
    | .osl m id off n sz => if (hget h id).live then
        (match lsub (hget h id).cells off (n * sz) with | some cs => (snapL (snap h d) cs).map (.lst m n) | none => none) else none
    | .new .. => none
    | .any => none
    | .ifc t x => (snap h d x).map (.ifc t)
    | .fn f a c => match snapL (snap h d) a, snapL (snap h d) c with | some a, some c => some (.fn f a c) | _, _ => none

/-- What of one's own can be reached. -/
def idsL (f : AVal → List Nat) : List AVal → List Nat
  | [] => []
  | x :: l => f x ++ idsL f l
def ids (h : List Blk) : Nat → AVal → List Nat
  | 0, _ => []
  | d + 1, x => match x with
    | .agg cs => idsL (ids h d) cs
    | .tup vs => idsL (ids h d) vs
    | .own id _ => id :: idsL (ids h d) (hget h id).cells
    | .osl _ id off n sz => id :: (match lsub (hget h id).cells off (n * sz) with | some cs => idsL (ids h d) cs | none => [])
    | .ifc _ x => ids h d x
    | .fn _ a c => idsL (ids h d) a ++ idsL (ids h d) c
    | _ => []

def freeze (h : List Blk) : List Nat → List Blk
  | [] => h
  | i :: l => freeze (hset h i { hget h i with wr := false }) l

/-- Numbers, bools, texts: nothing that leads on. -/
def flatL (f : AVal → Bool) : List AVal → Bool
  | [] => true
  | x :: l => f x && flatL f l
def AVal.flat : AVal → Bool
  | .agg cs => flatL AVal.plain cs
  | .tup vs => flatL (fun x => match x with | .agg cs => flatL AVal.plain cs | x => x.plain) vs
  | x => x.plain
end Eng
