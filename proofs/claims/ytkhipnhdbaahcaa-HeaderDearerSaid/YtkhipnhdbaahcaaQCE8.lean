/- The engine, part 1: what a walk knows of a value (AVal), of memory (Blk), and what an operation makes of it. -/
import Derived.Orders
import Derived.Below
import Derived.Deep.MidRow
import Derived.ChangeKeysEq
import Derived.Laws.StructEq
import Derived.Laws.Tables
import Derived.Laws.BytesString
import Derived.ChangeMaps3
namespace Eng
open Go
inductive AVal where
 | i (k : IntKind) (n : Int)
 | s (k : IntKind) (n : Int)
 | b (t : Bool)
 | sb (t : Bool)
 | v (x : Value)
 | agg (cs : List AVal)
 | tup (vs : List AVal)
 | lst (sym : Bool) (n : Nat) (cs : List AVal)
 | ref (cs : List AVal) (off : Nat)
 | own (id off : Nat)
 | el (id off : Nat)
 | osl (sym : Bool) (id off n sz : Nat)
 | new (sym : Bool) (n sz : Nat) (cs : List AVal)
 | ifc (t : TypeId) (x : AVal)
 | fn (f : Fn) (first cap : List AVal)
 | any
 | cap0   -- a row of no length and no room
instance : Inhabited AVal := ⟨.tup []⟩
structure Blk where
 live : Bool
 wr : Bool
 cells : List AVal
instance : Inhabited Blk := ⟨⟨false, false, []⟩⟩
structure St where
 tmps : List AVal
 heap : List Blk
structure Ar where
 bin : BinOp → IntKind → Int → Int → Int
 okb : BinOp → Int → Bool
 cmp : BinOp → Int → Int → Bool
 un : UnOp → IntKind → Int → Int
 wrap : IntKind → Int → Int
 not : Bool → Bool
 beq : Bool → Bool → Bool
 eqs : List (AVal × AVal) → Bool
 inb : Int → Nat → Bool
 offs : Nat → Nat → Nat → Nat
 len : Nat → Int
 seq : ByteArray → ByteArray → Bool
 room : Nat → Nat → Bool
 rowend : List AVal → Nat → Nat → Bool
 byte : ByteArray → Nat → Int
 size : ByteArray → Nat
 str : List AVal → ByteArray
 rowb : List AVal → Nat → Bool
 capok : Int → Bool
def wrp (k : IntKind) (n : Int) : Int := k.wrap n
def rbin (op : BinOp) (k : IntKind) (x y : Int) : Int :=
 match op with
 | .add => k.wrap (x + y)
 | .sub => k.wrap (x - y)
 | .mul => k.wrap (x * y)
 | .quo => k.wrap (x.tdiv y)
 | .rem => x.tmod y
 | .and => k.wrap ((BitVec.ofInt k.bits x &&& BitVec.ofInt k.bits y).toNat : Nat)
 | .or => k.wrap ((BitVec.ofInt k.bits x ||| BitVec.ofInt k.bits y).toNat : Nat)
 | .xor => k.wrap ((BitVec.ofInt k.bits x ^^^ BitVec.ofInt k.bits y).toNat : Nat)
 | .andNot => k.wrap ((BitVec.ofInt k.bits x &&& ~~~ BitVec.ofInt k.bits y).toNat : Nat)
 | .shl => k.wrap (x * 2 ^ (min y.toNat k.bits))
 | .shr => x.fdiv (2 ^ (min y.toNat k.bits))
 | _ => 0
def rokb (op : BinOp) (y : Int) : Bool :=
 match op with
 | .quo | .rem => !(y == 0)
 | .shl | .shr => !(decide (y < 0))
 | _ => true
def rcmp (op : BinOp) (x y : Int) : Bool :=
 match op with
 | .eql => x == y
 | .neq => x != y
 | .lss => decide (x < y)
 | .leq => decide (x ≤ y)
 | .gtr => decide (x > y)
 | .geq => decide (x ≥ y)
 | _ => false
def run1 (op : UnOp) (k : IntKind) (x : Int) : Int :=
 match op with
 | .neg => k.wrap (0 - x)
 | .xor => rbin .xor k (if k.signed then -1 else k.max) x
 | _ => 0
def isCmp : BinOp → Bool
 | .eql | .neq | .lss | .leq | .gtr | .geq => true
 | _ => false
def isArith : BinOp → Bool
 | .add | .sub | .mul | .quo | .rem | .and | .or | .xor | .andNot | .shl | .shr => true
 | _ => false
def isShift : BinOp → Bool
 | .shl | .shr => true
 | _ => false
def needsOk : BinOp → Bool
 | .quo | .rem | .shl | .shr => true
 | _ => false
def leafEq : AVal × AVal → Bool
 | (.i _ a, .i _ c) | (.i _ a, .s _ c) | (.s _ a, .i _ c) | (.s _ a, .s _ c) => a == c
 | (.b a, .b c) | (.b a, .sb c) | (.sb a, .b c) | (.sb a, .sb c) => a == c
 | (.v (.string a), .v (.string c)) => a == c
 | _ => false
def isU8 : AVal → Bool
 | .i .u8 _ | .s .u8 _ => true
 | _ => false
def byteOf : AVal → UInt8
 | .i _ n | .s _ n => UInt8.ofNat n.toNat
 | _ => 0
def strFrom (s : ByteArray) : List AVal → ByteArray
 | [] => s
 | x :: l => strFrom (s.push (byteOf x)) l
def Ar.real : Ar where
 bin := rbin
 okb := rokb
 cmp := rcmp
 un := run1
 wrap := wrp
 not := fun t => !t
 beq := fun x y => x == y
 eqs := fun l => l.all leafEq
 inb := fun i n => decide (0 ≤ i) && decide (i < (n : Int))
 offs := fun off i sz => off + i * sz
 len := fun n => (n : Int)
 seq := fun a b => a == b
 room := fun n b => decide (n * b ≤ 140737488355328)
 rowend := fun cs n sz => cs.length == n * sz
 byte := fun s i => match s[i]? with
   | some b => (b.toNat : Int)
   | none => 0
 size := fun s => s.size
 str := fun cs => strFrom .empty cs
 rowb := fun cs n => cs.length == n && cs.all isU8
 capok := fun n => decide (0 ≤ n) && decide (n < 1000000000)
inductive UT where
 | int (k : IntKind)
 | bool
 | str
 | ptr (e : TypeId)
 | slice (e : TypeId)
 | arr (n : Nat) (e : TypeId)
 | struct (fs : List (Nat × TypeId × String))
 | iface (ms : List (String × TypeId))
 | other
 deriving DecidableEq, Inhabited
structure Ty where
 und : TypeId → UT
 size : TypeId → Nat
 bytes : TypeId → Nat
 zero : TypeId → List Value
 meth : TypeId → String → Option FuncId
 eqok : TypeId → Bool
 mu : FuncId → Bool   -- functions whose contracts speak of memory that is written
def isAgg : UT → Bool
 | .arr _ _ | .struct _ => true
 | _ => false
def oneV : Value → Bool
 | .agg _ | .tuple _ => false
 | _ => true
def ofV1 : Value → AVal
 | .int k n => .i k n
 | .bool t => .b t
 | .agg _ | .tuple _ => .any
 | x => .v x
def mapV : List Value → List AVal
 | [] => []
 | x :: l => ofV1 x :: mapV l
def ofV : Value → AVal
 | .agg cs => .agg (mapV cs.toList)
 | .tuple cs => match cs.toList with | [] => .tup [] | _ => .any
 | x => ofV1 x
def lget : List AVal → Nat → Option AVal
 | [], _ => none
 | x :: _, 0 => some x
 | _ :: l, n + 1 => lget l n
def hget : List Blk → Nat → Blk
 | [], _ => default
 | x :: _, 0 => x
 | _ :: l, n + 1 => hget l n
def lset : List AVal → Nat → AVal → List AVal
 | [], _, _ => []
 | _ :: l, 0, y => y :: l
 | x :: l, n + 1, y => x :: lset l n y
def hset : List Blk → Nat → Blk → List Blk
 | [], _, _ => []
 | _ :: l, 0, y => y :: l
 | x :: l, n + 1, y => x :: hset l n y
def lsub : List AVal → Nat → Nat → Option (List AVal)
 | _, 0, 0 => some []
 | [], _, _ => none
 | x :: l, 0, n + 1 => (lsub l 0 n).map (x :: ·)
 | _ :: l, off + 1, n => lsub l off n
def lput : List AVal → Nat → List AVal → Option (List AVal)
 | l, 0, [] => some l
 | [], _, _ => none
 | _ :: l, 0, y :: ys => (lput l 0 ys).map (y :: ·)
 | x :: l, off + 1, ys => (lput l off ys).map (x :: ·)
def ev (s : St) : Operand → AVal
 | .tmp t => (lget s.tmps t).getD (.tup [])
 | .const x => ofV x
 | .global g => .v (.pointer (some ⟨g, 0, none⟩))
 | .func f => .fn (.func f) [] []
def AVal.cells : AVal → Option (List AVal)
 | .agg cs => some cs
 | .any => none
 | x => some [x]
def AVal.one : AVal → Bool
 | .agg _ | .tup _ | .new .. | .any => false
 | _ => true
def AVal.plain : AVal → Bool
 | .i .. | .s .. | .b _ | .sb _ => true
 | .v (.string _) | .v (.slice none _ _) | .v (.pointer none) | .v .nilIface | .v .nilFunc | .v (.map none) => true
 | _ => false
def put (s : St) (d : Option Tmp) (x : AVal) : St :=
 match d with
 | some d => { s with tmps := lset s.tmps d x }
 | none => s
def snapL (f : AVal → Option AVal) : List AVal → Option (List AVal)
 | [] => some []
 | x :: l => match f x, snapL f l with
   | some y, some ys => some (y :: ys)
   | _, _ => none
def snap (h : List Blk) : Nat → AVal → Option AVal
 | 0, _ => none
 | d + 1, x => match x with
   | .i k n => some (.i k n)
   | .s k n => some (.s k n)
   | .b t => some (.b t)
   | .sb t => some (.sb t)
   | .v x => some (.v x)
   | .agg cs => (snapL (snap h d) cs).map .agg
   | .tup vs => (snapL (snap h d) vs).map .tup
   | .lst m n cs => some (.lst m n cs)
   | .ref cs off => some (.ref cs off)
   | .own id off => if (hget h id).live then (snapL (snap h d) (hget h id).cells).map (.ref · off) else none
   | .osl m id off n sz => if (hget h id).live then
       (match lsub (hget h id).cells off (n * sz) with | some cs => (snapL (snap h d) cs).map (.lst m n) | none => none) else none
   | .new .. => none
   | .el .. => none
   | .any => none
   | .cap0 => some .cap0
   | .ifc t x => (snap h d x).map (.ifc t)
   | .fn f a c => match snapL (snap h d) a, snapL (snap h d) c with | some a, some c => some (.fn f a c) | _, _ => none
def idsL (f : AVal → List Nat) : List AVal → List Nat
 | [] => []
 | x :: l => f x ++ idsL f l
def ids (h : List Blk) : Nat → AVal → List Nat
 | 0, _ => []
 | d + 1, x => match x with
   | .agg cs => idsL (ids h d) cs
   | .tup vs => idsL (ids h d) vs
   | .own id _ => id :: idsL (ids h d) (hget h id).cells
   | .el id _ => id :: idsL (ids h d) (hget h id).cells
   | .osl _ id off n sz => id :: (match lsub (hget h id).cells off (n * sz) with | some cs => idsL (ids h d) cs | none => [])
   | .ifc _ x => ids h d x
   | .fn _ a c => idsL (ids h d) a ++ idsL (ids h d) c
   | _ => []
def freeze (h : List Blk) : List Nat → List Blk
 | [] => h
 | i :: l => freeze (hset h i { hget h i with wr := false }) l
def flatL (f : AVal → Bool) : List AVal → Bool
 | [] => true
 | x :: l => f x && flatL f l
def AVal.flat : AVal → Bool
 | .agg cs => flatL AVal.plain cs
 | .tup vs => flatL (fun x => match x with | .agg cs => flatL AVal.plain cs | x => x.plain) vs
 | x => x.plain
end Eng
namespace Eng
open Go
def onlyIf (c : Bool) (K : Unit → Prop) : Prop :=
 match c with
 | true => K ()
 | false => False
def simL (f : AVal → AVal → Prop) : List AVal → List AVal → Prop
 | [], [] => True
 | [x], [y] => f x y
 | x :: xs, y :: ys => f x y ∧ simL f xs ys
 | _, _ => False
def simD : Nat → AVal → AVal → Prop
 | 0, _, _ => False
 | d + 1, x, y => match x, y with
   | .i k n, .i k' m | .i k n, .s k' m | .s k n, .i k' m | .s k n, .s k' m => onlyIf (decide (k = k')) fun _ => n = m
   | .b s, .b t | .b s, .sb t | .sb s, .b t | .sb s, .sb t => s = t
   | .v (.slice none 0 0), .lst _ 0 [] => True
   | .v u, .v v => u = v
   | .agg xs, .agg ys => simL (simD d) xs ys
   | .tup xs, .tup ys => simL (simD d) xs ys
   | .lst true n cs, .lst true m ds => n = m ∧ cs = ds
   | .lst _ n cs, .lst _ m ds => n = m ∧ simL (simD d) cs ds
   | .ref cs o, .ref ds o' => o = o' ∧ simL (simD d) cs ds
   | .own i o, .own j o' => i = j ∧ o = o'
   | .el i o, .el j o' => i = j ∧ o = o'
   | .osl _ i o n z, .osl _ j o' m z' => i = j ∧ o = o' ∧ n = m ∧ z = z'
   | .new _ n sz cs, .new _ m sz' ds => n = m ∧ sz = sz' ∧ simL (simD d) cs ds
   | .new .., _ => False
   | .cap0, .cap0 => True
   | _, .any => True
   | .ifc t x, .ifc t' y => t = t' ∧ simD d x y
   | .fn f a c, .fn g b e => f = g ∧ simL (simD d) a b ∧ simL (simD d) c e
   | _, _ => False
def Sim : AVal → AVal → Prop := simD 12
def SimL : List AVal → List AVal → Prop := simL (simD 12)
def simB (b b' : Blk) : Prop :=
 onlyIf (b.live == b'.live && b.wr == b'.wr) fun _ => match b.live with
   | true => SimL b.cells b'.cells
   | false => b = b'
def SimH : List Blk → List Blk → Prop
 | [], [] => True
 | [b], [b'] => simB b b'
 | b :: h, b' :: h' => simB b b' ∧ SimH h h'
 | _, _ => False
def isPad (b : Blk) : Bool := match b.live, b.wr, b.cells with
 | false, true, [] => true
 | _, _, _ => false
def simK (b b' : Blk) : Prop := match b'.live with
 | true => onlyIf (b.live && (b.wr == b'.wr)) fun _ => SimL b.cells b'.cells
 | false => match b.live with
   | true => onlyIf (isPad b') fun _ => True
   | false => b = b'
def SimK : List Blk → List Blk → Prop
 | [], [] => True
 | [], b' :: h' => onlyIf (isPad b') fun _ => SimK [] h'
 | [b], [b'] => simK b b'
 | b :: h, b' :: h' => simK b b' ∧ SimK h h'
 | _ :: _, [] => False
def SimS (s s' : St) : Prop := SimL s.tmps s'.tmps ∧ SimK s.heap s'.heap
structure SpecT where
 fn : FuncId → List AVal → AVal → Prop
 mu : FuncId → List Blk → List AVal → AVal → List Blk → Prop
 seq : FuncId → List AVal → Nat → (Nat → List AVal) → Prop
 l : Nat
 n : Nat
 xs : Nat → List AVal
 it : Bool
 gc : Bool   -- whether a loop's blocks may be named anew
def lgetN : List Nat → Nat → Option Nat
 | [], _ => none
 | x :: _, 0 => some x
 | _ :: l, n + 1 => lgetN l n
def inN (x : Nat) : List Nat → Bool
 | [] => false
 | y :: l => match x == y with
   | true => true
   | false => inN x l
def nodupN : List Nat → Bool
 | [] => true
 | x :: l => match inN x l with
   | true => false
   | false => nodupN l
def sameLen : List Nat → List Blk → Bool
 | [], [] => true
 | _ :: g, _ :: h => sameLen g h
 | _, _ => false
def renL (f : AVal → AVal) : List AVal → List AVal
 | [] => []
 | x :: l => f x :: renL f l
def noVal : AVal := .new true 0 0 []
def renD (g : List Nat) : Nat → AVal → AVal
 | 0, _ => noVal
 | d + 1, x => match x with
   | .agg cs => .agg (renL (renD g d) cs)
   | .tup cs => .tup (renL (renD g d) cs)
   | .own j o => match lgetN g j with
     | some i => .own i o
     | none => noVal
   | .el j o => match lgetN g j with
     | some i => .el i o
     | none => noVal
   | .osl m j o n sz => match lgetN g j with
     | some i => .osl m i o n sz
     | none => noVal
   | .ifc t y => .ifc t (renD g d y)
   | .fn f a c => .fn f (renL (renD g d) a) (renL (renD g d) c)
   | x => x
def simG (g : List Nat) (h : List Blk) : Nat → List Blk → Prop
 | _, [] => True
 | j, b :: l => (match b.live with
   | true => (match lgetN g j with
     | some i => onlyIf ((hget h i).live && ((hget h i).wr == b.wr)) fun _ => SimL (hget h i).cells (renL (renD g 12) b.cells)
     | none => False)
   | false => onlyIf (isPad b) fun _ => True) ∧ simG g h (j + 1) l
def SimG (g : List Nat) (s s' : St) : Prop := onlyIf (sameLen g s'.heap && nodupN g) fun _ => SimL s.tmps (renL (renD g 12) s'.tmps) ∧ simG g s.heap 0 s'.heap
inductive ACall (Spec : SpecT) (f : FuncId) (args : List AVal) (K : AVal → Prop) : Prop where
 | mk (r : AVal) (h : Spec.fn f args r) (hk : K r)
inductive AMut (Spec : SpecT) (f : FuncId) (h : List Blk) (args : List AVal) (K : AVal → List Blk → Prop) : Prop where
 | mk (r : AVal) (h' : List Blk) (hs : Spec.mu f h args r h') (hk : K r h')
def ghost (i : Nat) : List Blk := [⟨false, false, [.s .i64 i]⟩]
inductive AYield (Spec : SpecT) (l : Nat) (h : List Blk) (args : List AVal) (K : AVal → List Blk → Prop) : Prop where
 | mk (i : Nat) (hl : l = Spec.l) (hi : i < Spec.n) (hh : h = ghost i) (ha : args = Spec.xs i) (hk : K (.b true) (ghost (i + 1)))
inductive ARange (Spec : SpecT) (f : FuncId) (cap : List AVal) (k : Nat) (round : List AVal → List Blk → (List Blk → Prop) → Prop) (h : List Blk) (K : List Blk → Prop) : Prop where
 | mk (n : Nat) (xs : Nat → List AVal) (hs : Spec.seq f cap n xs) (hl : ∀ i, i < n → (xs i).length = k) (hp : Nat → List Blk) (h0 : SimH h (hp 0))
     (hr : ∀ i, i < n → round (xs i) (hp i) fun k => SimH k (hp (i + 1))) (hK : K (hp n))
inductive ABr (t : Bool) (p q : Unit → Prop) : Prop where
 | mk (hp : t = true → p ()) (hq : t = false → q ())
theorem ABr.t {t : Bool} {p q : Unit → Prop} (h : t = true) (hp : p ()) : ABr t p q := .mk (fun _ => hp) (fun e => by rw [h] at e; cases e)
theorem ABr.f {t : Bool} {p q : Unit → Prop} (h : t = false) (hq : q ()) : ABr t p q := .mk (fun e => by rw [h] at e; cases e) (fun _ => hq)
inductive AJ (t : Bool) (a b : Int) (K : Int → Prop) : Prop where
 | mk (v : Int) (hp : t = true → a = v) (hq : t = false → b = v) (hk : K v)
inductive AJB (t : Bool) (a b : Bool) (K : Bool → Prop) : Prop where
 | mk (v : Bool) (hp : t = true → a = v) (hq : t = false → b = v) (hk : K v)
inductive Need (p : Bool) (k : Unit → Prop) : Prop where
 | mk (h : p = true) (hk : k ())
inductive AIdx (j : Int) (n : Nat) (K Ks : Nat → Prop) : Prop where
 | mk (i : Nat) (h : j = i) (hi : i < n) (hk : K i)
 | sym (i : Nat) (h : j = i) (hi : i < n) (hk : Ks i)
inductive ARow (cs : List AVal) (i sz : Nat) (K : List AVal → Prop) : Prop where
 | mk (ys : List AVal) (h : lsub cs (i * sz) sz = some ys) (hk : K ys)
inductive ALoop (gc : Bool) (body : St → (Exit → St → Prop) → Prop) (s : St) (K : Exit → St → Prop) : Prop where
 | inv {α : Type} (st : α → St) (P : α → Prop) (μ : α → Nat) (a0 : α) (hs : SimS s (st a0)) (h0 : P a0) (round : ∀ a, P a → body (st a) fun e s' => match e with
     | .normal => ∃ b, SimS s' (st b) ∧ P b ∧ μ b < μ a
     | e => K e s')
 | invG {α : Type} (hg : gc = true) (st : α → St) (P : α → Prop) (μ : α → Nat) (a0 : α) (g0 : List Nat) (hs : SimG g0 s (st a0)) (h0 : P a0) (round : ∀ a, P a → body (st a) fun e s' => match e with
     | .normal => ∃ b g, SimG g s' (st b) ∧ P b ∧ μ b < μ a
     | e => K e s')
inductive ARef (cs : List AVal) (off n : Nat) (K : List AVal → Prop) : Prop where
 | mk (ys : List AVal) (h : lsub cs off n = some ys) (hk : K ys)
inductive ASt (cs : List AVal) (off : Nat) (ys : List AVal) (K : List AVal → Prop) : Prop where
 | mk (ds : List AVal) (h : lput cs off ys = some ds) (hk : K ds)
def optK {α : Type} (x : Option α) (K : α → Prop) : Prop :=
 match x with
 | some y => K y
 | none => False
section
variable (A : Ar) (T : Ty)
def part (t : TypeId) (cs : List AVal) (off : Nat) : Option AVal :=
 match T.und t with
 | .other => none
 | .arr _ _ => (lsub cs off (T.size t)).map .agg
 | .struct _ => (lsub cs off (T.size t)).map .agg
 | _ => lget cs off
def leavesA (f : AVal → AVal → Option (List (AVal × AVal))) (px py : Nat → Option AVal) : Nat → Nat → Option (List (AVal × AVal))
 | 0, _ => some []
 | n + 1, i => match px i, py i with
   | some a, some c => match f a c, leavesA f px py n (i + 1) with
     | some l, some l' => some (l ++ l')
     | _, _ => none
   | _, _ => none
def leavesS (f : TypeId → AVal → AVal → Option (List (AVal × AVal))) (px py : TypeId → Nat → Option AVal) : List (Nat × TypeId × String) → Option (List (AVal × AVal))
 | [] => some []
 | (off, t, name) :: fs => match name == "_" with
   | true => leavesS f px py fs
   | false => match px t off, py t off with
     | some a, some c => match f t a c, leavesS f px py fs with
       | some l, some l' => some (l ++ l')
       | _, _ => none
     | _, _ => none
def leaves : Nat → TypeId → AVal → AVal → Option (List (AVal × AVal))
 | 0, _, _, _ => none
 | d + 1, t, x, y =>
   match T.und t with
   | .int _ => match x, y with
     | .i k1 a, .i k2 c => if k1 = k2 then some [(.i k1 a, .i k2 c)] else none
     | .i k1 a, .s k2 c => if k1 = k2 then some [(.i k1 a, .s k2 c)] else none
     | .s k1 a, .i k2 c => if k1 = k2 then some [(.s k1 a, .i k2 c)] else none
     | .s k1 a, .s k2 c => if k1 = k2 then some [(.s k1 a, .s k2 c)] else none
     | _, _ => none
   | .bool => match x, y with
     | .b a, .b c => some [(.b a, .b c)]
     | .b a, .sb c => some [(.b a, .sb c)]
     | .sb a, .b c => some [(.sb a, .b c)]
     | .sb a, .sb c => some [(.sb a, .sb c)]
     | _, _ => none
   | .str => match x, y with
     | .v (.string a), .v (.string c) => some [(.v (.string a), .v (.string c))]
     | _, _ => none
   | .arr n e => match x, y with
     | .agg xs, .agg ys => match T.und e with
       | .other => none
       | _ => leavesA (leaves d e) (fun i => part T e xs (i * T.size e)) (fun i => part T e ys (i * T.size e)) n 0
     | _, _ => none
   | .struct fs => match x, y with
     | .agg xs, .agg ys => leavesS (leaves d) (part T · xs ·) (part T · ys ·) fs
     | _, _ => none
   | _ => none
def litLeaf : AVal × AVal → Bool
 | (.i .., .i ..) | (.b _, .b _) => true
 | _ => false
def allB (f : AVal × AVal → Bool) : List (AVal × AVal) → Bool
 | [] => true
 | x :: l => f x && allB f l
def eqOf (l : List (AVal × AVal)) : AVal :=
 match allB litLeaf l with
 | true => .b (allB leafEq l)
 | false => .sb (A.eqs l)
def neOf (l : List (AVal × AVal)) : AVal :=
 match allB litLeaf l with
 | true => .b (!(allB leafEq l))
 | false => .sb (A.not (A.eqs l))
def nilEq : AVal → AVal → Option Bool
 | .v (.pointer none), .v (.pointer none) => some true
 | .v (.pointer none), .own .. | .own .., .v (.pointer none) | .v (.pointer none), .ref .. | .ref .., .v (.pointer none) => some false
 | _, _ => none
def nilSl : AVal → AVal → Option Bool
 | .v (.slice none 0 0), .v (.slice none 0 0) => some true
 | .v (.slice none 0 0), .lst false (_ + 1) _ | .lst false (_ + 1) _, .v (.slice none 0 0) => some false
 | .v (.slice none 0 0), .osl false _ _ (_ + 1) _ | .osl false _ _ (_ + 1) _, .v (.slice none 0 0) => some false
 | _, _ => none
def isSl : UT → Bool
 | .slice _ => true
 | _ => false
def notOther : UT → Bool
 | .other => false
 | _ => true
def isPtr : UT → Bool
 | .ptr _ => true
 | _ => false
def isI : AVal → Bool
 | .i .. | .s .. => true
 | _ => false
def aarith (op : BinOp) (x y : AVal) (K : AVal → Prop) : Prop :=
 match x, y with
 | .i k a, .i k' c => onlyIf (rokb op c && (isShift op || decide (k = k'))) fun _ => K (.i k (rbin op k a c))
 | .s k a, .i k' c => onlyIf (rokb op c && (isShift op || decide (k = k'))) fun _ => K (.s k (A.bin op k a c))
 | .i k a, .s k' c => onlyIf (isShift op || decide (k = k')) fun _ => match needsOk op with
   | true => Need (A.okb op c) fun _ => K (.s k (A.bin op k a c))
   | false => K (.s k (A.bin op k a c))
 | .s k a, .s k' c => onlyIf (isShift op || decide (k = k')) fun _ => match needsOk op with
   | true => Need (A.okb op c) fun _ => K (.s k (A.bin op k a c))
   | false => K (.s k (A.bin op k a c))
 | _, _ => False
def acmp (op : BinOp) (x y : AVal) (K : AVal → Prop) : Prop :=
 match x, y with
 | .i k a, .i k' c => onlyIf (decide (k = k')) fun _ => K (.b (rcmp op a c))
 | .s k a, .i k' c => onlyIf (decide (k = k')) fun _ => K (.sb (A.cmp op a c))
 | .i k a, .s k' c => onlyIf (decide (k = k')) fun _ => K (.sb (A.cmp op a c))
 | .s k a, .s k' c => onlyIf (decide (k = k')) fun _ => K (.sb (A.cmp op a c))
 | _, _ => False
def aeql (t : TypeId) (x y : AVal) (K : (Bool → AVal) → Prop) : Prop :=
 match isPtr (T.und t) with
 | true => optK (nilEq x y) fun r => K fun ne => .b (match ne with | true => !r | false => r)
 | false => match isSl (T.und t) with
   | true => optK (nilSl x y) fun r => K fun ne => .b (match ne with | true => !r | false => r)
   | false => onlyIf (T.eqok t) fun _ => optK (leaves T 20 t x y) fun l => K fun ne => match ne with | true => neOf A l | false => eqOf A l
def abin (op : BinOp) (t : TypeId) (x y : AVal) (K : AVal → Prop) : Prop :=
 match isArith op with
 | true => aarith A op x y K
 | false => match isI x && isI y with
   | true => onlyIf (isCmp op) fun _ => acmp A op x y K
   | false => match op with
     | .eql => aeql A T t x y fun f => K (f false)
     | .neq => aeql A T t x y fun f => K (f true)
     | _ => False
def aun (op : UnOp) (x : AVal) (K : AVal → Prop) : Prop :=
 match op, x with
 | .not, .b t => K (.b !t)
 | .not, .sb t => K (.sb (A.not t))
 | .neg, .i k n => K (.i k (run1 .neg k n))
 | .neg, .s k n => K (.s k (A.un .neg k n))
 | .xor, .i k n => K (.i k (run1 .xor k n))
 | .xor, .s k n => K (.s k (A.un .xor k n))
 | _, _ => False
def aidx2 (sym : Bool) (x : AVal) (n : Nat) (K Ks : Nat → Prop) : Prop :=
 match x with
 | .i _ j => match sym with
   | false => onlyIf (decide (0 ≤ j) && decide (j.toNat < n)) fun _ => K j.toNat
   | true => AIdx j n K Ks
 | .s _ j => AIdx j n K Ks
 | _ => False
def aidx (sym : Bool) (x : AVal) (n : Nat) (K : Nat → Prop) : Prop := aidx2 sym x n K K
def buildable : UT → Bool
 | .arr _ el => notOther (T.und el)
 | .struct _ => true
 | _ => false
def subHi (hi : Option AVal) (n : Nat) : Option Nat :=
 match hi with
 | none => some n
 | some (.i _ h) => if 0 ≤ h ∧ h.toNat ≤ n then some h.toNat else none
 | _ => none
def subLo (lo : Option AVal) (h : Nat) : Option Nat :=
 match lo with
 | none => some 0
 | some (.i _ l) => if 0 ≤ l ∧ l.toNat ≤ h then some l.toNat else none
 | _ => none
def nilFn (f : Fn) (first : List AVal) : Bool :=
 match f, first with
 | .func _, _ => true
 | .method name, [.ifc t _] => (T.meth t name).isSome
 | _, _ => false
def aopP (o : Oper) (e : Operand → AVal) (K : AVal → Prop) : Prop :=
 match o.op with
 | .move x => K (e x)
 | .assign x => K (e x)
 | .pick c a b => match e c with
   | .b t => K (match t with | true => e a | false => e b)
   | .sb t => ABr t (fun _ => K (e a)) (fun _ => K (e b))
   | _ => False
 | .binOp op t x y _ => abin A T op t (e x) (e y) K
 | .unOp op _ x => aun A op (e x) K
 | .convert src dst x => onlyIf (notOther (T.und src)) fun _ => match T.und dst, e x with
   | .int k, .i _ n => K (.i k (wrp k n))
   | .int k, .s _ n => K (.s k (A.wrap k n))
   | .str, .lst m n cs => match T.und src with
     | .slice el => match T.und el with
       | .int .u8 => match m with
         | false => onlyIf (cs.length == n && flatL isU8 cs) fun _ => K (.v (.string (A.str cs)))
         | true => Need (A.rowb cs n) fun _ => K (.v (.string (A.str cs)))
       | _ => False
     | _ => False
   | _, _ => False
 | .load t x => match e x with
   | .ref cs off => optK (part T t cs off) K
   | _ => False
 | .nilCheck x => match e x with
   | .own id off => K (.own id off)
   | .ref cs off => K (.ref cs off)
   | .ifc t y => K (.ifc t y)
   | .fn f a c => onlyIf (nilFn T f a) fun _ => K (.fn f a c)
   | _ => False
 | .extract x i => match e x with
   | .tup vs => optK (lget vs i) K
   | _ => False
 | .field t x f => match T.und t, e x with
   | .struct fs, .agg cs => match fs[f]? with
     | some (off, ft, _) => optK (part T ft cs off) K
     | none => False
   | _, _ => False
 | .index t x ix => match T.und t, e x with
   | .arr n el, .agg cs => aidx false (e ix) n fun i => optK (part T el cs (i * T.size el)) K
   | .str, .v (.string s) => aidx true (e ix) (A.size s) fun i => K (.s .u8 (A.byte s i))
   | _, _ => False
 | .fieldAddr t x f => match T.und t with
   | .struct fs => match fs[f]? with
     | some (off, ft, _) => onlyIf (!(T.size ft == 0)) fun _ => match e x with
       | .own id o => K (.own id (o + off))
       | .el id o => K (.el id (o + off))
       | .ref cs o => K (.ref cs (o + off))
       | _ => False
     | none => False
   | _ => False
 | .indexAddr t x ix => match T.und t, e x with
   | .arr n el, .own id off => onlyIf (decide (2 ≤ n) && notOther (T.und el)) fun _ => aidx2 false (e ix) n (fun i => K (.own id (off + i * T.size el))) (fun i => K (.el id (A.offs off i (T.size el))))
   | .arr n el, .ref cs off => onlyIf (decide (2 ≤ n) && notOther (T.und el)) fun _ => aidx2 false (e ix) n (fun i => K (.ref cs (off + i * T.size el))) (fun i => ARef cs (A.offs off i (T.size el)) (T.size el) fun ys => K (.ref ys 0))
   | .slice el, .lst m n cs => onlyIf (notOther (T.und el)) fun _ => aidx2 m (e ix) n (fun i => match m with
     | false => K (.ref cs (i * T.size el))
     | true => ARow cs i (T.size el) fun ys => K (.ref ys 0)) (fun i => ARow cs i (T.size el) fun ys => K (.ref ys 0))
   | .slice el, .osl m id off n sz => onlyIf (T.size el == sz && notOther (T.und el)) fun _ => aidx2 m (e ix) n (fun i => K (.own id (off + i * sz))) (fun i => K (.el id (A.offs off i sz)))
   | _, _ => False
 | .makeInterface t x => match T.und t with
   | .iface _ => False
   | .other => False
   | _ => K (.ifc t (e x))
 | .typeAssert x _ t ok => match T.und t, e x with
   | .iface _, _ => False
   | .other, _ => False
   | _, .ifc t' y => match t' == t with
     | true => K (match ok with | true => .tup [y, .b true] | false => y)
     | false => match ok with
       | true => K (.tup [match isAgg (T.und t), mapV (T.zero t) with | true, z => .agg z | false, z => (lget z 0).getD (.tup []), .b false])
       | false => False
   | _, _ => False
 | .makeFunc f a c => K (.fn f (a.toList.map e) (c.toList.map e))
 | .build t parts => match buildable T (T.und t), fillP (T.und t) (partsOf e parts.toList) (mapV (T.zero t)) with
   | true, some cs => K (.agg cs)
   | _, _ => False
 | .sliceToArrayPointer t x => match T.und t, e x with
   | .arr n _, .lst false m cs => onlyIf (decide (n ≤ m) && decide (0 < n)) fun _ => K (.ref cs 0)
   | .arr n _, .lst true m cs => onlyIf (decide (0 < n)) fun _ => Need (A.inb (n : Int) (m + 1)) fun _ => K (.ref cs 0)
   | .arr n _, .osl false id off m _ => onlyIf (decide (n ≤ m) && decide (0 < n)) fun _ => K (.own id off)
   | _, _ => False
 | .slice t x lo hi mx => match mx, T.und t, e x with
   | none, .slice el, .lst false n cs => onlyIf (notOther (T.und el)) fun _ => asub (lo.map e) (hi.map e) n fun l r =>
       optK (lsub cs (l * T.size el) ((r - l) * T.size el)) fun cs' => K (.lst false (r - l) cs')
   | _, _, _ => False
 | _ => False
where
 asub (lo hi : Option AVal) (n : Nat) (K : Nat → Nat → Prop) : Prop :=
   match subHi hi n with
   | none => False
   | some h => match subLo lo h with
     | none => False
     | some l => K l h
 partsOf (e : Operand → AVal) : List (Nat × Operand) → List (Nat × Option (List AVal))
   | [] => []
   | (i, x) :: l => (i, (e x).cells) :: partsOf e l
 placeOf (u : UT) (i : Nat) : Option (Nat × Nat) :=
   match u with
   | .struct fs => match fs[i]? with
     | some (off, ft, _) => match notOther (T.und ft) with
       | true => some (off, T.size ft)
       | false => none
     | none => none
   | .arr _ el => match notOther (T.und el) with
     | true => some (i * T.size el, T.size el)
     | false => none
   | _ => none
 fillP (u : UT) : List (Nat × Option (List AVal)) → List AVal → Option (List AVal)
   | [], cs => some cs
   | (_, none) :: _, _ => none
   | (i, some ys) :: rest, cs =>
     match placeOf u i with
     | none => none
     | some (off, sz) => match ys.length == sz, lput cs off ys with
       | true, some cs' => fillP u rest cs'
       | _, _ => none
end
end Eng
namespace Eng
open Go
inductive Cl where
 | p | q | e | r
 deriving DecidableEq
inductive Md where
 | own | mid | all | res (l : List Tmp) | owl (l : List Tmp) | tre (l : List Tmp) | jn | apr
 deriving DecidableEq
def cls (tree : Md) : Op → Cl
 | .load _ x => match tree, x with
   | .res l, .tmp t => match l.contains t with | true => .p | false => .q
   | .owl l, .tmp t => match l.contains t with | true => .p | false => .q
   | .tre l, .tmp t => match l.contains t with | true => .p | false => .q
   | _, _ => .q
 | .slice _ x _ _ _ => match tree, x with
   | .owl l, .tmp t => match l.contains t with | true => .p | false => .q
   | _, _ => .q
 | .call { callee := .builtin .len, .. } => .p
 | .call { callee := .builtin .min, .. } => .p
 | .call { callee := .builtin .copy, .. } => .e
 | .call { callee := .builtin .append, .. } => match tree with | .own => .e | .owl _ => .e | .apr => .e | _ => .q
 | .call _ => match tree with | .own => .e | .owl _ => .e | _ => .q
 | .alloc _ => match tree with | .all => .q | .res _ => .r | .tre _ => .r | .apr => .r | _ => .e
 | .box .. | .buildSlice .. | .makeSlice .. => match tree with | .all => .q | .tre _ => .q | _ => .e
 | .convert .. => .p
 | .store .. => .e
 | _ => .p
def depth : Nat := 12
section
variable (A : Ar) (T : Ty) (Spec : SpecT)
def rowK (h : List Blk) (sz : Nat) (x : AVal) (K : Bool → Nat → List AVal → Prop) : Prop :=
 match x with
 | .v (.slice none 0 0) => K false 0 []
 | .lst m n cs => match m with
   | true => Need (A.rowend cs n sz) fun _ => K true n cs
   | false => onlyIf (cs.length == n * sz) fun _ => K false n cs
 | .osl false id off n _ => onlyIf (hget h id).live fun _ => optK (lsub (hget h id).cells off (n * sz)) fun cs => K false n cs
 | _ => False
def app : List AVal → List AVal → List AVal
 | [], ys => ys
 | x :: xs, ys => x :: app xs ys
def reps (n : Nat) (z : List AVal) : List AVal :=
 match n with
 | 0 => []
 | n + 1 => app z (reps n z)
def appOk (argTypes : Array TypeId) : Bool :=
 match argTypes.toList with
 | _ :: u :: _ => match T.und u with
   | .slice _ | .str => true
   | _ => false
 | _ => false
def roomK (el : TypeId) (sym : Bool) (n : Nat) (K : Unit → Prop) : Prop :=
 match sym with
 | false => onlyIf (decide (n * T.bytes el ≤ 140737488355328)) K
 | true => Need (A.room n (T.bytes el)) K
def callee (e : Operand → AVal) (c : Call) : Option (FuncId × List AVal) :=
 match c.callee with
 | .value f => match e f with
   | .fn (.func g) first cap => some (g, app first (app (c.args.toList.map e) cap))
   | _ => none
 | .invoke r name => match e r with
   | .ifc t x => (T.meth t name).map fun g => (g, x :: c.args.toList.map e)
   | _ => none
 | .builtin _ => none
def noNew1 : AVal → AVal
 | .new m n _ cs => .lst m n cs
 | x => x
def noNewL : List AVal → List AVal
 | [] => []
 | x :: l => noNew1 x :: noNewL l
def noNew : AVal → AVal
 | .tup vs => .tup (noNewL vs)
 | x => noNew1 x
def heldBy (h : List Blk) (args : List AVal) (r : AVal) : List Nat :=
 match r.flat with
 | true => []
 | false => idsL (ids h depth) args
def isApp : Callee → Bool
 | .builtin .append => true
 | _ => false
def snapRow (h : List Blk) (x : AVal) (ys : List AVal) : Option (List AVal) :=
 match x with
 | .lst _ _ _ => some ys
 | _ => snapL (snap h depth) ys
def idsRow (h : List Blk) (x : AVal) (ys : List AVal) : List Nat :=
 match x with
 | .lst _ _ _ => []
 | _ => idsL (ids h depth) ys
def appQ (args : Array Operand) (argTypes : Array TypeId) (e : Operand → AVal) (h : List Blk) (K : AVal → List Nat → Prop) : Prop :=
 match argTypes.toList, args.toList with
 | t :: _ :: _, [s, x] => match T.und t, e s with
   | .slice el, .v (.slice none 0 0) => onlyIf (notOther (T.und el) && appOk T argTypes && decide (1 ≤ T.bytes el)) fun _ => rowK A h (T.size el) (e x) fun m n ys => roomK A T el m n fun _ =>
       optK (snapRow h (e x) ys) fun cs => K (.lst m n cs) (idsRow h (e x) ys)
   | .slice el, .cap0 => onlyIf (notOther (T.und el) && appOk T argTypes && decide (1 ≤ T.bytes el)) fun _ => rowK A h (T.size el) (e x) fun m n ys => roomK A T el m n fun _ =>
       optK (snapRow h (e x) ys) fun cs => K (.lst m n cs) (idsRow h (e x) ys)
   | _, _ => False
 | _, _ => False
def appE (args : Array Operand) (argTypes : Array TypeId) (e : Operand → AVal) (h : List Blk) (K : AVal → List Blk → Prop) : Prop :=
 match argTypes.toList, args.toList with
 | t :: _ :: _, [s, x] => match T.und t with
   | .slice el => onlyIf (notOther (T.und el) && appOk T argTypes && decide (1 ≤ T.bytes el)) fun _ => rowK A h (T.size el) (e x) fun m k ys => match e s with
     | .v (.slice none 0 0) => roomK A T el m k fun _ => K (.osl m h.length 0 k (T.size el)) (h ++ [⟨true, true, ys⟩])
     | .cap0 => roomK A T el m k fun _ => K (.osl m h.length 0 k (T.size el)) (h ++ [⟨true, true, ys⟩])
     | .osl false id 0 n sz => onlyIf ((hget h id).live && (hget h id).wr && (sz == T.size el) && ((hget h id).cells.length == n * sz) && !m && flatL AVal.one ys) fun _ =>
         roomK A T el false (4 * (n + k) + 1000) fun _ => K (.osl false h.length 0 (n + k) sz) (hset h id ⟨false, true, []⟩ ++ [⟨true, true, app (hget h id).cells ys⟩])
     | _ => False
   | _ => False
 | _, _ => False
def isCpy : Callee → Bool
 | .builtin .copy => true
 | _ => false
def cpyE (args : Array Operand) (argTypes : Array TypeId) (e : Operand → AVal) (h : List Blk) (K : AVal → List Blk → Prop) : Prop :=
 match argTypes.toList, args.toList with
 | t :: _ :: _, [d, x] => match T.und t, e d with
   | .slice el, .osl false id off n sz => onlyIf ((hget h id).live && (hget h id).wr && (sz == T.size el) && notOther (T.und el) && decide (1 ≤ n)) fun _ => rowK A h (T.size el) (e x) fun m k ys =>
       onlyIf (!m) fun _ => optK (lsub ys 0 (Nat.min k n * sz)) fun zs => onlyIf (flatL AVal.one zs) fun _ => optK (lput (hget h id).cells off zs) fun cs =>
         K (.i .i64 ((Nat.min k n : Nat) : Int)) (hset h id ⟨true, true, cs⟩)
   | _, _ => False
 | _, _ => False
def zeroI (x : Option AVal) (t : Bool) : Bool :=
 match x with
 | none => t
 | some (.i _ n) => n == 0
 | _ => false
def aopQ (o : Oper) (e : Operand → AVal) (h : List Blk) (K : AVal → List Nat → Prop) : Prop :=
 match o.op with
 | .load t x => match e x with
   | .own id off => onlyIf (hget h id).live fun _ => optK (part T t (hget h id).cells off) fun y => K y []
   | .el id off => onlyIf (hget h id).live fun _ => ARef (hget h id).cells off (T.size t) fun ys => optK (part T t ys 0) fun y => K y []
   | .ref cs off => optK (part T t cs off) fun y => K y []
   | _ => False
 | .slice t x lo hi mx => match mx, T.und t, e x with
   | none, .arr n el, .own id off => onlyIf (notOther (T.und el) && (hget h id).live && decide (off + n * T.size el ≤ (hget h id).cells.length)) fun _ =>
       aopP.asub (lo.map e) (hi.map e) n fun l r => K (.osl false id (off + l * T.size el) (r - l) (T.size el)) []
   | none, .arr n el, .ref cs off => onlyIf (notOther (T.und el)) fun _ => aopP.asub (lo.map e) (hi.map e) n fun l r =>
       optK (lsub cs (off + l * T.size el) ((r - l) * T.size el)) fun cs' => K (.lst false (r - l) cs') []
   | none, .slice el, .osl false id off n sz => onlyIf (notOther (T.und el) && (T.size el == sz)) fun _ => aopP.asub (lo.map e) (hi.map e) n fun l r => K (.osl false id (off + l * sz) (r - l) sz) []
   | none, .slice el, .lst false n cs => onlyIf (notOther (T.und el)) fun _ => aopP.asub (lo.map e) (hi.map e) n fun l r =>
       optK (lsub cs (l * T.size el) ((r - l) * T.size el)) fun cs' => K (.lst false (r - l) cs') []
   | some m, .slice el, .lst _ _ _ => onlyIf (notOther (T.und el) && zeroI (lo.map e) true && zeroI (hi.map e) false && zeroI (some (e m)) false) fun _ => K .cap0 []
   | some m, .slice el, .v (.slice none 0 0) => onlyIf (notOther (T.und el) && zeroI (lo.map e) true && zeroI (hi.map e) false && zeroI (some (e m)) false) fun _ => K .cap0 []
   | _, _, _ => False
 | .alloc t => onlyIf (notOther (T.und t)) fun _ => K (.ref (mapV (T.zero t)) 0) []
 | .box _ x => optK (snap h depth (e x)) fun y => optK y.cells fun cs => K (.ref cs 0) (ids h depth (e x))
 | .buildSlice t n parts => match T.und t with
   | .slice el => onlyIf (notOther (T.und el) && decide (n * T.size el ≤ 16777216)) fun _ => optK (aopP.fillP T (.arr n el) (aopP.partsOf e parts.toList) (reps n (mapV (T.zero el)))) fun cs =>
       optK (snapL (snap h depth) cs) fun cs' => K (.lst false n cs') (idsL (ids h depth) cs)
   | _ => False
 | .makeSlice t l c => match T.und t, e l, e c with
   | .slice el, .i _ n, .i _ m => onlyIf (decide (0 ≤ n) && decide (n = m) && decide (n < 100000) && notOther (T.und el) && decide (T.bytes el < 100000)) fun _ => K (.lst false n.toNat (reps n.toNat (mapV (T.zero el)))) []
   | _, _, _ => False
 | .call c => match isApp c.callee with
   | true => appQ A T c.args c.argTypes e h K
   | false => match callee T e c with
     | some (f, args) => optK (snapL (snap h depth) args) fun args' => ACall Spec f args' fun r => K (noNew r) (heldBy h args r)
     | none => False
 | _ => False
def adoptL (h : List Blk) : List AVal → List AVal × List Blk
 | [] => ([], h)
 | x :: vs => match x with
   | .new m n sz cs => ((.osl m h.length 0 n sz) :: (adoptL (h ++ [⟨true, true, cs⟩]) vs).1, (adoptL (h ++ [⟨true, true, cs⟩]) vs).2)
   | x => (x :: (adoptL h vs).1, (adoptL h vs).2)
def adopt (h : List Blk) : AVal → AVal × List Blk
 | .new m n sz cs => (.osl m h.length 0 n sz, h ++ [⟨true, true, cs⟩])
 | .tup vs => (.tup (adoptL h vs).1, (adoptL h vs).2)
 | x => (x, h)
def aopE (o : Oper) (e : Operand → AVal) (h : List Blk) (K : AVal → List Blk → Prop) : Prop :=
 match o.op with
 | .store t x y => match e x with
   | .own id off => optK (e y).cells fun ys => onlyIf ((hget h id).live && (hget h id).wr && (ys.length == T.size t) && flatL AVal.one ys && notOther (T.und t)) fun _ =>
       optK (lput (hget h id).cells off ys) fun cs => K (.tup []) (hset h id ⟨true, true, cs⟩)
   | .el id off => optK (e y).cells fun ys => onlyIf ((hget h id).live && (hget h id).wr && (ys.length == T.size t) && flatL AVal.one ys && notOther (T.und t)) fun _ =>
       ASt (hget h id).cells off ys fun cs => K (.tup []) (hset h id ⟨true, true, cs⟩)
   | _ => False
 | .alloc t => onlyIf (notOther (T.und t)) fun _ => K (.own h.length 0) (h ++ [⟨true, true, mapV (T.zero t)⟩])
 | .box _ x => optK (e x).cells fun cs => K (.own h.length 0) (h ++ [⟨true, true, cs⟩])
 | .buildSlice t n parts => match T.und t with
   | .slice el => onlyIf (notOther (T.und el) && decide (n * T.size el ≤ 16777216)) fun _ => optK (aopP.fillP T (.arr n el) (aopP.partsOf e parts.toList) (reps n (mapV (T.zero el)))) fun cs =>
       K (.osl false h.length 0 n (T.size el)) (h ++ [⟨true, true, cs⟩])
   | _ => False
 | .makeSlice t l c => match T.und t, e l, e c with
   | .slice el, .i _ n, .i _ m => onlyIf (decide (0 ≤ n) && decide (n ≤ m) && decide (m < 100000) && notOther (T.und el) && decide (T.bytes el < 100000)) fun _ =>
       K (.osl false h.length 0 n.toNat (T.size el)) (h ++ [⟨true, true, reps n.toNat (mapV (T.zero el))⟩])
   | .slice el, .i _ n, .s _ m => onlyIf (decide (n = 0) && notOther (T.und el) && decide (T.bytes el < 100000)) fun _ => Need (A.capok m) fun _ =>
       K (.osl false h.length 0 0 (T.size el)) (h ++ [⟨true, true, []⟩])
   | _, _, _ => False
 | .call c => match isApp c.callee with
   | true => appE A T c.args c.argTypes e h K
   | false => match isCpy c.callee with
     | true => cpyE A T c.args c.argTypes e h K
     | false => match callee T e c with
       | some (f, args) => match T.mu f with
         | true => AMut Spec f h args K
         | false => optK (snapL (snap h depth) args) fun args' => ACall Spec f args' fun r =>
           K (adopt (freeze h (heldBy h args r)) r).1 (adopt (freeze h (heldBy h args r)) r).2
       | none => False
 | _ => False
def numU : AVal → Option Int
 | .i .u64 n => some n
 | .s .u64 n => some n
 | _ => none
def amin (c : Call) (e : Operand → AVal) (K : AVal → Prop) : Prop :=
 match c.args.toList with
 | [x, y] => optK (numU (e x)) fun a => optK (numU (e y)) fun b => AJ (A.cmp .lss b a) b a fun v => K (.s .u64 v)
 | _ => False
def alen0 (c : Call) (e : Operand → AVal) (K : AVal → Prop) : Prop :=
 match c.argTypes[0]?, c.args[0]? with
 | some t, some x => match T.und t, e x with
   | .arr n _, _ => K (.i .i64 n)
   | .slice _, .v (.slice none 0 _) => K (.i .i64 0)
   | .slice _, .lst m n _ => K (match m with | true => .s .i64 (A.len n) | false => .i .i64 n)
   | .slice _, .osl m _ _ n _ => K (match m with | true => .s .i64 (A.len n) | false => .i .i64 n)
   | .str, .v (.string s) => K (.s .i64 (A.len (A.size s)))
   | _, _ => False
 | _, _ => False
def isMin : Callee → Bool
 | .builtin .min => true
 | _ => false
def alen (c : Call) (e : Operand → AVal) (K : AVal → Prop) : Prop :=
 match isMin c.callee with
 | true => amin A c e K
 | false => alen0 A T c e K
def yieldOf (e : Operand → AVal) (o : Op) : Option (Nat × List AVal) :=
 match o with
 | .call c => match c.callee with
   | .value g => match e g with
     | .v (.func (.yield l) a b) => match a.toList, b.toList with
       | [], [] => some (l, c.args.toList.map e)
       | _, _ => none
     | _ => none
   | _ => none
 | _ => none
def mark (d : Nat) : Blk := ⟨false, true, [.i .i64 d]⟩
def isMark (b : Blk) (d : Nat) : Bool :=
 match b.live, b.wr, b.cells with
 | false, true, [.i .i64 x] => x == (d : Int)
 | _, _, _ => false
def findRes : List Blk → Nat → Nat → Option Nat
 | [], _, _ => none
 | b :: h, d, i => match isMark b d with
   | true => some i
   | false => findRes h d (i + 1)
def marksOf : List Oper → List Blk
 | [] => []
 | o :: l => match o.op, o.dst with
   | .alloc _, some d => mark d :: marksOf l
   | _, _ => marksOf l
def reserve (m : Md) (ops : List Oper) (s : St) : St :=
 match m with
 | .res _ => ⟨s.tmps, s.heap ++ marksOf ops⟩
 | .tre _ => ⟨s.tmps, s.heap ++ marksOf ops⟩
 | .apr => ⟨s.tmps, s.heap ++ marksOf ops⟩
 | _ => s
def aopR (o : Oper) (h : List Blk) (K : AVal → List Blk → Prop) : Prop :=
 match o.op, o.dst with
 | .alloc t, some d => onlyIf (notOther (T.und t)) fun _ => optK (findRes h d 0) fun id => K (.own id 0) (hset h id ⟨true, true, mapV (T.zero t)⟩)
 | _, _ => False
def aop (tree : Md) (o : Oper) (s : St) (K : AVal → List Blk → Prop) : Prop :=
 match cls tree o.op with
 | .p => match o.op with
   | .call c => alen A T c (ev s) fun v => K v s.heap
   | _ => aopP A T o (ev s) fun v => K v s.heap
 | .q => aopQ A T Spec o (ev s) s.heap fun v l => K v (freeze s.heap l)
 | .e => match yieldOf (ev s) o.op with
   | some (l, args) => optK (snapL (snap s.heap depth) args) fun args' => AYield Spec l s.heap args' K
   | none => aopE A T Spec o (ev s) s.heap K
 | .r => aopR T o s.heap K
def dstOf (ops : List Oper) (j : Nat) : Option Tmp :=
 match ops, j with
 | [], _ => none
 | o :: _, 0 => o.dst
 | _ :: os, j + 1 => dstOf os j
def astep (tree : Md) (all : List Oper) (o : Oper) (s : St) (K : St → Prop) : Prop :=
 match o.guard with
 | none => aop A T Spec tree o s fun v h => K (put ⟨s.tmps, h⟩ o.dst v)
 | some (j, want) => match dstOf all j with
   | none => False
   | some d => match lget s.tmps d with
     | some (.b t) => match t == want with
       | true => aop A T Spec tree o s fun v h => K (put ⟨s.tmps, h⟩ o.dst v)
       | false => K (put s o.dst (.tup []))
     | some (.sb t) => match want with
       | true => ABr t (fun _ => aop A T Spec tree o s fun v h => K (put ⟨s.tmps, h⟩ o.dst v)) (fun _ => K (put s o.dst (.tup [])))
       | false => ABr t (fun _ => K (put s o.dst (.tup []))) (fun _ => aop A T Spec tree o s fun v h => K (put ⟨s.tmps, h⟩ o.dst v))
     | some (.tup []) => K (put s o.dst (.tup []))
     | _ => False
def aops (tree : Md) (all : List Oper) : List Oper → St → (St → Prop) → Prop
 | [], s, K => K s
 | o :: os, s, K => astep A T Spec tree all o s fun s' => aops tree all os s' K
def isAlloc : Op → Bool
 | .alloc _ => true
 | _ => false
def isAppOp : Op → Bool
 | .call { callee := .builtin .append, .. } => true
 | _ => false
def isNewOp : Op → Bool
 | .buildSlice _ _ parts => parts.toList.isEmpty
 | _ => false
def indep (tree : Md) (ops : Array Oper) (x y : Oper) : Bool :=
 x.apart ops y && y.apart ops x && (match cls tree x.op, cls tree y.op with
   | .p, _ | _, .p | .q, .q | .q, .r | .r, .r => true
   | .q, .e => isAlloc y.op
   | .e, .r => isAppOp x.op || isNewOp x.op
   | _, _ => false)
def anc (ops : Array Oper) : Nat → Nat → Nat → Bool
 | 0, _, _ => false
 | d + 1, i, j => match ops[i]? with
   | none => false
   | some o => o.after.toList.any fun e => Region.binds .any e && (e.on == j || anc ops d e.on j)
def okDraw (tree : Md) (ops : Array Oper) : Bool :=
 let l := ops.toList.zipIdx
 l.all fun y => (y.1.after.toList.all fun e => !Region.binds .any e || decide (e.on < y.2)) && l.all fun x => !(decide (x.2 < y.2)) || indep tree ops x.1 y.1 || anc ops 3 y.2 x.2
def noRange : Code → Bool
 | .seq a b => noRange a && noRange b
 | .cond _ a b => noRange a && noRange b
 | .block _ c => noRange c
 | .loop c => noRange c
 | .rangeFunc .. => false
 | .scope c => noRange c
 | _ => true
def noLoop : Code → Bool
 | .seq a b => noLoop a && noLoop b
 | .cond _ a b => noLoop a && noLoop b
 | .block _ c => noLoop c
 | .loop _ => false
 | .rangeFunc .. => false
 | .scope c => noLoop c
 | _ => true
def codeOK (tr : Nat → Md) : Code → Bool
 | .region r ops draw => !draw || okDraw (tr r) ops
 | .seq a b => codeOK tr a && codeOK tr b
 | .cond _ a b => codeOK tr a && codeOK tr b
 | .block _ c => codeOK tr c
 | .loop c => codeOK tr c
 | .rangeFunc _ _ a b => codeOK tr a && codeOK tr b && noRange a && noRange b && (noLoop a && noLoop b)
 | .scope c => codeOK tr c
 | _ => true
def loopN (gc : Bool) (body : St → (Exit → St → Prop) → Prop) : Nat → St → (Exit → St → Prop) → Prop
 | 0, s, K => ALoop gc body s K
 | n + 1, s, K => body s fun e s' => match e with
   | .normal => loopN gc body n s' K
   | e => K e s'
def psets : List AVal → List Tmp → List AVal → List AVal
 | tm, p :: ps, u :: us => psets (lset tm p u) ps us
 | tm, _, _ => tm
def sop (o : Oper) (e : Operand → AVal) : Option AVal :=
 match o.guard with
 | some _ => none
 | none => match o.op with
   | .move x => some (e x)
   | .assign x => some (e x)
   | .binOp op _ x y _ => match isArith op with
     | false => none
     | true => match e x, e y with
       | .s k a, .i k' c => match rokb op c && (isShift op || decide (k = k')) with
         | true => some (.s k (A.bin op k a c))
         | false => none
       | .i k a, .s k' c => match !needsOk op && decide (k = k') with
         | true => some (.s k (A.bin op k a c))
         | false => none
       | .s k a, .s k' c => match !needsOk op && decide (k = k') with
         | true => some (.s k (A.bin op k a c))
         | false => none
       | .i k a, .i k' c => match rokb op c && (isShift op || decide (k = k')) with
         | true => some (.i k (rbin op k a c))
         | false => none
       | _, _ => none
   | _ => none
def sops : List Oper → St → Option St
 | [], s => some s
 | o :: os, s => match sop A o (ev s) with
   | some y => sops os (put s o.dst y)
   | none => none
def scode : Code → St → Option St
 | .skip, s => some s
 | .region _ ops _, s => sops A ops.toList s
 | _, _ => none
def dstL : List Oper → List Tmp
 | [] => []
 | o :: os => match o.dst with
   | some d => d :: dstL os
   | none => dstL os
def dstC : Code → List Tmp
 | .region _ ops _ => dstL ops.toList
 | _ => []
def memN (d : Nat) : List Nat → Bool
 | [] => false
 | e :: l => match d == e with
   | true => true
   | false => memN d l
def uniN : List Nat → List Nat → List Nat
 | [], l => l
 | d :: k, l => match memN d l with
   | true => uniN k l
   | false => uniN k (d :: l)
def isJ (tr : Nat → Md) : Code → Bool
 | .skip => true
 | .region r _ draw => match draw, tr r with
   | false, .jn => true
   | _, _ => false
 | _ => false
def jn (t : Bool) (sa sb : List AVal) : List Nat → List AVal → (List AVal → Prop) → Prop
 | [], tm, K => K tm
 | d :: ds, tm, K => match lget sa d, lget sb d with
   | some (.i k a), some (.i k' b) | some (.i k a), some (.s k' b) | some (.s k a), some (.i k' b) | some (.s k a), some (.s k' b) => match decide (k = k') with
     | true => AJ t a b fun v => jn t sa sb ds (lset tm d (.s k v)) K
     | false => jn t sa sb ds (lset tm d .any) K
   | some (.b a), some (.b b) | some (.b a), some (.sb b) | some (.sb a), some (.b b) | some (.sb a), some (.sb b) => AJB t a b fun v => jn t sa sb ds (lset tm d (.sb v)) K
   | _, _ => jn t sa sb ds (lset tm d .any) K
variable (N : Nat → Nat)   -- how often a loop (by its block) is opened
variable (tr : Nat → Md)   -- in which regions new rows are trees
def acode (id : Nat) : Code → St → (Exit → St → Prop) → Prop
 | .skip, s, K => K .normal s
 | .region r ops _, s, K => aops A T Spec (tr r) ops.toList ops.toList (reserve (tr r) ops.toList s) (K .normal)
 | .seq a b, s, K => acode id a s fun e s' => match e with
   | .normal => acode id b s' K
   | e => K e s'
 | .cond c a b, s, K => match ev s c with
   | .b true => acode id a s K
   | .b false => acode id b s K
   | .sb t => match isJ tr a && isJ tr b with
     | true => match scode A a s, scode A b s with
       | some sa, some sb => jn t sa.tmps sb.tmps (uniN (dstC a) (dstC b)) s.tmps fun tm => K .normal ⟨tm, s.heap⟩
       | _, _ => ABr t (fun _ => acode id a s K) (fun _ => acode id b s K)
     | false => ABr t (fun _ => acode id a s K) (fun _ => acode id b s K)
   | _ => False
 | .block i c, s, K => acode i c s fun e s' => match e with
   | .exit j => match j == i with
     | true => K .normal s'
     | false => K (.exit j) s'
   | e => K e s'
 | .loop c, s, K => loopN Spec.gc (fun s K => acode id c s K) (N id) s K
 | .rangeFunc g ps asg body, s, K => match ev s g with
   | .fn (.func gf) [] cap => optK (snapL (snap s.heap depth) cap) fun cap' => ARange Spec gf cap' ps.toList.length (fun us h Kr =>
       acode id asg ⟨psets s.tmps ps.toList us, h⟩ fun e s1 => match e with
         | .normal => acode id body s1 fun e s2 => match e with
           | .normal => Kr s2.heap
           | _ => False
         | _ => False) (freeze s.heap (idsL (ids s.heap depth) cap)) fun h => K .normal ⟨s.tmps, h⟩
   | _ => False
 | .exit j, s, K => K (.exit j) s
 | .ret, s, K => K .ret s
 | _, _, _ => False
def ares (rs : List ResultVar) (s : St) : Option (List AVal) :=
 match rs with
 | [] => some []
 | .tmp t :: rs => match lget s.tmps t, ares rs s with
   | some x, some l => some (x :: l)
   | _, _ => none
 | .cell a t :: rs => match lget s.tmps a, ares rs s with
   | some (.own id off), some l => match (hget s.heap id).live with
     | true => (part T t (hget s.heap id).cells off).map (· :: l)
     | false => none
   | _, _ => none
def undefs : Nat → List AVal
 | 0 => []
 | n + 1 => .tup [] :: undefs n
def countId (i : Nat) : List Nat → Nat
 | [] => 0
 | j :: l => (match j == i with | true => 1 | false => 0) + countId i l
def outOf (h : List Blk) (x : AVal) : Option AVal :=
 match x with
 | .osl m id 0 n sz => match (hget h id).live && (hget h id).wr && ((hget h id).cells.length == n * sz) && (countId id (idsL (ids h depth) (hget h id).cells) == 0) with
   | true => (snapL (snap h depth) (hget h id).cells).map (.new m n sz)
   | false => snap h depth x
 | x => snap h depth x
def countNF : List AVal → Nat
 | [] => 0
 | x :: l => (match x.flat with | true => 0 | false => 1) + countNF l
def outF (h : List Blk) : List AVal → Option (List AVal)
 | [] => some []
 | x :: l => match (match x.flat with | true => some x | false => outOf h x), outF h l with
   | some y, some ys => some (y :: ys)
   | _, _ => none
def outL (h : List Blk) (l : List AVal) : Option (List AVal) :=
 match countNF l with
 | 1 => outF h l
 | _ => snapL (snap h depth) l
def one : List AVal → AVal
 | [x] => x
 | l => .tup l
def afun (ntmps : Nat) (rs : Array ResultVar) (c : Code) (args : List AVal) (K : AVal → Prop) : Prop :=
 acode A T Spec N tr 0 c ⟨app args (undefs (ntmps - args.length)), []⟩ fun e s =>
   match e with
   | .normal | .ret => optK (ares T rs.toList s) fun l => optK (outL s.heap l) fun l => K (one l)
   | _ => False
def afunM (ntmps : Nat) (rs : Array ResultVar) (c : Code) (h : List Blk) (args : List AVal) (K : AVal → List Blk → Prop) : Prop :=
 acode A T Spec N tr 0 c ⟨app args (undefs (ntmps - args.length)), h⟩ fun e s =>
   match e with
   | .normal | .ret => optK (ares T rs.toList s) fun l => K (one l) s.heap
   | _ => False
end
end Eng
namespace Eng
open Go
structure Ext (M : Nat → Prop) (w w' : World) : Prop where
 os : w'.os = w.os
 tape : w'.tape = w.tape
 output : w'.output = w.output
 size : w.heap.size ≤ w'.heap.size
 block : ∀ k, k < w.heap.size → ¬ M k → w'.heap[k]? = w.heap[k]?
 there : ∀ b o n, w.there b o n → w'.there b o n
theorem Ext.refl (M : Nat → Prop) (w : World) : Ext M w w := ⟨rfl, rfl, rfl, Nat.le_refl _, fun _ _ _ => rfl, fun _ _ _ h => h⟩
theorem Ext.trans {M : Nat → Prop} {a b c : World} (h : Ext M a b) (k : Ext M b c) : Ext M a c :=
 ⟨k.os.trans h.os, k.tape.trans h.tape, k.output.trans h.output, Nat.le_trans h.size k.size,
  fun i hi hM => (k.block i (Nat.lt_of_lt_of_le hi h.size) hM).trans (h.block i hi hM), fun b o n ht => k.there b o n (h.there b o n ht)⟩
theorem Ext.trans' {M M' : Nat → Prop} {a b c : World} (h : Ext M a b) (k : Ext M' b c) (hm : ∀ i, M' i → i < a.heap.size → M i) : Ext M a c :=
 ⟨k.os.trans h.os, k.tape.trans h.tape, k.output.trans h.output, Nat.le_trans h.size k.size,
  fun i hi hM => (k.block i (Nat.lt_of_lt_of_le hi h.size) (fun h' => hM (hm i h' hi))).trans (h.block i hi hM), fun b o n ht => k.there b o n (h.there b o n ht)⟩
theorem Ext.mono {M M' : Nat → Prop} {w w' : World} (h : Ext M w w') (hm : ∀ k, M k → M' k) : Ext M' w w' :=
 ⟨h.os, h.tape, h.output, h.size, fun k hk hM => h.block k hk (fun h' => hM (hm k h')), h.there⟩
theorem there_lt {w : World} {b o n : Nat} (h : w.there b o n) (hn : 0 < n) : b < w.heap.size := by
 have h0 := (h 0 hn).1
 rcases Nat.lt_or_ge b w.heap.size with hb | hb
 . exact hb
 . simp [World.cell?, Array.getElem?_eq_none hb] at h0
theorem Ext.alloc (M : Nat → Prop) (w : World) (o : Obj) : Ext M w (w.alloc o) :=
 ⟨rfl, rfl, rfl, by simp, fun k hk _ => Go.RowKit.Below.heap_alloc w o k hk, fun b off n h j hj => by
   have hb := there_lt (w := w) h (by omega)
   have := h j hj
   have e := Go.RowKit.Below.heap_alloc w o b hb
   exact ⟨by rw [World.cell?_of_block (w := w) e]; exact this.1, by rw [World.frozen?_of_block (w := w) e]; exact this.2⟩⟩
theorem Ext.drew (M : Nat → Prop) (w : World) : Ext M w { w with drawn := w.drawn + 1 } :=
 ⟨rfl, rfl, rfl, Nat.le_refl _, fun _ _ _ => rfl, fun _ _ _ h => h⟩
theorem heap_setCells_ne (b : Nat) : ∀ (vs : List Value) (o : Nat) (w : World) (k : Nat), k ≠ b → (w.setCells b o vs).heap[k]? = w.heap[k]?
 | [], _, _, _, _ => rfl
 | v :: r, o, w, k, h => by
   rw [World.setCells, heap_setCells_ne b r (o + 1) _ k h]
   exact Go.RowKit.Below.heap_setCell w ⟨b, o, none⟩ v k h
theorem size_setCells (b : Nat) : ∀ (vs : List Value) (o : Nat) (w : World), (w.setCells b o vs).heap.size = w.heap.size
 | [], _, _ => rfl
 | v :: r, o, w => by rw [World.setCells, size_setCells b r]; simp [World.setCell]
theorem misc_setCells (b : Nat) : ∀ (vs : List Value) (o : Nat) (w : World), (w.setCells b o vs).os = w.os ∧ (w.setCells b o vs).tape = w.tape ∧ (w.setCells b o vs).output = w.output
 | [], _, _ => ⟨rfl, rfl, rfl⟩
 | v :: r, o, w => by rw [World.setCells]; obtain ⟨h1, h2, h3⟩ := misc_setCells b r (o + 1) (w.setCell ⟨b, o, none⟩ v); exact ⟨h1, h2, h3⟩
theorem Ext.setCells (w : World) (b o : Nat) (vs : List Value) : Ext (· = b) w (w.setCells b o vs) :=
 ⟨(misc_setCells b vs o w).1, (misc_setCells b vs o w).2.1, (misc_setCells b vs o w).2.2, by rw [size_setCells]; exact Nat.le_refl _,
  fun k _ hk => heap_setCells_ne b vs o w k hk, fun b' o' n h => World.there_setCells h b o vs⟩
theorem rangeAt_ext {M : Nat → Prop} {w w' : World} (h : Ext M w w') {b o : Nat} {vs : List Value} (hb : b < w.heap.size) (hM : ¬ M b) (hr : w.rangeAt b o vs) : w'.rangeAt b o vs :=
 fun j v hj => by rw [World.cell?_of_block (w := w) (h.block b hb hM)]; exact hr j v hj
structure Calm (B : Nat) (w w' : World) : Prop where
 os : w'.os = w.os
 tape : w'.tape = w.tape
 output : w'.output = w.output
 size : w.heap.size ≤ w'.heap.size
 block : ∀ k, k < w.heap.size → k < B → w'.heap[k]? = w.heap[k]?
 cells : ∀ (k : Nat) (c : Array Value) (t : TypeId) (f : Nat × Nat), w.heap[k]? = some (.cells c t f) → w'.heap[k]? = some (.cells c t f)
theorem Calm.refl (B : Nat) (w : World) : Calm B w w := ⟨rfl, rfl, rfl, Nat.le_refl _, fun _ _ _ => rfl, fun _ _ _ _ h => h⟩
theorem Calm.trans {B : Nat} {a b c : World} (h : Calm B a b) (k : Calm B b c) : Calm B a c :=
 ⟨k.os.trans h.os, k.tape.trans h.tape, k.output.trans h.output, Nat.le_trans h.size k.size,
  fun i hi hB => (k.block i (Nat.lt_of_lt_of_le hi h.size) hB).trans (h.block i hi hB), fun i x t f hc => k.cells i x t f (h.cells i x t f hc)⟩
theorem Calm.cell {B : Nat} {w w' : World} (h : Calm B w w') {a : Addr} (hc : (w.cell? a).isSome = true) : w'.cell? a = w.cell? a ∧ w'.frozen? a = w.frozen? a := by
 simp only [World.cell?, World.frozen?] at hc ⊢
 split at hc
 . rename_i c t f hb
   rw [h.cells _ c t f hb, hb]
   exact ⟨rfl, rfl⟩
 . simp at hc
theorem Calm.range {B : Nat} {w w' : World} (h : Calm B w w') {b o : Nat} {vs : List Value} (hr : w.rangeAt b o vs) : w'.rangeAt b o vs := fun j v hj => by
 have := hr j v hj
 rw [(h.cell (by rw [this]; rfl)).1]
 exact this
theorem Calm.there {B : Nat} {w w' : World} (h : Calm B w w') {b o n : Nat} (hr : w.there b o n) : w'.there b o n := fun j hj => by
 obtain ⟨h1, h2⟩ := hr j hj
 rw [(h.cell h1).1, (h.cell h1).2]
 exact ⟨h1, h2⟩
def noρ : Nat → Option Nat := fun _ => none
inductive Rep (w : World) (X : Nat → Prop) : (Nat → Option Nat) → Value → AVal → Prop where
 | i {ρ : Nat → Option Nat} (k : IntKind) (n : Int) : Rep w X ρ (.int k n) (.i k n)
 | s {ρ : Nat → Option Nat} (k : IntKind) (n : Int) : Rep w X ρ (.int k n) (.s k n)
 | b {ρ : Nat → Option Nat} (t : Bool) : Rep w X ρ (.bool t) (.b t)
 | sb {ρ : Nat → Option Nat} (t : Bool) : Rep w X ρ (.bool t) (.sb t)
 | v {ρ : Nat → Option Nat} (x : Value) (h : oneV x = true) : Rep w X ρ x (.v x)
 | any {ρ : Nat → Option Nat} (x : Value) : Rep w X ρ x .any
 | agg {ρ : Nat → Option Nat} (vs : List Value) (cs : List AVal) (hl : vs.length = cs.length) (h : ∀ (j : Nat) (v : Value) (x : AVal), vs[j]? = some v → cs[j]? = some x → Rep w X ρ v x) : Rep w X ρ (.agg vs.toArray) (.agg cs)
 | tup {ρ : Nat → Option Nat} (vs : List Value) (cs : List AVal) (hl : vs.length = cs.length) (h : ∀ (j : Nat) (v : Value) (x : AVal), vs[j]? = some v → cs[j]? = some x → Rep w X ρ v x) : Rep w X ρ (.tuple vs.toArray) (.tup cs)
 | lst {ρ : Nat → Option Nat} (m : Bool) (blk off n cap : Nat) (vs : List Value) (cs : List AVal) (hX : ¬ X blk) (hb : blk < w.heap.size) (hr : w.rangeAt blk off vs) (hn : n ≤ cap)
     (hl : vs.length = cs.length) (h : ∀ (j : Nat) (v : Value) (x : AVal), vs[j]? = some v → cs[j]? = some x → Rep w X noρ v x) : Rep w X ρ (.slice (some ⟨blk, off, none⟩) n cap) (.lst m n cs)
 | lst0 {ρ : Nat → Option Nat} (m : Bool) (a : Option Addr) (cap : Nat) : Rep w X ρ (.slice a 0 cap) (.lst m 0 [])
 | ref {ρ : Nat → Option Nat} (blk base off : Nat) (vs : List Value) (cs : List AVal) (hX : ¬ X blk) (hb : blk < w.heap.size) (hr : w.rangeAt blk base vs)
     (hl : vs.length = cs.length) (h : ∀ (j : Nat) (v : Value) (x : AVal), vs[j]? = some v → cs[j]? = some x → Rep w X noρ v x) : Rep w X ρ (.pointer (some ⟨blk, base + off, none⟩)) (.ref cs off)
 | own {ρ : Nat → Option Nat} (id off blk : Nat) (h : ρ id = some blk) : Rep w X ρ (.pointer (some ⟨blk, off, none⟩)) (.own id off)
 | el {ρ : Nat → Option Nat} (id off blk : Nat) (h : ρ id = some blk) : Rep w X ρ (.pointer (some ⟨blk, off, none⟩)) (.el id off)
 | osl {ρ : Nat → Option Nat} (m : Bool) (id off n sz blk cap : Nat) (h : ρ id = some blk) (hn : n ≤ cap) (ht : w.there blk off (cap * sz)) : Rep w X ρ (.slice (some ⟨blk, off, none⟩) n cap) (.osl m id off n sz)
 | osl0 {ρ : Nat → Option Nat} (m : Bool) (id off sz : Nat) (a : Option Addr) : Rep w X ρ (.slice a 0 0) (.osl m id off 0 sz)
 | cap0 {ρ : Nat → Option Nat} (a : Option Addr) : Rep w X ρ (.slice a 0 0) .cap0
 | ifc {ρ : Nat → Option Nat} (t : TypeId) (v : Value) (x : AVal) (h : Rep w X ρ v x) : Rep w X ρ (.iface t v) (.ifc t x)
 | fn {ρ : Nat → Option Nat} (f : Fn) (vs us : List Value) (cs ds : List AVal) (hl : vs.length = cs.length) (h : ∀ (j : Nat) (v : Value) (x : AVal), vs[j]? = some v → cs[j]? = some x → Rep w X ρ v x)
     (hl' : us.length = ds.length) (h' : ∀ (j : Nat) (v : Value) (x : AVal), us[j]? = some v → ds[j]? = some x → Rep w X ρ v x) : Rep w X ρ (.func f vs.toArray us.toArray) (.fn f cs ds)
inductive RepL (w : World) (X : Nat → Prop) (ρ : Nat → Option Nat) : List Value → List AVal → Prop where
 | nil : RepL w X ρ [] []
 | cons {v : Value} {x : AVal} {vs : List Value} {xs : List AVal} (h : Rep w X ρ v x) (hs : RepL w X ρ vs xs) : RepL w X ρ (v :: vs) (x :: xs)
section
variable {w : World} {X : Nat → Prop} {ρ : Nat → Option Nat}
theorem RepL.length {vs : List Value} {xs : List AVal} (h : RepL w X ρ vs xs) : vs.length = xs.length := by
 induction h with
 | nil => rfl
 | cons _ _ ih => simp [ih]
theorem RepL.at {vs : List Value} {xs : List AVal} (h : RepL w X ρ vs xs) : ∀ (j : Nat) (v : Value) (x : AVal), vs[j]? = some v → xs[j]? = some x → Rep w X ρ v x := by
 induction h with
 | nil => intro j v x hv; simp at hv
 | cons h hs ih =>
   intro j v x hv hx
   cases j with
   | zero => simp at hv hx; subst hv; subst hx; exact h
   | succ j => exact ih j v x (by simpa using hv) (by simpa using hx)
theorem RepL.mk' : ∀ {vs : List Value} {xs : List AVal}, vs.length = xs.length → (∀ (j : Nat) (v : Value) (x : AVal), vs[j]? = some v → xs[j]? = some x → Rep w X ρ v x) → RepL w X ρ vs xs
 | [], [], _, _ => .nil
 | v :: vs, x :: xs, hl, h => .cons (h 0 v x rfl rfl) (RepL.mk' (by simpa using hl) fun j v' x' hv hx => h (j + 1) v' x' (by simpa using hv) (by simpa using hx))
 | [], _ :: _, hl, _ => by simp at hl
 | _ :: _, [], hl, _ => by simp at hl
theorem RepL.agg {vs : List Value} {cs : List AVal} (h : RepL w X ρ vs cs) : Rep w X ρ (.agg vs.toArray) (.agg cs) := .agg vs cs h.length h.at
theorem RepL.tup {vs : List Value} {cs : List AVal} (h : RepL w X ρ vs cs) : Rep w X ρ (.tuple vs.toArray) (.tup cs) := .tup vs cs h.length h.at
theorem Rep.agg_inv {v : Value} {cs : List AVal} (h : Rep w X ρ v (.agg cs)) : ∃ vs : List Value, v = .agg vs.toArray ∧ RepL w X ρ vs cs := by
 cases h with
 | agg vs cs hl h => exact ⟨vs, rfl, RepL.mk' hl h⟩
theorem Rep.tup_inv {v : Value} {cs : List AVal} (h : Rep w X ρ v (.tup cs)) : ∃ vs : List Value, v = .tuple vs.toArray ∧ RepL w X ρ vs cs := by
 cases h with
 | tup vs cs hl h => exact ⟨vs, rfl, RepL.mk' hl h⟩
theorem Rep.i_inv {v : Value} {k : IntKind} {n : Int} (h : Rep w X ρ v (.i k n)) : v = .int k n := by cases h; rfl
theorem Rep.s_inv {v : Value} {k : IntKind} {n : Int} (h : Rep w X ρ v (.s k n)) : v = .int k n := by cases h; rfl
theorem Rep.b_inv {v : Value} {t : Bool} (h : Rep w X ρ v (.b t)) : v = .bool t := by cases h; rfl
theorem Rep.sb_inv {v : Value} {t : Bool} (h : Rep w X ρ v (.sb t)) : v = .bool t := by cases h; rfl
theorem Rep.v_inv {v x : Value} (h : Rep w X ρ v (.v x)) : v = x := by cases h; rfl
theorem Rep.cap0_inv {v : Value} (h : Rep w X ρ v .cap0) : ∃ a, v = .slice a 0 0 := by cases h; exact ⟨_, rfl⟩
theorem Rep.own_inv {v : Value} {id off : Nat} (h : Rep w X ρ v (.own id off)) : ∃ blk, v = .pointer (some ⟨blk, off, none⟩) ∧ ρ id = some blk := by cases h; exact ⟨_, rfl, by assumption⟩
theorem Rep.el_inv {v : Value} {id off : Nat} (h : Rep w X ρ v (.el id off)) : ∃ blk, v = .pointer (some ⟨blk, off, none⟩) ∧ ρ id = some blk := by cases h; exact ⟨_, rfl, by assumption⟩
theorem Rep.ref_inv {v : Value} {cs : List AVal} {off : Nat} (h : Rep w X ρ v (.ref cs off)) :
   ∃ blk base vs, v = .pointer (some ⟨blk, base + off, none⟩) ∧ ¬ X blk ∧ blk < w.heap.size ∧ w.rangeAt blk base vs ∧ RepL w X noρ vs cs := by
 cases h with
 | ref blk base off vs cs h1 h2 h3 hl h4 => exact ⟨blk, base, vs, rfl, h1, h2, h3, RepL.mk' hl h4⟩
theorem Rep.lst_inv {v : Value} {m : Bool} {n : Nat} {cs : List AVal} (h : Rep w X ρ v (.lst m n cs)) :
   (∃ blk off cap vs, v = .slice (some ⟨blk, off, none⟩) n cap ∧ ¬ X blk ∧ blk < w.heap.size ∧ w.rangeAt blk off vs ∧ n ≤ cap ∧ RepL w X noρ vs cs) ∨ (n = 0 ∧ cs = [] ∧ ∃ a cap, v = .slice a 0 cap) := by
 cases h with
 | lst m blk off n cap vs cs h1 h2 h3 hn hl h4 => exact .inl ⟨blk, off, cap, vs, rfl, h1, h2, h3, hn, RepL.mk' hl h4⟩
 | lst0 m a cap => exact .inr ⟨rfl, rfl, a, cap, rfl⟩
theorem Rep.osl_inv {v : Value} {m : Bool} {id off n sz : Nat} (h : Rep w X ρ v (.osl m id off n sz)) :
   (∃ blk cap, v = .slice (some ⟨blk, off, none⟩) n cap ∧ ρ id = some blk ∧ n ≤ cap ∧ w.there blk off (cap * sz)) ∨ (n = 0 ∧ ∃ a, v = .slice a 0 0) := by
 cases h with
 | osl m id off n sz blk cap h1 h2 h3 => exact .inl ⟨blk, cap, rfl, h1, h2, h3⟩
 | osl0 m id off sz a => exact .inr ⟨rfl, a, rfl⟩
theorem Rep.ifc_inv {v : Value} {t : TypeId} {x : AVal} (h : Rep w X ρ v (.ifc t x)) : ∃ u, v = .iface t u ∧ Rep w X ρ u x := by cases h; exact ⟨_, rfl, by assumption⟩
theorem Rep.fn_inv {v : Value} {f : Fn} {as cs : List AVal} (h : Rep w X ρ v (.fn f as cs)) : ∃ vs us : List Value, v = .func f vs.toArray us.toArray ∧ RepL w X ρ vs as ∧ RepL w X ρ us cs := by
 cases h with
 | fn f vs us cs ds hl h hl' h' => exact ⟨vs, us, rfl, RepL.mk' hl h, RepL.mk' hl' h'⟩
theorem Rep.calm {w' : World} {B : Nat} (hc : Calm B w w') {v : Value} {x : AVal} (h : Rep w X ρ v x) : Rep w' X ρ v x := by
 induction h with
 | i k n => exact .i k n
 | s k n => exact .s k n
 | b t => exact .b t
 | sb t => exact .sb t
 | v x h => exact .v x h
 | any x => exact .any x
 | agg vs cs hl _ ih => exact .agg vs cs hl ih
 | tup vs cs hl _ ih => exact .tup vs cs hl ih
 | lst m blk off n cap vs cs h1 hb hr hn hl _ ih => exact .lst m blk off n cap vs cs h1 (Nat.lt_of_lt_of_le hb hc.size) (hc.range hr) hn hl ih
 | lst0 m a cap => exact .lst0 m a cap
 | ref blk base off vs cs h1 hb hr hl _ ih => exact .ref blk base off vs cs h1 (Nat.lt_of_lt_of_le hb hc.size) (hc.range hr) hl ih
 | own id off blk h => exact .own id off blk h
 | el id off blk h => exact .el id off blk h
 | osl m id off n sz blk cap h hn ht => exact .osl m id off n sz blk cap h hn (hc.there ht)
 | osl0 m id off sz a => exact .osl0 m id off sz a
 | cap0 a => exact .cap0 a
 | ifc t v x _ ih => exact .ifc t v x ih
 | fn f vs us cs ds hl _ hl' _ ih ih' => exact .fn f vs us cs ds hl ih hl' ih'
theorem RepL.calm {w' : World} {B : Nat} (hc : Calm B w w') {vs : List Value} {xs : List AVal} (h : RepL w X ρ vs xs) : RepL w' X ρ vs xs := by
 induction h with
 | nil => exact .nil
 | cons h _ ih => exact .cons (h.calm hc) ih
theorem Rep.carry {w' : World} {X' : Nat → Prop} {ρ' : Nat → Option Nat} {M : Nat → Prop} (he : Ext M w w') (hX : ∀ b, b < w.heap.size → ¬ X b → ¬ X' b ∧ ¬ M b) (hρ : ∀ i b, ρ i = some b → ρ' i = some b)
   {v : Value} {x : AVal} (h : Rep w X ρ v x) : Rep w' X' ρ' v x := by
 induction h generalizing ρ' with
 | i k n => exact .i k n
 | s k n => exact .s k n
 | b t => exact .b t
 | sb t => exact .sb t
 | v x h => exact .v x h
 | any x => exact .any x
 | agg vs cs hl _ ih => exact .agg vs cs hl fun j v x h1 h2 => ih j v x h1 h2 hρ
 | tup vs cs hl _ ih => exact .tup vs cs hl fun j v x h1 h2 => ih j v x h1 h2 hρ
 | lst m blk off n cap vs cs h1 hb hr hn hl _ ih =>
   have := hX blk hb h1
   exact .lst m blk off n cap vs cs this.1 (Nat.lt_of_lt_of_le hb he.size) (rangeAt_ext he hb this.2 hr) hn hl fun j v x h1 h2 => ih j v x h1 h2 fun _ _ h => h
 | lst0 m a cap => exact .lst0 m a cap
 | ref blk base off vs cs h1 hb hr hl _ ih =>
   have := hX blk hb h1
   exact .ref blk base off vs cs this.1 (Nat.lt_of_lt_of_le hb he.size) (rangeAt_ext he hb this.2 hr) hl fun j v x h1 h2 => ih j v x h1 h2 fun _ _ h => h
 | own id off blk h => exact .own id off blk (hρ _ _ h)
 | el id off blk h => exact .el id off blk (hρ _ _ h)
 | osl m id off n sz blk cap h hn ht => exact .osl m id off n sz blk cap (hρ _ _ h) hn (he.there _ _ _ ht)
 | osl0 m id off sz a => exact .osl0 m id off sz a
 | cap0 a => exact .cap0 a
 | ifc t v x _ ih => exact .ifc t v x (ih hρ)
 | fn f vs us cs ds hl _ hl' _ ih ih' => exact .fn f vs us cs ds hl (fun j v x h1 h2 => ih j v x h1 h2 hρ) hl' (fun j v x h1 h2 => ih' j v x h1 h2 hρ)
theorem RepL.carry {w' : World} {X' : Nat → Prop} {ρ' : Nat → Option Nat} {M : Nat → Prop} (he : Ext M w w') (hX : ∀ b, b < w.heap.size → ¬ X b → ¬ X' b ∧ ¬ M b) (hρ : ∀ i b, ρ i = some b → ρ' i = some b)
   {vs : List Value} {xs : List AVal} (h : RepL w X ρ vs xs) : RepL w' X' ρ' vs xs := by
 induction h with
 | nil => exact .nil
 | cons h _ ih => exact .cons (h.carry he hX hρ) ih
theorem Rep.weaken {X' : Nat → Prop} (hX : ∀ b, X' b → X b) {v : Value} {x : AVal} (h : Rep w X ρ v x) : Rep w X' ρ v x :=
 h.carry (Ext.refl (fun _ => False) w) (fun b _ hb => ⟨fun h => hb (hX b h), id⟩) (fun _ _ h => h)
theorem Rep.up {v : Value} {x : AVal} (h : Rep w X noρ v x) : Rep w X ρ v x :=
 h.carry (Ext.refl (fun _ => False) w) (fun b _ hb => ⟨hb, id⟩) (fun _ _ h => by cases h)
theorem RepL.up {vs : List Value} {xs : List AVal} (h : RepL w X noρ vs xs) : RepL w X ρ vs xs :=
 h.carry (Ext.refl (fun _ => False) w) (fun b _ hb => ⟨hb, id⟩) (fun _ _ h => by cases h)
theorem RepL.weaken {X' : Nat → Prop} (hX : ∀ b, X' b → X b) {vs : List Value} {xs : List AVal} (h : RepL w X ρ vs xs) : RepL w X' ρ vs xs :=
 h.carry (Ext.refl (fun _ => False) w) (fun b _ hb => ⟨fun h => hb (hX b h), id⟩) (fun _ _ h => h)
end
theorem lget_eq : ∀ (l : List AVal) (n : Nat), lget l n = l[n]?
 | [], _ => by simp [lget]
 | x :: l, 0 => by simp [lget]
 | x :: l, n + 1 => by simp [lget, lget_eq l n]
theorem lset_eq : ∀ (l : List AVal) (n : Nat) (y : AVal), lset l n y = l.set n y
 | [], _, _ => by simp [lset]
 | x :: l, 0, y => by simp [lset]
 | x :: l, n + 1, y => by simp [lset, lset_eq l n y]
theorem app_eq : ∀ (l k : List AVal), app l k = l ++ k
 | [], k => rfl
 | x :: l, k => by simp [app, app_eq l k]
theorem lsub_spec : ∀ (l : List AVal) (off n : Nat) (r : List AVal), lsub l off n = some r → off + n ≤ l.length ∧ r = (l.drop off).take n
 | l, 0, 0, r, h => by simp [lsub] at h; subst h; simp
 | [], 0, n + 1, r, h => by simp [lsub] at h
 | [], off + 1, n, r, h => by simp [lsub] at h
 | x :: l, 0, n + 1, r, h => by
   simp [lsub] at h
   obtain ⟨a, ha, rfl⟩ := h
   obtain ⟨h1, h2⟩ := lsub_spec l 0 n a ha
   refine ⟨by simp; omega, by simp [h2]⟩
 | x :: l, off + 1, n, r, h => by
   simp [lsub] at h
   obtain ⟨h1, h2⟩ := lsub_spec l off n r h
   exact ⟨by simp; omega, by simp [h2]⟩
theorem lput_spec : ∀ (l : List AVal) (off : Nat) (ys r : List AVal), lput l off ys = some r → off + ys.length ≤ l.length ∧ r = l.take off ++ ys ++ l.drop (off + ys.length)
 | l, 0, [], r, h => by simp [lput] at h; subst h; simp
 | [], 0, y :: ys, r, h => by simp [lput] at h
 | [], off + 1, ys, r, h => by simp [lput] at h
 | x :: l, 0, y :: ys, r, h => by
   simp [lput] at h
   obtain ⟨a, ha, rfl⟩ := h
   obtain ⟨h1, h2⟩ := lput_spec l 0 ys a ha
   refine ⟨by simp; omega, by simp [h2]⟩
 | x :: l, off + 1, ys, r, h => by
   simp [lput] at h
   obtain ⟨a, ha, rfl⟩ := h
   obtain ⟨h1, h2⟩ := lput_spec l off ys a ha
   refine ⟨by simp; omega, ?_⟩
   simp [h2, show off + 1 + ys.length = (off + ys.length) + 1 by omega]
theorem hget_of_ge : ∀ (h : List Blk) (i : Nat), h.length ≤ i → hget h i = default
 | [], _, _ => rfl
 | x :: h, 0, hi => by simp at hi
 | x :: h, i + 1, hi => by simp [hget]; exact hget_of_ge h i (by simpa using hi)
theorem hget_append_lt : ∀ (h k : List Blk) (i : Nat), i < h.length → hget (h ++ k) i = hget h i
 | x :: h, k, 0, _ => rfl
 | x :: h, k, i + 1, hi => by simp [hget]; exact hget_append_lt h k i (by simpa using hi)
 | [], _, _, hi => by simp at hi
theorem hget_append_len : ∀ (h : List Blk) (b : Blk), hget (h ++ [b]) h.length = b
 | [], b => rfl
 | x :: h, b => by simp [hget]; exact hget_append_len h b
theorem hset_length : ∀ (h : List Blk) (i : Nat) (b : Blk), (hset h i b).length = h.length
 | [], _, _ => rfl
 | x :: h, 0, b => rfl
 | x :: h, i + 1, b => by simp [hset, hset_length h i b]
theorem hget_hset : ∀ (h : List Blk) (i j : Nat) (b : Blk), hget (hset h i b) j = if i = j ∧ i < h.length then b else hget h j
 | [], i, j, b => by simp [hset]
 | x :: h, 0, 0, b => by simp [hset, hget]
 | x :: h, 0, j + 1, b => by simp [hset, hget]
 | x :: h, i + 1, 0, b => by simp [hset, hget]
 | x :: h, i + 1, j + 1, b => by simp [hset, hget, hget_hset h i j b]
theorem live_lt {h : List Blk} {i : Nat} (hl : (hget h i).live = true) : i < h.length := by
 rcases Nat.lt_or_ge i h.length with hi | hi
 . exact hi
 . rw [hget_of_ge h i hi] at hl; cases hl
section
variable {w : World} {X : Nat → Prop} {ρ : Nat → Option Nat}
theorem RepL.get {vs : List Value} {xs : List AVal} (h : RepL w X ρ vs xs) {n : Nat} {x : AVal} (hx : lget xs n = some x) : ∃ v, vs[n]? = some v ∧ Rep w X ρ v x := by
 rw [lget_eq] at hx
 have hn : n < xs.length := by
   rcases Nat.lt_or_ge n xs.length with h' | h'
   . exact h'
   . rw [List.getElem?_eq_none h'] at hx; cases hx
 have hv : n < vs.length := by rw [h.length]; exact hn
 exact ⟨vs[n], List.getElem?_eq_getElem hv, h.at n _ x (List.getElem?_eq_getElem hv) hx⟩
theorem RepL.sub {vs : List Value} {xs r : List AVal} (h : RepL w X ρ vs xs) {off n : Nat} (hr : lsub xs off n = some r) : off + n ≤ vs.length ∧ RepL w X ρ ((vs.drop off).take n) r := by
 obtain ⟨h1, rfl⟩ := lsub_spec _ _ _ _ hr
 have hl := h.length
 refine ⟨by omega, RepL.mk' (by simp; omega) fun j v x hv hx => ?_⟩
 rw [List.getElem?_take] at hv hx
 split at hv
 . rename_i hj
   rw [if_pos hj, List.getElem?_drop] at hx
   rw [List.getElem?_drop] at hv
   exact h.at _ v x hv hx
 . cases hv
theorem RepL.append {vs us : List Value} {xs ys : List AVal} (h : RepL w X ρ vs xs) (h' : RepL w X ρ us ys) : RepL w X ρ (vs ++ us) (xs ++ ys) := by
 induction h with
 | nil => exact h'
 | cons h _ ih => exact .cons h ih
theorem RepL.take {vs : List Value} {xs : List AVal} (h : RepL w X ρ vs xs) : ∀ n, RepL w X ρ (vs.take n) (xs.take n) := by
 induction h with
 | nil => intro n; simp; exact .nil
 | cons h _ ih =>
   intro n
   cases n with
   | zero => exact .nil
   | succ n => exact .cons h (ih n)
theorem RepL.drop {vs : List Value} {xs : List AVal} (h : RepL w X ρ vs xs) : ∀ n, RepL w X ρ (vs.drop n) (xs.drop n) := by
 induction h with
 | nil => intro n; simp; exact .nil
 | cons h hs ih =>
   intro n
   cases n with
   | zero => exact .cons h hs
   | succ n => exact ih n
theorem RepL.put {vs us : List Value} {xs ys r : List AVal} (h : RepL w X ρ vs xs) (h' : RepL w X ρ us ys) {off : Nat} (hr : lput xs off ys = some r) :
   off + us.length ≤ vs.length ∧ RepL w X ρ (vs.take off ++ us ++ vs.drop (off + us.length)) r := by
 obtain ⟨h1, rfl⟩ := lput_spec _ _ _ _ hr
 have hl := h.length
 have hl' := h'.length
 refine ⟨by omega, ?_⟩
 rw [hl']
 exact ((h.take off).append h').append (h.drop _)
end
def XX (X : Nat → Prop) (ρ : Nat → Option Nat) (h : List Blk) (b : Nat) : Prop := X b ∨ ∃ i, (hget h i).live = true ∧ (hget h i).wr = true ∧ ρ i = some b
def XXm (X : Nat → Prop) (ρ : Nat → Option Nat) (h : List Blk) (L : List Nat) (b : Nat) : Prop := X b ∨ ∃ i, i ∉ L ∧ (hget h i).live = true ∧ (hget h i).wr = true ∧ ρ i = some b
structure HRel (X : Nat → Prop) (ρ : Nat → Option Nat) (h : List Blk) (w : World) : Prop where
 inj : ∀ i j b, (hget h i).live = true → (hget h j).live = true → ρ i = some b → ρ j = some b → i = j
 blk : ∀ i, (hget h i).live = true → (∃ b vs, ρ i = some b ∧ b < w.heap.size ∧ ¬ X b ∧ w.rangeAt b 0 vs ∧ w.there b 0 vs.length ∧ RepL w (XX X ρ h) ρ vs (hget h i).cells) ∨ (ρ i = none ∧ (hget h i).cells = [])
 dom : ∀ i, h.length ≤ i → ρ i = none
 res : ∀ i d, hget h i = mark d → ρ i = none
abbrev Hist := (Nat → Prop) → (Nat → Option Nat) → List Blk → World → Prop
structure Marks (B : Nat) (ρ : Nat → Option Nat) (h : List Blk) (ds : List Deferred) (w : World) : Prop where
 nodup : ds.Nodup
 is : ∀ d ∈ ds, ∃ D, B ≤ D ∧ d = { target := .collected D, args := #[] } ∧ w.heap[D]? = some (.deferred (some [])) ∧ ∀ i, (hget h i).live = true → (hget h i).wr = true → ρ i ≠ some D
structure Rel (P : Program) (B : Nat) (Hi : Hist) (X : Nat → Prop) (ρ : Nat → Option Nat) (s : St) (a : Act) (w : World) : Prop where
 heap : HRel X ρ s.heap w
 size : a.tmps.size = s.tmps.length
 tmps : ∀ (t : Nat) (v : Value) (x : AVal), a.tmps[t]? = some v → lget s.tmps t = some x → Rep w (XX X ρ s.heap) ρ v x
 marks : Marks B ρ s.heap a.defers w
 lt : ∀ b, X b → b < w.heap.size
 base : B ≤ w.heap.size
 hist : Hi X ρ s.heap w
theorem Rep.undef {w : World} {X : Nat → Prop} {ρ : Nat → Option Nat} : Rep w X ρ undef (.tup []) := .tup [] [] rfl (fun j v x hv => by simp at hv)
theorem Rep.ofV1 {w : World} {X : Nat → Prop} {ρ : Nat → Option Nat} (v : Value) : Rep w X ρ v (ofV1 v) := by
 cases v <;> first | exact .i _ _ | exact .b _ | exact .any _ | exact .v _ rfl
theorem RepL.mapV {w : World} {X : Nat → Prop} {ρ : Nat → Option Nat} : ∀ (vs : List Value), RepL w X ρ vs (mapV vs)
 | [] => .nil
 | v :: vs => .cons (Rep.ofV1 v) (RepL.mapV vs)
theorem Rep.ofV {w : World} {X : Nat → Prop} {ρ : Nat → Option Nat} (v : Value) : Rep w X ρ v (ofV v) := by
 cases v <;> try (first | exact .i _ _ | exact .b _ | exact .v _ rfl)
 . rename_i cs
   have := RepL.agg (RepL.mapV (w := w) (X := X) (ρ := ρ) cs.toList)
   simpa [Eng.ofV] using this
 . rename_i cs
   obtain ⟨l⟩ := cs
   cases l with
   | nil => exact Rep.undef
   | cons a l => exact .any _
theorem Rep.oneV {w : World} {X : Nat → Prop} {ρ : Nat → Option Nat} {v : Value} {x : AVal} (h : Rep w X ρ v x) (hx : x.one = true) : oneV v = true := by
 cases h <;> simp [AVal.one] at hx <;> first | rfl | assumption
theorem Rep.cells {w : World} {X : Nat → Prop} {ρ : Nat → Option Nat} {v : Value} {x : AVal} {cs : List AVal} (h : Rep w X ρ v x) (hc : x.cells = some cs) : RepL w X ρ v.cells.toList cs := by
 cases h with
 | agg vs cs' hl h => simp [AVal.cells] at hc; subst hc; simp only [Value.cells, List.toList_toArray]; exact RepL.mk' hl h
 | v x h =>
   simp [AVal.cells] at hc; subst hc
   cases v <;> first | (simp [Eng.oneV] at h; done) | exact .cons (.v _ rfl) .nil
 | any x => simp [AVal.cells] at hc
 | i k n => simp [AVal.cells] at hc; subst hc; exact .cons (.i k n) .nil
 | s k n => simp [AVal.cells] at hc; subst hc; exact .cons (.s k n) .nil
 | b t => simp [AVal.cells] at hc; subst hc; exact .cons (.b t) .nil
 | sb t => simp [AVal.cells] at hc; subst hc; exact .cons (.sb t) .nil
 | tup vs cs' hl h => simp [AVal.cells] at hc; subst hc; exact .cons (.tup vs cs' hl h) .nil
 | lst m blk off n cap vs cs' hX hb hr hn hl h => simp [AVal.cells] at hc; subst hc; exact .cons (.lst m blk off n cap vs cs' hX hb hr hn hl h) .nil
 | lst0 m a cap => simp [AVal.cells] at hc; subst hc; exact .cons (.lst0 m a cap) .nil
 | ref blk base off vs cs' hX hb hr hl h => simp [AVal.cells] at hc; subst hc; exact .cons (.ref blk base off vs cs' hX hb hr hl h) .nil
 | own id off blk h => simp [AVal.cells] at hc; subst hc; exact .cons (.own id off blk h) .nil
 | el id off blk h => simp [AVal.cells] at hc; subst hc; exact .cons (.el id off blk h) .nil
 | osl m id off n sz blk cap h hn ht => simp [AVal.cells] at hc; subst hc; exact .cons (.osl m id off n sz blk cap h hn ht) .nil
 | osl0 m id off sz a => simp [AVal.cells] at hc; subst hc; exact .cons (.osl0 m id off sz a) .nil
 | cap0 a => simp [AVal.cells] at hc; subst hc; exact .cons (.cap0 a) .nil
 | ifc t v x h => simp [AVal.cells] at hc; subst hc; exact .cons (.ifc t v x h) .nil
 | fn f vs us cs' ds hl h hl' h' => simp [AVal.cells] at hc; subst hc; exact .cons (.fn f vs us cs' ds hl h hl' h') .nil
theorem Rel.ev {P : Program} {B : Nat} {Hi : Hist} {X : Nat → Prop} {ρ : Nat → Option Nat} {s : St} {a : Act} {w : World} (h : Rel P B Hi X ρ s a w) (x : Operand) :
   Rep w (XX X ρ s.heap) ρ (a.eval x) (ev s x) := by
 cases x with
 | tmp t =>
   simp only [Act.eval, Eng.ev]
   rcases Nat.lt_or_ge t a.tmps.size with ht | ht
   . have h1 : a.tmps[t]? = some a.tmps[t] := Array.getElem?_eq_getElem ht
     have h2 : lget s.tmps t = some (s.tmps[t]'(by rw [← h.size]; exact ht)) := by rw [lget_eq]; exact List.getElem?_eq_getElem _
     rw [h2]
     simp only [Array.getD_eq_getD_getElem?, h1, Option.getD_some]
     exact h.tmps t _ _ h1 h2
   . have h1 : a.tmps[t]? = none := Array.getElem?_eq_none ht
     have h2 : lget s.tmps t = none := by rw [lget_eq]; exact List.getElem?_eq_none (by rw [← h.size]; exact ht)
     rw [h2]
     simp only [Array.getD_eq_getD_getElem?, h1, Option.getD_none]
     exact Rep.undef
 | const v => exact Rep.ofV v
 | global g => exact .v _ rfl
 | func f => exact .fn (.func f) [] [] [] [] rfl (fun j v x hv => by simp at hv) rfl (fun j v x hv => by simp at hv)
section
variable {w : World} {X : Nat → Prop}
theorem onlyIf_inv {c : Bool} {K : Unit → Prop} (h : onlyIf c K) : c = true ∧ K () := by
 cases c
 . exact h.elim
 . exact ⟨rfl, h⟩
theorem simL_len {f : AVal → AVal → Prop} : ∀ {xs ys : List AVal}, simL f xs ys → xs.length = ys.length
 | [], [], _ => rfl
 | [x], [y], _ => rfl
 | x :: x' :: xs, y :: y' :: ys, h => by
   have := simL_len (xs := x' :: xs) (ys := y' :: ys) h.2
   simpa using this
 | [], _ :: _, h => by simp [simL] at h
 | _ :: _, [], h => by simp [simL] at h
 | [_], _ :: _ :: _, h => by simp [simL] at h
 | _ :: _ :: _, [_], h => by simp [simL] at h
theorem simL_at {f : AVal → AVal → Prop} : ∀ {xs ys : List AVal}, simL f xs ys → ∀ (j : Nat) (x y : AVal), xs[j]? = some x → ys[j]? = some y → f x y
 | [], [], _, j, x, y, hx, _ => by simp at hx
 | [a], [b], h, j, x, y, hx, hy => by
   cases j with
   | zero => simp at hx hy; subst hx; subst hy; exact h
   | succ j => simp at hx
 | a :: a' :: xs, b :: b' :: ys, h, j, x, y, hx, hy => by
   cases j with
   | zero => simp at hx hy; subst hx; subst hy; exact h.1
   | succ j => exact simL_at (xs := a' :: xs) (ys := b' :: ys) h.2 j x y (by simpa using hx) (by simpa using hy)
 | [], _ :: _, h, _, _, _, _, _ => by simp [simL] at h
 | _ :: _, [], h, _, _, _, _, _ => by simp [simL] at h
 | [_], _ :: _ :: _, h, _, _, _, _, _ => by simp [simL] at h
 | _ :: _ :: _, [_], h, _, _, _, _, _ => by simp [simL] at h
theorem rep_simL {d : Nat} {ρ : Nat → Option Nat} (ih : ∀ {x y : AVal} {v : Value}, simD d x y → Rep w X ρ v x → Rep w X ρ v y) {vs : List Value} {cs ds : List AVal} (h : simL (simD d) cs ds) (hr : RepL w X ρ vs cs) : RepL w X ρ vs ds := by
 refine RepL.mk' (hr.length.trans (simL_len h)) fun j v y hv hy => ?_
 have hl := simL_len h
 have : j < cs.length := by
   rw [hl]
   exact (List.getElem?_eq_some_iff.1 hy).1
 exact ih (simL_at h j _ y (List.getElem?_eq_getElem this) hy) (hr.at j v _ hv (List.getElem?_eq_getElem this))
theorem rep_sim : ∀ (d : Nat) {ρ : Nat → Option Nat} {x y : AVal} {v : Value}, simD d x y → Rep w X ρ v x → Rep w X ρ v y := by
 intro d
 induction d with
 | zero => intro ρ x y v h; exact h.elim
 | succ d ih =>
   intro ρ x y v h hr
   unfold simD at h
   split at h
   . obtain ⟨h1, rfl⟩ := onlyIf_inv h; obtain rfl := of_decide_eq_true h1; rw [hr.i_inv]; exact .i _ _
   . obtain ⟨h1, rfl⟩ := onlyIf_inv h; obtain rfl := of_decide_eq_true h1; rw [hr.i_inv]; exact .s _ _
   . obtain ⟨h1, rfl⟩ := onlyIf_inv h; obtain rfl := of_decide_eq_true h1; rw [hr.s_inv]; exact .i _ _
   . obtain ⟨h1, rfl⟩ := onlyIf_inv h; obtain rfl := of_decide_eq_true h1; rw [hr.s_inv]; exact .s _ _
   . subst h; rw [hr.b_inv]; exact .b _
   . subst h; rw [hr.b_inv]; exact .sb _
   . subst h; rw [hr.sb_inv]; exact .b _
   . subst h; rw [hr.sb_inv]; exact .sb _
   . rw [hr.v_inv]; exact .lst0 _ _ _
   . subst h; exact hr
   . obtain ⟨vs, rfl, hl⟩ := hr.agg_inv
     exact (rep_simL (ρ := ρ) ih h hl).agg
   . obtain ⟨vs, rfl, hl⟩ := hr.tup_inv
     exact (rep_simL (ρ := ρ) ih h hl).tup
   . obtain ⟨rfl, rfl⟩ := h; exact hr
   . obtain ⟨rfl, h⟩ := h
     cases hr with
     | lst m blk off n cap vs _ hX hb hra hn hl hh =>
       have hr2 := rep_simL (ρ := noρ) ih h (RepL.mk' hl hh)
       exact .lst _ blk off _ cap vs _ hX hb hra hn hr2.length hr2.at
     | lst0 m a cap =>
       have := simL_len h
       cases hd : ‹List AVal› with
       | nil => exact .lst0 _ _ _
       | cons => simp_all
   . obtain ⟨rfl, h⟩ := h
     cases hr with
     | ref blk base off vs _ hX hb hra hl hh =>
       have hr2 := rep_simL (ρ := noρ) ih h (RepL.mk' hl hh)
       exact .ref blk base _ vs _ hX hb hra hr2.length hr2.at
   . obtain ⟨rfl, rfl⟩ := h; exact hr
   . obtain ⟨rfl, rfl⟩ := h; exact hr
   . obtain ⟨rfl, rfl, rfl, rfl⟩ := h
     cases hr with
     | osl m id off n sz blk cap h hn ht => exact .osl _ _ _ _ _ blk cap h hn ht
     | osl0 m id off sz a => exact .osl0 _ _ _ _ _
   . cases hr
   . exact h.elim
   . exact hr
   . exact .any _
   . obtain ⟨rfl, h⟩ := h
     obtain ⟨u, rfl, hu⟩ := hr.ifc_inv
     exact .ifc _ _ _ (ih h hu)
   . obtain ⟨rfl, h1, h2⟩ := h
     obtain ⟨vs, us, rfl, ha, hc⟩ := hr.fn_inv
     have r1 := rep_simL (ρ := ρ) ih h1 ha
     have r2 := rep_simL (ρ := ρ) ih h2 hc
     exact .fn _ vs us _ _ r1.length r1.at r2.length r2.at
   . exact h.elim
theorem Rep.sim {ρ : Nat → Option Nat} {x y : AVal} {v : Value} (h : Sim x y) (hr : Rep w X ρ v x) : Rep w X ρ v y := rep_sim 12 h hr
theorem RepL.sim {ρ : Nat → Option Nat} {xs ys : List AVal} {vs : List Value} (h : SimL xs ys) (hr : RepL w X ρ vs xs) : RepL w X ρ vs ys := rep_simL (ρ := ρ) (rep_sim 12) h hr
end
theorem simH_len : ∀ {h h' : List Blk}, SimH h h' → h.length = h'.length
 | [], [], _ => rfl
 | [x], [y], _ => rfl
 | x :: x' :: xs, y :: y' :: ys, h => by
   have := simH_len (h := x' :: xs) (h' := y' :: ys) h.2
   simpa using this
 | [], _ :: _, h => by simp [SimH] at h
 | _ :: _, [], h => by simp [SimH] at h
 | [_], _ :: _ :: _, h => by simp [SimH] at h
 | _ :: _ :: _, [_], h => by simp [SimH] at h
theorem simB_def : simB default default := rfl
theorem simH_at : ∀ {h h' : List Blk}, SimH h h' → ∀ i, simB (hget h i) (hget h' i)
 | [], [], _, _ => simB_def
 | [x], [y], h, i => by cases i with
   | zero => exact h
   | succ i => exact simB_def
 | x :: x' :: xs, y :: y' :: ys, h, i => by cases i with
   | zero => exact h.1
   | succ i => exact simH_at (h := x' :: xs) (h' := y' :: ys) h.2 i
 | [], _ :: _, h, _ => by simp [SimH] at h
 | _ :: _, [], h, _ => by simp [SimH] at h
 | [_], _ :: _ :: _, h, _ => by simp [SimH] at h
 | _ :: _ :: _, [_], h, _ => by simp [SimH] at h
theorem simB_marks {b b' : Blk} (h : simB b b') : b.live = b'.live ∧ b.wr = b'.wr := by
 unfold simB onlyIf at h
 split at h
 . rename_i h1; simpa using h1
 . exact h.elim
theorem simB_cells {b b' : Blk} (h : simB b b') (hl : b.live = true) : SimL b.cells b'.cells := by
 unfold simB onlyIf at h
 split at h
 . rw [hl] at h; exact h
 . exact h.elim
theorem simB_dead {b b' : Blk} (h : simB b b') (hl : b.live = false) : b = b' := by
 unfold simB onlyIf at h
 split at h
 . rw [hl] at h; exact h
 . exact h.elim
theorem simH_XX {X : Nat → Prop} {ρ : Nat → Option Nat} {h h' : List Blk} (hs : SimH h h') (b : Nat) : XX X ρ h b ↔ XX X ρ h' b := by
 unfold XX
 constructor
 . rintro (hb | ⟨i, h1, h2, h3⟩)
   . exact .inl hb
   . obtain ⟨e1, e2⟩ := simB_marks (simH_at hs i)
     exact .inr ⟨i, e1 ▸ h1, e2 ▸ h2, h3⟩
 . rintro (hb | ⟨i, h1, h2, h3⟩)
   . exact .inl hb
   . obtain ⟨e1, e2⟩ := simB_marks (simH_at hs i)
     exact .inr ⟨i, e1 ▸ h1, e2 ▸ h2, h3⟩
theorem HRel.sim {X : Nat → Prop} {ρ : Nat → Option Nat} {h h' : List Blk} {w : World} (hs : SimH h h') (hh : HRel X ρ h w) : HRel X ρ h' w := by
 have mk := fun i => simB_marks (simH_at hs i)
 refine ⟨fun i j b h1 h2 => hh.inj i j b (by rw [(mk i).1]; exact h1) (by rw [(mk j).1]; exact h2), fun i h1 => ?_, fun i hi => hh.dom i (by rw [simH_len hs]; exact hi), fun i d hm => hh.res i d (by rw [simB_dead (simH_at hs i) (by rw [(mk i).1, hm]; rfl), hm])⟩
 have hl : (hget h i).live = true := by rw [(mk i).1]; exact h1
 have hc := simB_cells (simH_at hs i) hl
 rcases hh.blk i hl with ⟨b, vs, e1, e2, e3, e4, e5, e6⟩ | ⟨e1, e2⟩
 . exact .inl ⟨b, vs, e1, e2, e3, e4, e5, (e6.sim hc).weaken fun b hb => (simH_XX hs b).2 hb⟩
 . refine .inr ⟨e1, ?_⟩
   have := simL_len hc
   rw [e2] at this
   exact List.eq_nil_of_length_eq_zero this.symm
theorem isPad_eq {b : Blk} (h : isPad b = true) : b = ⟨false, true, []⟩ := by
 obtain ⟨l, r, c⟩ := b
 unfold isPad at h
 cases l <;> cases r <;> cases c <;> simp at h ⊢
theorem onlyIf_elim {c : Bool} {K : Unit → Prop} (h : onlyIf c K) : c = true ∧ K () := by
 cases c
 . exact h.elim
 . exact ⟨rfl, h⟩
theorem simK_len : ∀ {h h' : List Blk}, SimK h h' → h.length ≤ h'.length
 | [], _, _ => Nat.zero_le _
 | [x], [y], _ => Nat.le_refl _
 | [x], y :: y' :: ys, h => by simp
 | x :: x' :: xs, y :: ys, h => by
   have := simK_len (h := x' :: xs) (h' := ys) (by cases ys <;> exact h.2)
   simpa using this
 | _ :: _, [], h => by simp [SimK] at h
theorem simK_pad : ∀ {h' : List Blk}, SimK [] h' → ∀ i, (hget h' i).live = false ∧ ∀ d, hget h' i ≠ mark d
 | [], _, i => ⟨rfl, fun d h => by have : (hget [] i).cells = (mark d).cells := by rw [h]
                                   cases this⟩
 | y :: ys, h, i => by
   have h := onlyIf_elim (show onlyIf (isPad y) fun _ => SimK [] ys from h)
   have e := isPad_eq h.1
   cases i with
   | zero =>
     have hy : hget (y :: ys) 0 = y := rfl
     rw [hy, e]
     exact ⟨rfl, fun d h => by cases h⟩
   | succ i => exact simK_pad (h' := ys) h.2 i
theorem simK_at : ∀ {h h' : List Blk}, SimK h h' → ∀ i, simK (hget h i) (hget h' i) ∨ (h.length ≤ i ∧ (hget h' i).live = false ∧ ∀ d, hget h' i ≠ mark d)
 | [], h', h, i => .inr ⟨Nat.zero_le _, simK_pad h i⟩
 | [x], [y], h, i => by cases i with
   | zero => exact .inl h
   | succ i => exact .inr ⟨by simp, simK_pad (h' := []) trivial i⟩
 | [x], y :: y' :: ys, h, i => by cases i with
   | zero => exact .inl h.1
   | succ i => exact .inr ⟨by simp, simK_pad (h' := y' :: ys) h.2 i⟩
 | x :: x' :: xs, y :: ys, h, i => by
   have h0 : simK x y ∧ SimK (x' :: xs) ys := by cases ys <;> exact h
   cases i with
   | zero => exact .inl h0.1
   | succ i =>
     rcases simK_at (h := x' :: xs) (h' := ys) h0.2 i with h1 | ⟨h1, h2⟩
     . exact .inl h1
     . exact .inr ⟨by simpa using h1, h2⟩
 | _ :: _, [], h, _ => by simp [SimK] at h
theorem simK_live {h h' : List Blk} (hs : SimK h h') (i : Nat) (hl : (hget h' i).live = true) : (hget h i).live = true ∧ (hget h i).wr = (hget h' i).wr ∧ SimL (hget h i).cells (hget h' i).cells := by
 rcases simK_at hs i with h1 | ⟨_, h1, _⟩
 . unfold simK at h1
   rw [hl] at h1
   obtain ⟨h2, h3⟩ := onlyIf_elim h1
   simp only [Bool.and_eq_true, beq_iff_eq] at h2
   exact ⟨h2.1, h2.2, h3⟩
 . rw [h1] at hl; cases hl
theorem simK_dead {h h' : List Blk} (hs : SimK h h') (i : Nat) (hi : i < h.length) (hl : (hget h i).live = false) : hget h' i = hget h i := by
 rcases simK_at hs i with h1 | ⟨h1, _⟩
 . unfold simK at h1
   cases hl' : (hget h' i).live with
   | true =>
     rw [hl', hl] at h1
     have h2 := (onlyIf_elim h1).1
     rw [Bool.false_and] at h2
     cases h2
   | false =>
     rw [hl', hl] at h1
     exact h1.symm
 . omega
theorem simK_mark {h h' : List Blk} (hs : SimK h h') (i d : Nat) (hm : hget h' i = mark d) : hget h i = mark d := by
 rcases simK_at hs i with h1 | ⟨_, _, h1⟩
 . unfold simK at h1
   rw [hm] at h1
   cases hl : (hget h i).live with
   | true =>
     rw [hl] at h1
     have h2 := (onlyIf_elim (show onlyIf (isPad (mark d)) fun _ => True from h1)).1
     cases h2
   | false =>
     rw [hl] at h1
     exact h1
 . exact (h1 d hm).elim
theorem simK_XX {X : Nat → Prop} {ρ : Nat → Option Nat} {h h' : List Blk} (hs : SimK h h') (b : Nat) : XX X ρ h' b → XX X ρ h b := by
 rintro (hb | ⟨i, h1, h2, h3⟩)
 . exact .inl hb
 . obtain ⟨e1, e2, _⟩ := simK_live hs i h1
   exact .inr ⟨i, e1, e2.trans h2, h3⟩
theorem HRel.simK {X : Nat → Prop} {ρ : Nat → Option Nat} {h h' : List Blk} {w : World} (hs : SimK h h') (hh : HRel X ρ h w) : HRel X ρ h' w := by
 refine ⟨fun i j b h1 h2 => hh.inj i j b (simK_live hs i h1).1 (simK_live hs j h2).1, fun i h1 => ?_, fun i hi => hh.dom i (Nat.le_trans (simK_len hs) hi), fun i d hm => hh.res i d (simK_mark hs i d hm)⟩
 obtain ⟨hl, _, hc⟩ := simK_live hs i h1
 rcases hh.blk i hl with ⟨b, vs, e1, e2, e3, e4, e5, e6⟩ | ⟨e1, e2⟩
 . exact .inl ⟨b, vs, e1, e2, e3, e4, e5, (e6.sim hc).weaken fun b hb => simK_XX hs b hb⟩
 . refine .inr ⟨e1, ?_⟩
   have := simL_len hc
   rw [e2] at this
   exact List.eq_nil_of_length_eq_zero this.symm
end Eng
set_option linter.unusedSimpArgs false
set_option linter.unusedVariables false
namespace Eng
open Go
structure TyOk (P : Program) (T : Ty) : Prop where
 int : ∀ t k, T.und t = .int k → P.underlying t = some (.int k)
 bool : ∀ t, T.und t = .bool → P.underlying t = some .bool
 str : ∀ t, T.und t = .str → P.underlying t = some .string
 ptr : ∀ t e, T.und t = .ptr e → P.underlying t = some (.pointer e)
 slice : ∀ t e, T.und t = .slice e → P.underlying t = some (.slice e)
 arr : ∀ t n e, T.und t = .arr n e → P.underlying t = some (.array n e)
 struct : ∀ t fs, T.und t = .struct fs → ∃ fields : Array Field, P.underlying t = some (.struct fields) ∧ fields.toList.map (fun f => (f.offset, f.type, f.name)) = fs ∧ P.stoodInHeld t = false ∧ ∀ f ∈ fields.toList, (P.info? f.type).isSome = true
 iface : ∀ t ms, T.und t = .iface ms → P.underlying t = some (.interface ms.toArray)
 info : ∀ t, T.und t ≠ .other → ∃ i, P.info? t = some i ∧ i.size = T.size t ∧ i.bytes = T.bytes t ∧ ∃ z, i.zero = some z ∧ z.cells.toList = T.zero t ∧ (isAgg (T.und t) = true → z = .agg (T.zero t).toArray) ∧ (isAgg (T.und t) = false → oneV z = true)
 other : ∀ t, T.und t = .other → T.size t = 0
 zlen : ∀ t, (T.zero t).length = T.size t
 eqok : ∀ t, T.eqok t = true → P.eqGuardType P.depth t = false
 meth : ∀ t name f, T.meth t name = some f → ∀ v w, (method (P.types.size + Made.depth) t v name).run P w = .ok (f, v) w ∧ (nilAhead (P.types.size + Made.depth) t v name).run P w = .ok (some false) w
section
variable {P : Program} {T : Ty} {w : World}
theorem TyOk.size (hT : TyOk P T) {t : TypeId} (h : T.und t ≠ .other) : (Go.sizeOf t).run P w = .ok (T.size t) w := by
 obtain ⟨i, hi, hs, _⟩ := hT.info t h
 simp [Go.sizeOf, typeInfo, hi, hs]
theorem TyOk.cellsOf (hT : TyOk P T) {t : TypeId} (h : T.und t ≠ .other) : P.cellsOf t = T.size t := by
 obtain ⟨i, hi, hs, _⟩ := hT.info t h
 simp [Program.cellsOf, hi, hs]
theorem TyOk.und (hT : TyOk P T) {t : TypeId} (h : T.und t ≠ .other) : ∃ d, P.underlying t = some d ∧ ((match d with | .struct _ => true | .array _ _ => true | _ => false) = isAgg (T.und t)) := by
 cases hu : T.und t with
 | int k => exact ⟨_, hT.int t k hu, rfl⟩
 | bool => exact ⟨_, hT.bool t hu, rfl⟩
 | str => exact ⟨_, hT.str t hu, rfl⟩
 | ptr e => exact ⟨_, hT.ptr t e hu, rfl⟩
 | slice e => exact ⟨_, hT.slice t e hu, rfl⟩
 | arr n e => exact ⟨_, hT.arr t n e hu, rfl⟩
 | struct fs => obtain ⟨f, hf, _⟩ := hT.struct t fs hu; exact ⟨_, hf, rfl⟩
 | iface ms => exact ⟨_, hT.iface t ms hu, rfl⟩
 | other => exact absurd hu h
theorem TyOk.isAgg (hT : TyOk P T) {t : TypeId} (h : T.und t ≠ .other) : (Go.isAgg t).run P w = .ok (Eng.isAgg (T.und t)) w := by
 obtain ⟨d, hd, he⟩ := hT.und h
 rw [← he]
 unfold Go.isAgg
 rw [Sem.run_bind, run_underlying hd w]
 cases d <;> simp
theorem TyOk.zero (hT : TyOk P T) {t : TypeId} (h : T.und t ≠ .other) : ∃ z, (zeroValue t).run P w = .ok z w ∧ z.cells.toList = T.zero t ∧ (Eng.isAgg (T.und t) = true → z = .agg (T.zero t).toArray) ∧ (Eng.isAgg (T.und t) = false → oneV z = true) := by
 obtain ⟨i, hi, _, _, z, hz, hc⟩ := hT.info t h
 exact ⟨z, by simp [zeroValue, typeInfo, hi, hz], hc⟩
variable {X : Nat → Prop} {ρ : Nat → Option Nat}
theorem part_cases {t : TypeId} {cs : List AVal} {off : Nat} {y : AVal} (h : part T t cs off = some y) :
   T.und t ≠ .other ∧ ((isAgg (T.und t) = true ∧ ∃ r, lsub cs off (T.size t) = some r ∧ y = .agg r) ∨ (isAgg (T.und t) = false ∧ lget cs off = some y)) := by
 unfold part at h
 cases hu : T.und t <;> rw [hu] at h <;> simp at h <;> simp [isAgg] <;> first
   | exact h
   | (obtain ⟨r, hr, rfl⟩ := h; exact ⟨r, hr, rfl⟩)
theorem part_run (hT : TyOk P T) {t : TypeId} {vs : List Value} {cs : List AVal} {off : Nat} {y : AVal} (hr : RepL w X ρ vs cs) (h : part T t cs off = some y) :
   ∃ v, (Go.part t vs.toArray off).run P w = .ok v w ∧ Rep w X ρ v y := by
 obtain ⟨hu, ⟨ha, r, hr', rfl⟩ | ⟨ha, hg⟩⟩ := part_cases h
 . obtain ⟨hlen, hrep⟩ := hr.sub hr'
   refine ⟨.agg (vs.toArray.extract off (off + T.size t)), by simp [Go.part, hT.isAgg hu, ha, hT.size hu], ?_⟩
   have : vs.toArray.extract off (off + T.size t) = ((vs.drop off).take (T.size t)).toArray := by
     simp [List.extract_toArray, List.extract, List.take_drop]
   rw [this]
   exact hrep.agg
 . obtain ⟨v, hv, hrep⟩ := hr.get hg
   exact ⟨v, by simp [Go.part, hT.isAgg hu, ha, hv], hrep⟩
theorem leaves_run (hT : TyOk P T) : ∀ (d : Nat) (t : TypeId) (x y : AVal) (l : List (AVal × AVal)) (u v : Value), leaves T d t x y = some l → Rep w X ρ u x → Rep w X ρ v y → ∀ d', d ≤ d' →
   (Op.equalIn d' t u v).run P w = .ok (l.all leafEq) w := by
 intro d
 induction d with
 | zero => intro t x y l u v h; simp [leaves] at h
 | succ d ih =>
   intro t x y l u v h hu hv d' hd
   obtain ⟨d', rfl⟩ : ∃ m, d' = m + 1 := ⟨d' - 1, by omega⟩
   unfold leaves at h
   cases ht : T.und t with
   | int k =>
     rw [ht] at h
     cases hu <;> cases hv <;> simp at h <;> (obtain ⟨rfl, rfl⟩ := h; rw [run_equalIn_int (h := hT.int t k ht)]; simp [leafEq])
   | bool =>
     rw [ht] at h
     cases hu <;> cases hv <;> simp at h <;> (subst h; rw [run_equalIn_bool (h := hT.bool t ht)]; simp [leafEq])
   | str =>
     rw [ht] at h
     cases hu <;> cases hv <;> simp only at h <;> try (cases h; done)
     cases u <;> cases v <;> simp at h
     subst h
     rw [run_equalIn_string (h := hT.str t ht)]
     simp only [List.all_cons, List.all_nil, Bool.and_true, leafEq]
     rw [beq_toListBytes]
   | arr n e =>
     rw [ht] at h
     cases x <;> try (simp at h; done)
     cases y <;> try (simp at h; done)
     rename_i xs ys
     obtain ⟨us, rfl, hus⟩ := hu.agg_inv
     obtain ⟨vs, rfl, hvs⟩ := hv.agg_inv
     simp only at h
     have he : T.und e ≠ .other := by
       intro hq; rw [hq] at h; simp at h
     have h' : leavesA (leaves T d e) (fun i => part T e xs (i * T.size e)) (fun i => part T e ys (i * T.size e)) n 0 = some l := by
       revert h; cases hq : T.und e <;> first | exact fun h => h | exact absurd hq he
     clear h
     have h := h'
     clear h'
     obtain ⟨i, hi, hs, _⟩ := hT.info e he
     rw [run_equalIn_array w d' us.toArray vs.toArray (hT.arr t _ e ht) hi, List.range_eq_range', hT.cellsOf he]
     clear ht
     revert h
     have key : ∀ (m j : Nat) (l : List (AVal × AVal)), leavesA (leaves T d e) (fun i => part T e xs (i * T.size e)) (fun i => part T e ys (i * T.size e)) m j = some l →
         (Op.eqItems d' e (T.size e) us.toArray vs.toArray (List.range' j m)).run P w = .ok (l.all leafEq) w := by
       intro m
       induction m with
       | zero => intro j l h; simp [leavesA] at h; subst h; simp [Op.eqItems]
       | succ m ihm =>
         intro j l h
         simp only [leavesA] at h
         split at h <;> try (cases h; done)
         rename_i a c ha hc
         split at h <;> try (cases h; done)
         rename_i l1 l2 h1 h2
         cases h
         obtain ⟨v1, hr1, hp1⟩ := part_run (P := P) (w := w) hT hus ha
         obtain ⟨v2, hr2, hp2⟩ := part_run (P := P) (w := w) hT hvs hc
         have h3 := ih e a c l1 v1 v2 h1 hp1 hp2 d' (by omega)
         have h4 := ihm (j + 1) l2 h2
         simp only [List.range'_succ, Op.eqItems, Sem.run_bind, hr1, hr2, h3, Result.andThen_ok]
         cases hl : l1.all leafEq
         . simp [hl]
         . simp only [Bool.not_true, Bool.false_eq_true, if_false, h4, List.all_append, hl, Bool.true_and]
     exact key n 0 l
   | struct fs =>
     rw [ht] at h
     cases x <;> try (simp at h; done)
     cases y <;> try (simp at h; done)
     rename_i xs ys
     obtain ⟨us, rfl, hus⟩ := hu.agg_inv
     obtain ⟨vs, rfl, hvs⟩ := hv.agg_inv
     simp only at h
     obtain ⟨fields, hf, hfs, hst, _⟩ := hT.struct t fs ht
     have hfo : P.fieldsOf t = fields := by simp [Program.fieldsOf, hf]
     rw [run_equalIn_struct w d' t us.toArray vs.toArray (by rw [hfo]; exact hf) hst, hfo]
     clear ht hf hfo
     revert h
     rw [← hfs]
     generalize fields.toList = fl
     have key : ∀ (fl : List Field) (l : List (AVal × AVal)), leavesS (leaves T d) (part T · xs ·) (part T · ys ·) (fl.map (fun f => (f.offset, f.type, f.name))) = some l →
         (Op.eqFields d' us.toArray vs.toArray fl).run P w = .ok (l.all leafEq) w := by
       intro fl
       induction fl with
       | nil => intro l h; simp [leavesS] at h; subst h; simp [Op.eqFields]
       | cons f fl ihf =>
         intro l h
         simp only [List.map_cons, leavesS] at h
         split at h
         . rename_i hn
           simp only [beq_iff_eq] at hn
           simp only [Op.eqFields, hn, ne_eq, not_true_eq_false, if_false]
           exact ihf l h
         . rename_i hn
           simp only [beq_eq_false_iff_ne, ne_eq] at hn
           split at h <;> try (cases h; done)
           rename_i a c ha hc
           split at h <;> try (cases h; done)
           rename_i l1 l2 h1 h2
           cases h
           obtain ⟨v1, hr1, hp1⟩ := part_run (P := P) (w := w) hT hus ha
           obtain ⟨v2, hr2, hp2⟩ := part_run (P := P) (w := w) hT hvs hc
           have h3 := ih _ a c l1 v1 v2 h1 hp1 hp2 d' (by omega)
           have h4 := ihf l2 h2
           simp only [Op.eqFields, hn, ne_eq, not_false_eq_true, if_true, Sem.run_bind, hr1, hr2, h3, Result.andThen_ok]
           cases hl : l1.all leafEq
           . simp [hl]
           . simp only [Bool.not_true, Bool.false_eq_true, if_false, h4, List.all_append, hl, Bool.true_and]
     exact key fl l
   | ptr e => rw [ht] at h; simp at h
   | slice e => rw [ht] at h; simp at h
   | iface e => rw [ht] at h; simp at h
   | other => rw [ht] at h; simp at h
end
end Eng
set_option linter.unusedSimpArgs false
set_option linter.unusedVariables false
namespace Eng
open Go
section
variable {P : Program} {T : Ty} {w : World} {X : Nat → Prop} {ρ : Nat → Option Nat}
theorem optK_inv {α : Type} {x : Option α} {K : α → Prop} (h : optK x K) : ∃ y, x = some y ∧ K y := by
 cases x
 . exact h.elim
 . exact ⟨_, rfl, h⟩
theorem run_int_bin (op : BinOp) (t : TypeId) (k k' : IntKind) (a c : Int) (h1 : isArith op = true) (h2 : rokb op c = true) (h3 : isShift op = true ∨ k = k') :
   (binOp op t (.int k a) (.int k' c)).run P w = .ok (.int k (rbin op k a c)) w := by
 cases op <;> simp [isArith] at h1 <;> simp [isShift] at h3 <;> (try subst h3) <;> simp [rokb] at h2 <;>
   simp [binOp, Op.intArith, Op.intDiv, Op.intBits, Op.shift, rbin, h2] <;> first
   | done
   | (intro hneg; omega)
theorem run_int_cmp (op : BinOp) (t : TypeId) (k : IntKind) (a c : Int) (h1 : isCmp op = true) :
   (binOp op t (.int k a) (.int k c)).run P w = .ok (.bool (rcmp op a c)) w := by
 cases op <;> simp [isCmp] at h1 <;> simp [binOp, Op.intCmp, rcmp]
theorem eqGuard_int (op : BinOp) (t : TypeId) (x y : Operand) (k : IntKind) (n : Int) (v : Value) : eqGuard op t x y (.int k n) v = pure () := by cases op <;> rfl
theorem allB_eq (f : AVal × AVal → Bool) : ∀ l, allB f l = l.all f
 | [] => rfl
 | x :: l => by simp [allB, allB_eq f l]
theorem eqOf_rep (l : List (AVal × AVal)) : Rep w X ρ (.bool (l.all leafEq)) (eqOf Ar.real l) := by
 unfold eqOf
 split
 . rw [allB_eq]; exact .b _
 . exact .sb _
theorem neOf_rep (l : List (AVal × AVal)) : Rep w X ρ (.bool (!(l.all leafEq))) (neOf Ar.real l) := by
 unfold neOf
 split
 . rw [allB_eq]; exact .b _
 . exact .sb _
theorem run_eql_any (op : BinOp) (t : TypeId) (u v : Value) (b : Bool) (hop : op = .eql ∨ op = .neq) (hne : ∀ k n k' n', ¬ (u = .int k n ∧ v = .int k' n'))
   (hlit : (∃ a c, u = .bool a ∧ v = .bool c) ∨ (∃ a c, u = .string a ∧ v = .string c ∧ b = (a.toList == c.toList)) ∨ (∃ a c, u = .agg a ∧ v = .agg c) ∨ (∃ a c, u = .pointer a ∧ v = .pointer c) ∨ (u = .nilIface ∨ v = .nilIface) ∨ (∃ a n m, u = .slice a n m) ∨ u = .nilFunc)
   (h : (Op.equal t u v).run P w = .ok b w) : (binOp op t u v).run P w = .ok (.bool (if op = .eql then b else !b)) w := by
 rcases hop with rfl | rfl <;> rcases hlit with ⟨a, c, rfl, rfl⟩ | ⟨a, c, rfl, rfl, rfl⟩ | ⟨a, c, rfl, rfl⟩ | ⟨a, c, rfl, rfl⟩ | h' | ⟨a, n, m, rfl⟩ | rfl <;>
   first
   | (simp [binOp, h]; done)
   | (simp [binOp, Op.stringOp, beq_toListBytes]; done)
   | (cases v <;> simp [binOp, h]; done)
   | (rcases h' with rfl | rfl
      . cases v <;> simp [binOp, h]
      . cases u <;> simp [binOp, h])
   | skip
theorem leaves_shape {d : Nat} {t : TypeId} {x y : AVal} {l : List (AVal × AVal)} {u v : Value} (h : leaves T d t x y = some l) (hu : Rep w X ρ u x) (hv : Rep w X ρ v y) :
   (∃ k n k' n', u = .int k n ∧ v = .int k' n' ∧ ((∃ k n, x = .i k n) ∨ (∃ k n, x = .s k n)) ∧ ((∃ k n, y = .i k n) ∨ (∃ k n, y = .s k n))) ∨ (∃ a c, u = .bool a ∧ v = .bool c) ∨ (∃ a c, u = .string a ∧ v = .string c ∧ l.all leafEq = (a.toList == c.toList)) ∨ (∃ a c, u = .agg a ∧ v = .agg c) := by
 cases d with
 | zero => simp [leaves] at h
 | succ d =>
   unfold leaves at h
   cases ht : T.und t <;> rw [ht] at h <;> simp only at h <;> try (cases h; done)
   case int k => cases hu <;> cases hv <;> simp at h <;> exact .inl ⟨_, _, _, _, rfl, rfl, by simp, by simp⟩
   case bool => cases hu <;> cases hv <;> simp at h <;> exact .inr (.inl ⟨_, _, rfl, rfl⟩)
   case str =>
     split at h <;> try (cases h; done)
     rename_i a c
     cases hu; cases hv; cases h
     exact .inr (.inr (.inl ⟨a, c, rfl, rfl, by simp [leafEq, beq_toListBytes]⟩))
   case arr n e => cases hu <;> cases hv <;> simp at h <;> exact .inr (.inr (.inr ⟨_, _, rfl, rfl⟩))
   case struct fs => cases hu <;> cases hv <;> simp at h <;> exact .inr (.inr (.inr ⟨_, _, rfl, rfl⟩))
theorem nilEq_shape {x y : AVal} {r : Bool} {u v : Value} (hr : nilEq x y = some r) (hu : Rep w X ρ u x) (hv : Rep w X ρ v y) :
   ∃ a c, u = .pointer a ∧ v = .pointer c ∧ ((a = none ∧ c = none ∧ r = true) ∨ (a = none ∧ ∃ d, c = some d ∧ r = false) ∨ (∃ d, a = some d ∧ c = none ∧ r = false)) := by
 unfold nilEq at hr
 split at hr <;> (try cases hr) <;> cases hu <;> cases hv
 . exact ⟨_, _, rfl, rfl, .inl ⟨rfl, rfl, rfl⟩⟩
 . exact ⟨_, _, rfl, rfl, .inr (.inl ⟨rfl, _, rfl, rfl⟩)⟩
 . exact ⟨_, _, rfl, rfl, .inr (.inr ⟨_, rfl, rfl, rfl⟩)⟩
 . exact ⟨_, _, rfl, rfl, .inr (.inl ⟨rfl, _, rfl, rfl⟩)⟩
 . exact ⟨_, _, rfl, rfl, .inr (.inr ⟨_, rfl, rfl, rfl⟩)⟩
theorem nilSl_shape {x y : AVal} {r : Bool} {u v : Value} (hr : nilSl x y = some r) (hu : Rep w X ρ u x) (hv : Rep w X ρ v y) :
   ∃ a n m c n' m', u = .slice a n m ∧ v = .slice c n' m' ∧ ((a = none ∧ c = none ∧ r = true) ∨ (a = none ∧ ∃ d, c = some d ∧ r = false) ∨ (∃ d, a = some d ∧ c = none ∧ r = false)) := by
 unfold nilSl at hr
 split at hr <;> (try cases hr) <;> cases hu <;> cases hv
 . exact ⟨_, _, _, _, _, _, rfl, rfl, .inl ⟨rfl, rfl, rfl⟩⟩
 . exact ⟨_, _, _, _, _, _, rfl, rfl, .inr (.inl ⟨rfl, _, rfl, rfl⟩)⟩
 . exact ⟨_, _, _, _, _, _, rfl, rfl, .inr (.inr ⟨_, rfl, rfl, rfl⟩)⟩
 . exact ⟨_, _, _, _, _, _, rfl, rfl, .inr (.inl ⟨rfl, _, rfl, rfl⟩)⟩
 . exact ⟨_, _, _, _, _, _, rfl, rfl, .inr (.inr ⟨_, rfl, rfl, rfl⟩)⟩
theorem run_eq_sl (d : Nat) {t e : TypeId} (hun : P.underlying t = some (.slice e)) {a c : Option Addr} {n m n' m' : Nat} {r : Bool}
   (h : (a = none ∧ c = none ∧ r = true) ∨ (a = none ∧ ∃ d, c = some d ∧ r = false) ∨ (∃ d, a = some d ∧ c = none ∧ r = false)) :
   (Op.equalIn (d + 1) t (.slice a n m) (.slice c n' m')).run P w = .ok r w := by
 rcases h with ⟨rfl, rfl, rfl⟩ | ⟨rfl, d, rfl, rfl⟩ | ⟨d, rfl, rfl, rfl⟩ <;> simp [Op.equalIn, run_underlying hun]
theorem run_eqGuard (hT : TyOk P T) (op : BinOp) (t : TypeId) (xo yo : Operand) (u v : Value) (hk : T.eqok t = true)
   (h : (∃ a c, u = .bool a ∧ v = .bool c) ∨ (∃ a c, u = .string a ∧ v = .string c) ∨ (∃ a c, u = .agg a ∧ v = .agg c)) : (eqGuard op t xo yo u v).run P w = .ok () w := by
 have hq := hT.eqok t hk
 rcases h with ⟨a, c, rfl, rfl⟩ | ⟨a, c, rfl, rfl⟩ | ⟨a, c, rfl, rfl⟩
 . cases op <;> rfl
 . cases op <;> rfl
 . cases op <;> first | rfl | simp [eqGuard, hq]
theorem run_eq_ptr (d : Nat) {t e : TypeId} (hun : P.underlying t = some (.pointer e)) {a c : Option Addr} {r : Bool}
   (h : (a = none ∧ c = none ∧ r = true) ∨ (a = none ∧ ∃ d, c = some d ∧ r = false) ∨ (∃ d, a = some d ∧ c = none ∧ r = false)) :
   (Op.equalIn (d + 1) t (.pointer a) (.pointer c)).run P w = .ok r w := by
 rcases h with ⟨rfl, rfl, rfl⟩ | ⟨rfl, d, rfl, rfl⟩ | ⟨d, rfl, rfl, rfl⟩ <;> simp [Op.equalIn, run_underlying hun]
theorem rokb_of_not {op : BinOp} (h : needsOk op = false) (c : Int) : rokb op c = true := by cases op <;> simp [needsOk] at h <;> rfl
theorem aarith_sound {op : BinOp} {t : TypeId} (ha : isArith op = true) (xo yo : Operand) {u v : Value} {x y : AVal} {K : AVal → Prop} (hu : Rep w X ρ u x) (hv : Rep w X ρ v y) (h : aarith Ar.real op x y K) :
   ∃ r z, (do eqGuard op t xo yo u v; binOp op t u v : Sem Value).run P w = .ok r w ∧ Rep w X ρ r z ∧ K z := by
 have key : ∀ k a k' c, u = .int k a → v = .int k' c → rokb op c = true → (isShift op || decide (k = k')) = true → (do eqGuard op t xo yo u v; binOp op t u v : Sem Value).run P w = .ok (.int k (rbin op k a c)) w := by
   rintro k a k' c rfl rfl h1 h2
   simp only [eqGuard_int, Sem.run_bind, Sem.run_pure, Result.andThen_ok]
   exact run_int_bin op t k k' a c ha h1 (by simpa using h2)
 unfold aarith at h
 split at h
 . cases hu; cases hv
   obtain ⟨h1, h2⟩ := onlyIf_inv h
   rw [Bool.and_eq_true] at h1
   exact ⟨_, _, key _ _ _ _ rfl rfl h1.1 h1.2, .i _ _, h2⟩
 . cases hu; cases hv
   obtain ⟨h1, h2⟩ := onlyIf_inv h
   rw [Bool.and_eq_true] at h1
   exact ⟨_, _, key _ _ _ _ rfl rfl h1.1 h1.2, .s _ _, h2⟩
 . cases hu; cases hv
   obtain ⟨h1, h2⟩ := onlyIf_inv h
   split at h2
   . cases h2 with
     | mk h3 h4 => exact ⟨_, _, key _ _ _ _ rfl rfl h3 h1, .s _ _, h4⟩
   . rename_i hn
     exact ⟨_, _, key _ _ _ _ rfl rfl (rokb_of_not hn _) h1, .s _ _, h2⟩
 . cases hu; cases hv
   obtain ⟨h1, h2⟩ := onlyIf_inv h
   split at h2
   . cases h2 with
     | mk h3 h4 => exact ⟨_, _, key _ _ _ _ rfl rfl h3 h1, .s _ _, h4⟩
   . rename_i hn
     exact ⟨_, _, key _ _ _ _ rfl rfl (rokb_of_not hn _) h1, .s _ _, h2⟩
 . exact h.elim
theorem acmp_sound {op : BinOp} {t : TypeId} (hc : isCmp op = true) (xo yo : Operand) {u v : Value} {x y : AVal} {K : AVal → Prop} (hu : Rep w X ρ u x) (hv : Rep w X ρ v y) (h : acmp Ar.real op x y K) :
   ∃ r z, (do eqGuard op t xo yo u v; binOp op t u v : Sem Value).run P w = .ok r w ∧ Rep w X ρ r z ∧ K z := by
 have key : ∀ k a k' c, u = .int k a → v = .int k' c → decide (k = k') = true → (do eqGuard op t xo yo u v; binOp op t u v : Sem Value).run P w = .ok (.bool (rcmp op a c)) w := by
   rintro k a k' c rfl rfl h1
   simp only [eqGuard_int, Sem.run_bind, Sem.run_pure, Result.andThen_ok]
   obtain rfl : k = k' := by simpa using h1
   exact run_int_cmp op t k a c hc
 unfold acmp at h
 split at h
 . cases hu; cases hv; obtain ⟨h1, h2⟩ := onlyIf_inv h; exact ⟨_, _, key _ _ _ _ rfl rfl h1, .b _, h2⟩
 . cases hu; cases hv; obtain ⟨h1, h2⟩ := onlyIf_inv h; exact ⟨_, _, key _ _ _ _ rfl rfl h1, .sb _, h2⟩
 . cases hu; cases hv; obtain ⟨h1, h2⟩ := onlyIf_inv h; exact ⟨_, _, key _ _ _ _ rfl rfl h1, .sb _, h2⟩
 . cases hu; cases hv; obtain ⟨h1, h2⟩ := onlyIf_inv h; exact ⟨_, _, key _ _ _ _ rfl rfl h1, .sb _, h2⟩
 . exact h.elim
theorem aeql_sound (hT : TyOk P T) {op : BinOp} {t : TypeId} (hop : op = .eql ∨ op = .neq) (xo yo : Operand) {u v : Value} {x y : AVal} {K : AVal → Prop} (hu : Rep w X ρ u x) (hv : Rep w X ρ v y)
   (hn : (isI x && isI y) = false) (h : aeql Ar.real T t x y fun f => K (f (decide (op = .neq)))) :
   ∃ r z, (do eqGuard op t xo yo u v; binOp op t u v : Sem Value).run P w = .ok r w ∧ Rep w X ρ r z ∧ K z := by
 unfold aeql at h
 split at h
 . rename_i hp
   obtain ⟨r, hr, hk⟩ := optK_inv h
   obtain ⟨e, he⟩ : ∃ e, T.und t = .ptr e := by cases hq : T.und t <;> simp [hq, isPtr] at hp; exact ⟨_, rfl⟩
   have hun := hT.ptr t e he
   obtain ⟨a, c, rfl, rfl, hac⟩ := nilEq_shape hr hu hv
   have hrun : (Op.equal t (.pointer a) (.pointer c)).run P w = .ok r w := run_eq_ptr 9999 hun hac
   have hg : (eqGuard op t xo yo (.pointer a) (.pointer c)) = pure () := by cases op <;> rfl
   refine ⟨.bool (if op = .eql then r else !r), _, ?_, ?_, hk⟩
   . simp only [Sem.run_bind, hg, Sem.run_pure, Result.andThen_ok]
     exact run_eql_any op t _ _ _ hop (by simp) (.inr (.inr (.inr (.inl ⟨_, _, rfl, rfl⟩)))) hrun
   . rcases hop with rfl | rfl
     . exact .b _
     . exact .b _
 . split at h
   . rename_i hp
     obtain ⟨r, hr, hk⟩ := optK_inv h
     obtain ⟨e, he⟩ : ∃ e, T.und t = .slice e := by cases hq : T.und t <;> simp [hq, isSl] at hp; exact ⟨_, rfl⟩
     have hun := hT.slice t e he
     obtain ⟨a, n, m, c, n', m', rfl, rfl, hac⟩ := nilSl_shape hr hu hv
     have hrun : (Op.equal t (.slice a n m) (.slice c n' m')).run P w = .ok r w := run_eq_sl 9999 hun hac
     have hg : (eqGuard op t xo yo (.slice a n m) (.slice c n' m')) = pure () := by cases op <;> rfl
     refine ⟨.bool (if op = .eql then r else !r), _, ?_, ?_, hk⟩
     . simp only [Sem.run_bind, hg, Sem.run_pure, Result.andThen_ok]
       exact run_eql_any op t _ _ _ hop (by simp) (.inr (.inr (.inr (.inr (.inr (.inl ⟨_, _, _, rfl⟩)))))) hrun
     . rcases hop with rfl | rfl
       . exact .b _
       . exact .b _
   obtain ⟨hk', h''⟩ := onlyIf_inv h
   obtain ⟨l, hl, hk⟩ := optK_inv h''
   have hrun : (Op.equal t u v).run P w = .ok (l.all leafEq) w := leaves_run hT 20 t x y l u v hl hu hv _ (by decide)
   have hs := leaves_shape hl hu hv
   rcases hs with ⟨k, n, k', n', _, _, h1, h2⟩ | hs
   . exfalso
     rcases h1 with ⟨_, _, rfl⟩ | ⟨_, _, rfl⟩ <;> rcases h2 with ⟨_, _, rfl⟩ | ⟨_, _, rfl⟩ <;> simp [isI] at hn
   . refine ⟨.bool (if op = .eql then l.all leafEq else !(l.all leafEq)), _, ?_, ?_, hk⟩
     . simp only [Sem.run_bind]
       rw [run_eqGuard hT op t xo yo u v hk' (by rcases hs with h | ⟨a, c, h1, h2, _⟩ | h; exact .inl h; exact .inr (.inl ⟨a, c, h1, h2⟩); exact .inr (.inr h))]
       simp only [Result.andThen_ok]
       refine run_eql_any op t u v _ hop ?_ (by rcases hs with h | h | h; exact .inl h; exact .inr (.inl h); exact .inr (.inr (.inl h))) hrun
       rintro k n k' n' ⟨rfl, rfl⟩
       rcases hs with ⟨_, _, h1, _⟩ | ⟨_, _, h1, _⟩ | ⟨_, _, h1, _⟩ <;> cases h1
     . rcases hop with rfl | rfl
       . exact eqOf_rep l
       . exact neOf_rep l
theorem abin_sound (hT : TyOk P T) {op : BinOp} {t : TypeId} (xo yo : Operand) {u v : Value} {x y : AVal} {K : AVal → Prop} (hu : Rep w X ρ u x) (hv : Rep w X ρ v y) (h : abin Ar.real T op t x y K) :
   ∃ r z, (do eqGuard op t xo yo u v; binOp op t u v : Sem Value).run P w = .ok r w ∧ Rep w X ρ r z ∧ K z := by
 unfold abin at h
 split at h
 . rename_i ha; exact aarith_sound ha xo yo hu hv h
 . split at h
   . obtain ⟨hc, h'⟩ := onlyIf_inv h; exact acmp_sound hc xo yo hu hv h'
   . rename_i hn
     split at h
     . exact aeql_sound hT (.inl rfl) xo yo hu hv hn h
     . exact aeql_sound hT (.inr rfl) xo yo hu hv hn h
     . exact h.elim
theorem aun_sound {op : UnOp} {u : Value} {x : AVal} {K : AVal → Prop} (hu : Rep w X ρ u x) (h : aun Ar.real op x K) :
   ∃ r z, (Op.unary op u).run P w = .ok r w ∧ Rep w X ρ r z ∧ K z := by
 unfold aun at h
 split at h
 . cases hu; refine ⟨_, _, ?_, .b _, h⟩; rfl
 . cases hu; refine ⟨_, _, ?_, .sb _, h⟩; rfl
 . cases hu; refine ⟨_, _, ?_, .i _ _, h⟩; rfl
 . cases hu; refine ⟨_, _, ?_, .s _ _, h⟩; rfl
 . cases hu; refine ⟨_, _, ?_, .i _ _, h⟩; rfl
 . cases hu; refine ⟨_, _, ?_, .s _ _, h⟩; rfl
 . exact h.elim
end
end Eng
set_option linter.unusedSimpArgs false
set_option linter.unusedVariables false
namespace Eng
open Go
section
variable {P : Program} {T : Ty} {w : World} {X : Nat → Prop} {ρ : Nat → Option Nat}
theorem aidx2_inv {sym : Bool} {x : AVal} {n : Nat} {K Ks : Nat → Prop} {v : Value} (hv : Rep w X ρ v x) (h : aidx2 sym x n K Ks) :
   ∃ k j, v = .int k j ∧ 0 ≤ j ∧ j < (n : Int) ∧ (K j.toNat ∨ Ks j.toNat) := by
 unfold aidx2 at h
 split at h
 . cases hv
   split at h
   . obtain ⟨h1, h2⟩ := onlyIf_inv h
     simp at h1
     exact ⟨_, _, rfl, h1.1, by omega, .inl h2⟩
   . cases h with
     | mk i h1 h2 h3 => subst h1; exact ⟨_, _, rfl, by omega, by omega, .inl h3⟩
     | sym i h1 h2 h3 => subst h1; exact ⟨_, _, rfl, by omega, by omega, .inr h3⟩
 . cases hv
   cases h with
   | mk i h1 h2 h3 => subst h1; exact ⟨_, _, rfl, by omega, by omega, .inl h3⟩
   | sym i h1 h2 h3 => subst h1; exact ⟨_, _, rfl, by omega, by omega, .inr h3⟩
 . exact h.elim
theorem aidx_inv {sym : Bool} {x : AVal} {n : Nat} {K : Nat → Prop} {v : Value} (hv : Rep w X ρ v x) (h : aidx sym x n K) :
   ∃ k j, v = .int k j ∧ 0 ≤ j ∧ j < (n : Int) ∧ K j.toNat := by
 obtain ⟨k, j, h1, h2, h3, h4⟩ := aidx2_inv hv h
 exact ⟨k, j, h1, h2, h3, h4.elim (fun h => h) (fun h => h)⟩
theorem foldl_set (cs : List Value) : ∀ (off j0 : Nat) (a : Array Value), off + j0 + cs.length ≤ a.size →
   ((cs.zipIdx j0).foldl (fun (r : Array Value) (p : Value × Nat) => r.setIfInBounds (off + p.2) p.1) a).toList = a.toList.take (off + j0) ++ cs ++ a.toList.drop (off + j0 + cs.length) := by
 induction cs with
 | nil => intro off j0 a h; simp
 | cons c cs ih =>
   intro off j0 a h
   simp only [List.zipIdx_cons, List.foldl_cons]
   simp only [List.length_cons] at h
   rw [ih off (j0 + 1) _ (by simp; omega)]
   have hlt : off + j0 < a.toList.length := by simp; omega
   simp only [Array.toList_setIfInBounds, List.length_cons]
   rw [show off + (j0 + 1) = off + j0 + 1 by omega]
   rw [List.take_set, List.drop_set_of_lt (by omega)]
   rw [List.take_succ_eq_append_getElem hlt]
   simp [List.set_append, Nat.min_eq_left (Nat.le_of_lt (by simpa using hlt)), show off + j0 + 1 + cs.length = off + j0 + (cs.length + 1) by omega]
theorem fillP_run {u : UT} {place : Nat → Option (Nat × Nat)} {e : Operand → AVal} {ρ' : Operand → Value} (he : ∀ x, Rep w X ρ (ρ' x) (e x))
   (hp : ∀ i off sz, aopP.placeOf T u i = some (off, sz) → place i = some (off, sz)) :
   ∀ (parts : List (Nat × Operand)) (cs r : List AVal) (a : Array Value), aopP.fillP T u (aopP.partsOf e parts) cs = some r → RepL w X ρ a.toList cs →
     ∃ a' : Array Value, Instr.fill place a (parts.map fun p => (p.1, ρ' p.2)) = some a' ∧ RepL w X ρ a'.toList r := by
 intro parts
 induction parts with
 | nil => intro cs r a h hr; simp [aopP.partsOf, aopP.fillP] at h; subst h; exact ⟨a, by simp [Instr.fill], hr⟩
 | cons p parts ih =>
   obtain ⟨i, x⟩ := p
   intro cs r a h hr
   simp only [aopP.partsOf] at h
   cases hc : (e x).cells with
   | none => rw [hc] at h; simp [aopP.fillP] at h
   | some ys =>
     rw [hc] at h
     simp only [aopP.fillP] at h
     split at h
     . cases h
     . rename_i off sz hpl
       split at h
       . rename_i cs' hlen hput
         have hy := (he x).cells hc
         obtain ⟨h1, h2⟩ := hr.put hy hput
         have hl := hy.length
         simp at hlen
         have hpl' := hp i off sz hpl
         simp only [List.map_cons, Instr.fill, hpl']
         have hs : (ρ' x).cells.size = sz := by have : (ρ' x).cells.size = (ρ' x).cells.toList.length := by simp
                                                omega
         have hs2 : ¬ ((ρ' x).cells.size ≠ sz ∨ off + (ρ' x).cells.size > a.size) := by simp at h1; omega
         rw [if_neg (by simpa using hs2)]
         refine ih cs' r _ h ?_
         have := foldl_set (ρ' x).cells.toList off 0 a (by simp at h1 ⊢; omega)
         simp only [Nat.add_zero] at this
         rw [← Array.foldl_toList, Array.toList_zipIdx]
         rw [this]
         exact h2
       . cases h
theorem asub_inv {lo hi : Option AVal} {n : Nat} {K : Nat → Nat → Prop} {lo' hi' : Option Value} (h : aopP.asub lo hi n K)
   (hlo : ∀ x, lo = some x → ∃ v, lo' = some v ∧ Rep w X ρ v x) (hlo0 : lo = none → lo' = none) (hhi : ∀ x, hi = some x → ∃ v, hi' = some v ∧ Rep w X ρ v x) (hhi0 : hi = none → hi' = none) (isSlice : Bool) (cap : Nat) (hcap : n ≤ cap) :
   ∃ l r, (Instr.sliceBounds isSlice n cap lo' hi' none).run P w = .ok (l, r, cap) w ∧ l ≤ r ∧ r ≤ n ∧ K l r := by
 unfold aopP.asub at h
 split at h
 . exact h.elim
 . rename_i r hr
   split at h
   . exact h.elim
   . rename_i l hl
     have hh : ∃ f : World → Prop, True := ⟨fun _ => True, trivial⟩
     have h1 : r ≤ n ∧ ((hi' = none ∧ r = n) ∨ ∃ k j, hi' = some (.int k j) ∧ 0 ≤ j ∧ j.toNat = r) := by
       cases hi with
       | none => simp [subHi] at hr; subst hr; exact ⟨Nat.le_refl _, .inl ⟨hhi0 rfl, rfl⟩⟩
       | some x =>
         obtain ⟨v, hv, hrep⟩ := hhi x rfl
         cases x <;> simp [subHi] at hr
         obtain ⟨⟨h0, h1⟩, rfl⟩ := hr
         cases hrep
         exact ⟨by omega, .inr ⟨_, _, hv, h0, rfl⟩⟩
     have h2 : l ≤ r ∧ ((lo' = none ∧ l = 0) ∨ ∃ k j, lo' = some (.int k j) ∧ 0 ≤ j ∧ j.toNat = l) := by
       cases lo with
       | none => simp [subLo] at hl; subst hl; exact ⟨Nat.zero_le _, .inl ⟨hlo0 rfl, rfl⟩⟩
       | some x =>
         obtain ⟨v, hv, hrep⟩ := hlo x rfl
         cases x <;> simp [subLo] at hl
         obtain ⟨⟨h0, h1⟩, rfl⟩ := hl
         cases hrep
         exact ⟨by omega, .inr ⟨_, _, hv, h0, rfl⟩⟩
     refine ⟨l, r, ?_, h2.1, h1.1, h⟩
     obtain ⟨hr1, ⟨rfl, rfl⟩ | ⟨k, j, rfl, hj0, hj⟩⟩ := h1 <;> obtain ⟨hl1, ⟨rfl, rfl⟩ | ⟨k', i, rfl, hi0, hi⟩⟩ := h2
     . simp [Instr.sliceBounds]
     . have : i ≤ (r : Int) := by omega
       simp [Instr.sliceBounds, Instr.sliceBound, asIntOf, hi0, this, hi]
     . have : j ≤ (cap : Int) := by omega
       simp [Instr.sliceBounds, Instr.sliceBound, asIntOf, hj0, this, hj]
     . have h3 : j ≤ (cap : Int) := by omega
       have h4 : i ≤ (r : Int) := by omega
       simp [Instr.sliceBounds, Instr.sliceBound, asIntOf, hj0, h3, hj, hi0, h4, hi]
end
end Eng
set_option linter.unusedSimpArgs false
set_option linter.unusedVariables false
namespace Eng
open Go
section
variable {P : Program} {T : Ty} {w : World} {X : Nat → Prop} {ρ : Nat → Option Nat}
theorem und_struct (hT : TyOk P T) {t : TypeId} {fs : List (Nat × TypeId × String)} (h : T.und t = .struct fs) {f : Nat} {off : Nat} {ft : TypeId} {nm : String} (hf : fs[f]? = some (off, ft, nm)) :
   ∃ fields : Array Field, P.underlying t = some (.struct fields) ∧ ∃ g, fields[f]? = some g ∧ g.offset = off ∧ g.type = ft := by
 obtain ⟨fields, h1, h2, _⟩ := hT.struct t fs h
 refine ⟨fields, h1, ?_⟩
 rw [← h2] at hf
 simp only [List.getElem?_map, Array.getElem?_toList] at hf
 cases hg : fields[f]? with
 | none => simp [hg] at hf
 | some g => simp [hg] at hf; exact ⟨g, rfl, hf.1, hf.2.1⟩
theorem RepL.mapE {e : Operand → AVal} {ρ' : Operand → Value} (he : ∀ x, Rep w X ρ (ρ' x) (e x)) : ∀ l : List Operand, RepL w X ρ (l.map ρ') (l.map e)
 | [] => .nil
 | x :: l => .cons (he x) (RepL.mapE he l)
theorem add_mid (b o j : Nat) : (⟨b, o, none⟩ : Addr).add j = ⟨b, o + j, none⟩ := by unfold Addr.add; split <;> simp_all
theorem range_sub {b o n k : Nat} {vs : List Value} (h : w.rangeAt b o vs) : w.rangeAt b (o + k) ((vs.drop k).take n) := by
 intro j v hj
 rw [List.getElem?_take] at hj
 split at hj
 . rw [List.getElem?_drop] at hj
   have := h (k + j) v hj
   rwa [← Nat.add_assoc] at this
 . cases hj
theorem RepL.lst {m : Bool} {b o n cap : Nat} {vs : List Value} {cs : List AVal} (hr : RepL w X noρ vs cs) (hX : ¬ X b) (hb : b < w.heap.size) (h : w.rangeAt b o vs) (hn : n ≤ cap) :
   Rep w X ρ (.slice (some ⟨b, o, none⟩) n cap) (.lst m n cs) := .lst m b o n cap vs cs hX hb h hn hr.length hr.at
theorem RepL.ref {b base off : Nat} {vs : List Value} {cs : List AVal} (hr : RepL w X noρ vs cs) (hX : ¬ X b) (hb : b < w.heap.size) (h : w.rangeAt b base vs) :
   Rep w X ρ (.pointer (some ⟨b, base + off, none⟩)) (.ref cs off) := .ref b base off vs cs hX hb h hr.length hr.at
theorem RepL.fn {f : Fn} {vs us : List Value} {cs ds : List AVal} (h : RepL w X ρ vs cs) (h' : RepL w X ρ us ds) : Rep w X ρ (.func f vs.toArray us.toArray) (.fn f cs ds) :=
 .fn f vs us cs ds h.length h.at h'.length h'.at
theorem notOther_iff {u : UT} (h : notOther u = true) : u ≠ .other := by rintro rfl; cases h
theorem part_load (hT : TyOk P T) {t : TypeId} {b off o : Nat} {vs : List Value} {cs : List AVal} {y : AVal} (hr : RepL w X ρ vs cs) (hra : w.rangeAt b o vs) (h : part T t cs off = some y) :
   ∃ v, (loadVar t ⟨b, o + off, none⟩).run P w = .ok v w ∧ Rep w X ρ v y := by
 obtain ⟨hu, ⟨ha, r, hr', rfl⟩ | ⟨ha, hg⟩⟩ := part_cases h
 . obtain ⟨hlen, hrep⟩ := hr.sub hr'
   have h1 := range_sub (k := off) (n := T.size t) hra
   have h2 := run_loadCells_list (P := P) w ⟨b, o + off, none⟩ ((vs.drop off).take (T.size t)) (fun j v hj => by rw [add_mid]; exact h1 j v hj)
   have h3 : ((vs.drop off).take (T.size t)).length = T.size t := by simp; omega
   rw [h3] at h2
   exact ⟨_, by simp [loadVar, hT.isAgg hu, ha, hT.size hu, h2], hrep.agg⟩
 . obtain ⟨v, hv, hrep⟩ := hr.get hg
   have hc := hra off v hv
   exact ⟨v, by simp [loadVar, hT.isAgg hu, ha, load]; simp [Sem.run, hc], hrep⟩
theorem flatL_all (f : AVal → Bool) : ∀ l, flatL f l = l.all f
 | [] => rfl
 | x :: l => by rw [flatL, List.all_cons, flatL_all f l]
theorem u8_vals {Y : Nat → Prop} {ρ : Nat → Option Nat} : ∀ {vs : List Value} {cs : List AVal}, RepL w Y ρ vs cs → cs.all isU8 = true → ∀ s : ByteArray, ∃ ns : List Int, vs = ns.map (Value.int .u8) ∧ strFrom s cs = ns.foldl (fun r n => r.push (UInt8.ofNat n.toNat)) s
 | _, _, .nil, _, s => ⟨[], rfl, rfl⟩
 | _, _, .cons (x := x) hx h, hu, s => by
   rw [List.all_cons, Bool.and_eq_true] at hu
   have : ∃ n, (x = .i .u8 n ∨ x = .s .u8 n) := by
     unfold isU8 at hu
     split at hu
     . exact ⟨_, .inl rfl⟩
     . exact ⟨_, .inr rfl⟩
     . simp at hu
   obtain ⟨n, rfl | rfl⟩ := this
   . obtain ⟨ns, rfl, hs⟩ := u8_vals h hu.2 (s.push (UInt8.ofNat n.toNat))
     exact ⟨n :: ns, by rw [hx.i_inv]; rfl, by rw [strFrom, List.foldl_cons]; exact hs⟩
   . obtain ⟨ns, rfl, hs⟩ := u8_vals h hu.2 (s.push (UInt8.ofNat n.toNat))
     exact ⟨n :: ns, by rw [hx.s_inv]; rfl, by rw [strFrom, List.foldl_cons]; exact hs⟩
theorem sliced_rep_lst {m : Bool} {l r cap sz : Nat} {cs' : List AVal} {blk off : Nat} {vs : List Value} (hX : ¬ X blk) (hb : blk < w.heap.size) (hr : w.rangeAt blk (off + l * sz) vs) (hu : RepL w X noρ vs cs')
   (h1 : l ≤ r) (h2 : r ≤ cap) (h3 : cs'.length = (r - l) * sz) :
   Rep w X ρ (.slice (if cap = l then (some ⟨blk, off, none⟩ : Option Addr) else some ((⟨blk, off, none⟩ : Addr).add (l * sz))) (r - l) (cap - l)) (.lst m (r - l) cs') := by
 by_cases hc : cap = l
 . have hz : r - l = 0 := by omega
   rw [if_pos hc, hz]
   rw [hz] at h3
   have : cs' = [] := by simpa using h3
   subst this
   exact .lst0 _ _ _
 . rw [if_neg hc, add_mid]
   exact hu.lst hX hb hr (by omega)
theorem aopP_sound (hT : TyOk P T) (o : Oper) {e : Operand → AVal} {ρ' : Operand → Value} {K : AVal → Prop} (he : ∀ x, Rep w X ρ (ρ' x) (e x)) (h : aopP Ar.real T o e K) :
   ∃ r z, (execOp ρ' o).run P w = .ok (.value r) w ∧ Rep w X ρ r z ∧ K z := by
 obtain ⟨dst, op, ty, pos, after, guard⟩ := o
 unfold aopP at h
 cases op <;> simp only at h <;> try (exact h.elim)
 case move x => exact ⟨_, _, by simp [execOp], he x, h⟩
 case assign x => exact ⟨_, _, by simp [execOp], he x, h⟩
 case pick c a b =>
   have hc := he c
   generalize e c = y at h hc
   cases y <;> try (exact h.elim)
   . have hx := hc.b_inv
     rename_i t
     cases t
     . exact ⟨_, _, by simp [execOp, asBool, hx], he b, h⟩
     . exact ⟨_, _, by simp [execOp, asBool, hx], he a, h⟩
   . have hx := hc.sb_inv
     rename_i t
     cases h with
     | mk hp hq =>
       cases t
       . exact ⟨_, _, by simp [execOp, asBool, hx], he b, hq rfl⟩
       . exact ⟨_, _, by simp [execOp, asBool, hx], he a, hp rfl⟩
 case binOp op t x y yt =>
   obtain ⟨r, z, h1, h2, h3⟩ := abin_sound (P := P) hT x y (he x) (he y) h
   refine ⟨r, z, ?_, h2, h3⟩
   simp only [execOp, Sem.run_bind] at h1 ⊢
   rw [h1]; simp
 case unOp op t x =>
   obtain ⟨r, z, h1, h2, h3⟩ := aun_sound (P := P) (he x) h
   exact ⟨r, z, by simp [execOp, h1], h2, h3⟩
 case convert src dst x =>
   obtain ⟨hs, h⟩ := onlyIf_inv h
   obtain ⟨ds, hds, _⟩ := hT.und (notOther_iff hs)
   have hx := he x
   cases hd : T.und dst <;> rw [hd] at h <;> try (exact h.elim)
   rotate_left
   . have hdst := hT.str dst hd
     generalize e x = y at h hx
     cases y <;> try (exact h.elim)
     rename_i m n cs
     dsimp only at h
     split at h <;> try (exact h.elim)
     rename_i el hel
     split at h <;> try (exact h.elim)
     rename_i hu8
     have hsrc := hT.slice src el hel
     have hel8 := hT.int el .u8 hu8
     have hgo : cs.length = n ∧ cs.all isU8 = true ∧ K (.v (.string (Ar.real.str cs))) := by
       cases m with
       | false =>
         obtain ⟨h1, h2⟩ := onlyIf_inv h
         rw [Bool.and_eq_true] at h1
         exact ⟨by simpa using h1.1, by rw [← flatL_all]; exact h1.2, h2⟩
       | true =>
         cases h with
         | mk h1 h2 =>
           have h1 : (cs.length == n && cs.all isU8) = true := h1
           rw [Bool.and_eq_true] at h1
           exact ⟨by simpa using h1.1, h1.2, h2⟩
     obtain ⟨hn, hu, hk⟩ := hgo
     rcases hx.lst_inv with ⟨blk, off, cap, vs, hv, hrest⟩ | ⟨rfl, rfl, a, cap, hv⟩
     . obtain ⟨_, _, hr, _, hrep⟩ := hrest
       obtain ⟨ns, rfl, hs⟩ := u8_vals hrep hu .empty
       have hlen : ns.length = n := by rw [← hn, ← hrep.length, List.length_map]
       have hld := run_loadCells_list (P := P) w ⟨blk, off, none⟩ (ns.map (Value.int .u8)) (fun j v hj => by rw [add_mid]; exact hr j v hj)
       rw [List.length_map, hlen] at hld
       have hb := run_bytesToString (P := P) w ⟨blk, off, none⟩ n cap ns hld
       refine ⟨_, _, ?_, .v (.string (strFrom .empty cs)) rfl, hk⟩
       rw [hs]
       simp [execOp, hv, convert, run_underlying hsrc, run_underlying hdst, run_underlying hel8, hb]
     . cases a with
       | none =>
         refine ⟨_, _, ?_, .v (.string .empty) rfl, hk⟩
         simp [execOp, hv, convert, run_underlying hsrc, run_underlying hdst, run_underlying hel8, Conv.bytesToString]
       | some a =>
         have hld := run_loadCells_list (P := P) w a [] (fun j v hj => by simp at hj)
         have hb := run_bytesToString (P := P) w a 0 cap [] hld
         refine ⟨_, _, ?_, .v (.string .empty) rfl, hk⟩
         simp [execOp, hv, convert, run_underlying hsrc, run_underlying hdst, run_underlying hel8, hb]
   rename_i k
   have hdst := hT.int dst k hd
   generalize e x = y at h hx
   cases y <;> try (exact h.elim)
   . have hv := hx.i_inv
     exact ⟨_, _, by simp [execOp, hv, convert, run_underlying hds, run_underlying hdst, Conv.intToInt]; rfl, .i _ _, h⟩
   . have hv := hx.s_inv
     exact ⟨_, _, by simp [execOp, hv, convert, run_underlying hds, run_underlying hdst, Conv.intToInt]; rfl, .s _ _, h⟩
 case load t x =>
   have hx := he x
   generalize hex : e x = y at h hx
   cases y <;> try (exact h.elim)
   rename_i cs off
   obtain ⟨z, hz, hk⟩ := optK_inv h
   obtain ⟨blk, base, vs, hv, h1, h2, h3, h4⟩ := hx.ref_inv
   obtain ⟨v, hv', hr⟩ := part_load (P := P) hT h4 h3 hz
   exact ⟨v, z, by simp [execOp, hv, Instr.loadAt, Instr.sureAddr, hv'], hr.up, hk⟩
 case nilCheck x =>
   have hx := he x
   generalize e x = y at h hx
   cases y <;> try (exact h.elim)
   . obtain ⟨blk, base, vs, hv, _⟩ := hx.ref_inv
     exact ⟨_, _, by simp only [execOp, hv]; rfl, by rw [← hv]; exact hx, h⟩
   . obtain ⟨blk, hv, _⟩ := hx.own_inv
     exact ⟨_, _, by simp only [execOp, hv]; rfl, by rw [← hv]; exact hx, h⟩
   . obtain ⟨u, hv, _⟩ := hx.ifc_inv
     exact ⟨_, _, by simp only [execOp, hv]; rfl, by rw [← hv]; exact hx, h⟩
   . rename_i f as cs
     have h := onlyIf_inv h
     obtain ⟨vs, us, hv, hvs, hus⟩ := hx.fn_inv
     obtain ⟨hn, hk⟩ := h
     unfold nilFn at hn
     split at hn
     . exact ⟨_, _, by simp only [execOp, hv]; rfl, by rw [← hv]; exact hx, hk⟩
     . rename_i name t z
       obtain ⟨g, hg⟩ := Option.isSome_iff_exists.1 hn
       cases hvs with
       | cons h1 h2 =>
         cases h2 with
         | nil =>
           obtain ⟨u, hu, _⟩ := h1.ifc_inv
           subst hu
           have hr := (hT.meth t name g hg u w).2
           refine ⟨.func (.method name) #[.iface t u] us.toArray, _, ?_, hv ▸ hx, hk⟩
           simp only [execOp, hv, List.getElem?_toArray, List.getElem?_cons_zero, Sem.run_bind, run_program, Result.andThen_ok, hr]
           rfl
     . cases hn
 case extract x i =>
   have hx := he x
   generalize e x = y at h hx
   cases y <;> try (exact h.elim)
   rename_i vs
   obtain ⟨y, hy, hk⟩ := optK_inv h
   obtain ⟨us, hu, hr⟩ := hx.tup_inv
   obtain ⟨v, hv, hrep⟩ := hr.get hy
   exact ⟨v, y, by simp [execOp, hu, Instr.extract, hv], hrep, hk⟩
 case field t x f =>
   have hx := he x
   generalize e x = y at h hx
   split at h <;> try (exact h.elim)
   rename_i fs cs ht
   split at h
   . rename_i off ft nm hf
     obtain ⟨fields, hu, g, hg, rfl, rfl⟩ := und_struct hT ht hf
     obtain ⟨z, hz, hk⟩ := optK_inv h
     obtain ⟨us, hus, hr⟩ := hx.agg_inv
     obtain ⟨v, hv, hrep⟩ := part_run (P := P) (w := w) hT hr hz
     exact ⟨v, z, by simp [execOp, hus, Instr.field, run_underlying hu, hg, asAgg, hv], hrep, hk⟩
   . exact h.elim
 case index t x ix =>
   have hx := he x
   have hi := he ix
   generalize e x = y at h hx
   split at h <;> try (exact h.elim)
   . rename_i n el cs ht
     obtain ⟨k, j, hj, h0, h1, hk⟩ := aidx_inv hi h
     obtain ⟨z, hz, hk⟩ := optK_inv hk
     obtain ⟨us, hus, hr⟩ := hx.agg_inv
     have hso := (part_cases hz).1
     obtain ⟨v, hv, hrep⟩ := part_run (P := P) (w := w) hT hr hz
     exact ⟨v, z, by simp [execOp, hus, Instr.index, hj, asIntOf, run_underlying (hT.arr t n el ht), h0, h1, hT.size hso, hv], hrep, hk⟩
   . rename_i s ht
     obtain ⟨k, j, hj, h0, h1, hk⟩ := aidx_inv hi h
     have hv := hx.v_inv
     have h1 : j < (s.size : Int) := h1
     have hlt : j.toNat < s.size := by omega
     have hb : s[j.toNat]? = some s[j.toNat] := getElem?_pos s j.toNat hlt
     have hr : Ar.real.byte s j.toNat = (s[j.toNat].toNat : Int) := by
       show (match s[j.toNat]? with | some b => (b.toNat : Int) | none => 0) = _
       rw [hb]
     refine ⟨_, _, ?_, .s .u8 _, hk⟩
     rw [hr]
     simp [execOp, hv, Instr.index, hj, asIntOf, run_underlying (hT.str t ht), h0, hb]
 case fieldAddr t x f =>
   have hx := he x
   split at h <;> try (exact h.elim)
   rename_i fs ht
   split at h <;> try (exact h.elim)
   rename_i off ft nm hf
   obtain ⟨fields, hu, g, hg, rfl, rfl⟩ := und_struct hT ht hf
   obtain ⟨hsz, h⟩ := onlyIf_inv h
   simp at hsz
   have hso : T.und g.type ≠ .other := fun hq => hsz (hT.other _ hq)
   have hsize := hT.size (P := P) (w := w) hso
   generalize e x = y at h hx
   cases y <;> try (exact h.elim)
   . obtain ⟨blk, base, vs, hv, h1, h2, h3, h4⟩ := hx.ref_inv
     rename_i cs o
     refine ⟨.pointer (some ⟨blk, base + o + g.offset, none⟩), _, by simp [execOp, hv, Instr.fieldAt, run_underlying hu, hg, Instr.sureAddr, fieldPlace, hsize, hsz, add_mid], ?_, h⟩
     rw [Nat.add_assoc]
     exact h4.ref h1 h2 h3
   . obtain ⟨blk, hv, h1⟩ := hx.own_inv
     exact ⟨.pointer (some ⟨blk, _ + g.offset, none⟩), _, by simp [execOp, hv, Instr.fieldAt, run_underlying hu, hg, Instr.sureAddr, fieldPlace, hsize, hsz, add_mid], .own _ _ _ h1, h⟩
   . obtain ⟨blk, hv, h1⟩ := hx.el_inv
     exact ⟨.pointer (some ⟨blk, _ + g.offset, none⟩), _, by simp [execOp, hv, Instr.fieldAt, run_underlying hu, hg, Instr.sureAddr, fieldPlace, hsize, hsz, add_mid], .el _ _ _ h1, h⟩
 case indexAddr t x ix =>
   have hx := he x
   have hi := he ix
   generalize e x = y at h hx
   split at h <;> try (exact h.elim)
   . rename_i n el id off ht
     obtain ⟨hn, h⟩ := onlyIf_inv h
     simp at hn
     have hu := hT.arr t n el ht
     obtain ⟨k, j, hj, h0, h1, hk⟩ := aidx2_inv hi h
     obtain ⟨blk, hv, h2⟩ := hx.own_inv
     have hrun : (execOp ρ' { dst := dst, op := .indexAddr t x ix, type := ty, pos := pos, after := after, guard := guard }).run P w = .ok (.value (.pointer (some ⟨blk, off + j.toNat * T.size el, none⟩))) w := by
       simp [execOp, hv, Instr.indexAt, hj, asIntOf, run_underlying hu, h0, h1, hT.size (notOther_iff hn.2), add_mid, Instr.sureAddr]
     rcases hk with hk | hk
     . exact ⟨_, _, hrun, .own _ _ _ h2, hk⟩
     . exact ⟨_, _, hrun, .el _ _ _ h2, hk⟩
   . rename_i n el cs off ht
     obtain ⟨hn, h⟩ := onlyIf_inv h
     simp at hn
     have hu := hT.arr t n el ht
     obtain ⟨k, j, hj, h0, h1, hk⟩ := aidx2_inv hi h
     obtain ⟨blk, base, vs, hv, h2, h3, h4, h5⟩ := hx.ref_inv
     have hrun : (execOp ρ' { dst := dst, op := .indexAddr t x ix, type := ty, pos := pos, after := after, guard := guard }).run P w = .ok (.value (.pointer (some ⟨blk, base + (off + j.toNat * T.size el), none⟩))) w := by
       rw [← Nat.add_assoc]
       simp [execOp, hv, Instr.indexAt, hj, asIntOf, run_underlying hu, h0, h1, hT.size (notOther_iff hn.2), add_mid, Instr.sureAddr]
     rcases hk with hk | hk
     . exact ⟨_, _, hrun, h5.ref h2 h3 h4, hk⟩
     . cases hk with
       | mk ys e1 e2 =>
         obtain ⟨_, e3⟩ := h5.sub e1
         exact ⟨_, _, hrun, e3.ref (off := 0) h2 h3 (range_sub h4), e2⟩
   . rename_i el m n cs ht
     obtain ⟨hn, h⟩ := onlyIf_inv h
     have hu := hT.slice t el ht
     obtain ⟨k, j, hj, h0, h1, hk⟩ := aidx2_inv hi h
     rcases hx.lst_inv with ⟨blk, off, cap, vs, hv, h2, h3, h4, h5, h6⟩ | ⟨rfl, _⟩
     . have hrun : (execOp ρ' { dst := dst, op := .indexAddr t x ix, type := ty, pos := pos, after := after, guard := guard }).run P w = .ok (.value (.pointer (some ⟨blk, off + j.toNat * T.size el, none⟩))) w := by
         simp [execOp, hv, Instr.indexAt, hj, asIntOf, run_underlying hu, h0, h1, hT.size (notOther_iff hn), add_mid, Instr.sureAddr]
       have row : ARow cs j.toNat (T.size el) (fun ys => K (.ref ys 0)) → ∃ r z, (execOp ρ' { dst := dst, op := .indexAddr t x ix, type := ty, pos := pos, after := after, guard := guard }).run P w = .ok (.value r) w ∧ Rep w X ρ r z ∧ K z := by
         intro hk
         cases hk with
         | mk ys e1 e2 =>
           obtain ⟨_, e3⟩ := h6.sub e1
           exact ⟨_, _, hrun, e3.ref (off := 0) h2 h3 (range_sub h4), e2⟩
       rcases hk with hk | hk
       . cases m
         . exact ⟨_, _, hrun, h6.ref h2 h3 h4, hk⟩
         . exact row hk
       . exact row hk
     . omega
   . rename_i el m id off n sz ht
     obtain ⟨hn, h⟩ := onlyIf_inv h
     simp at hn
     have hu := hT.slice t el ht
     obtain ⟨k, j, hj, h0, h1, hk⟩ := aidx2_inv hi h
     rcases hx.osl_inv with ⟨blk, cap, hv, h2, h3, h4⟩ | ⟨rfl, _⟩
     . have hrun : (execOp ρ' { dst := dst, op := .indexAddr t x ix, type := ty, pos := pos, after := after, guard := guard }).run P w = .ok (.value (.pointer (some ⟨blk, off + j.toNat * sz, none⟩))) w := by
         rw [← hn.1]
         simp [execOp, hv, Instr.indexAt, hj, asIntOf, run_underlying hu, h0, h1, hT.size (notOther_iff hn.2), add_mid, Instr.sureAddr]
       rcases hk with hk | hk
       . exact ⟨_, _, hrun, .own _ _ _ h2, hk⟩
       . exact ⟨_, _, hrun, .el _ _ _ h2, hk⟩
     . omega
 case makeInterface t x =>
   have hd : ∃ d, P.underlying t = some d ∧ ∀ ms, d ≠ .interface ms := by
     cases ht : T.und t <;> rw [ht] at h <;> try (exact h.elim)
     . exact ⟨_, hT.int _ _ ht, by simp⟩
     . exact ⟨_, hT.bool _ ht, by simp⟩
     . exact ⟨_, hT.str _ ht, by simp⟩
     . exact ⟨_, hT.ptr _ _ ht, by simp⟩
     . exact ⟨_, hT.slice _ _ ht, by simp⟩
     . exact ⟨_, hT.arr _ _ _ ht, by simp⟩
     . obtain ⟨f, hf, _⟩ := hT.struct _ _ ht; exact ⟨_, hf, by simp⟩
   have hk : K (.ifc t (e x)) := by
     cases ht : T.und t <;> rw [ht] at h <;> first | exact h | exact h.elim
   obtain ⟨d, hd, hn⟩ := hd
   refine ⟨.iface t (ρ' x), _, ?_, .ifc _ _ _ (he x), hk⟩
   simp only [execOp, Instr.makeInterface, Sem.run_bind, run_underlying hd, Result.andThen_ok]
   cases d <;> simp at hn ⊢
 case makeFunc f a c =>
   have h1 := (RepL.mapE he a.toList).fn (f := f) (RepL.mapE he c.toList)
   have h2 : ∀ q : Array Operand, (List.map ρ' q.toList).toArray = q.map ρ' := fun q => by apply Array.ext'; simp
   rw [h2, h2] at h1
   exact ⟨_, _, rfl, h1, h⟩
 case typeAssert x xt t ok =>
   have hd : ∃ d, P.underlying t = some d ∧ (∀ ms, d ≠ .interface ms) ∧ T.und t ≠ .other := by
     cases ht : T.und t <;> rw [ht] at h <;> try (exact h.elim)
     . exact ⟨_, hT.int _ _ ht, by simp, by simp⟩
     . exact ⟨_, hT.bool _ ht, by simp, by simp⟩
     . exact ⟨_, hT.str _ ht, by simp, by simp⟩
     . exact ⟨_, hT.ptr _ _ ht, by simp, by simp⟩
     . exact ⟨_, hT.slice _ _ ht, by simp, by simp⟩
     . exact ⟨_, hT.arr _ _ _ ht, by simp, by simp⟩
     . obtain ⟨f, hf, _⟩ := hT.struct _ _ ht; exact ⟨_, hf, by simp, by simp⟩
   obtain ⟨d, hd, hn, hso⟩ := hd
   have hx := he x
   generalize e x = y at h hx
   split at h <;> try (exact h.elim)
   rename_i t' y _ _
   obtain ⟨u, hv, hu⟩ := hx.ifc_inv
   split at h
   . rename_i heq
     simp at heq
     subst heq
     cases ok
     . refine ⟨u, y, ?_, hu, h⟩
       simp only [execOp, Instr.typeAssert, Sem.run_bind, run_underlying hd, hv, Result.andThen_ok]
       cases d <;> simp at hn ⊢
     . refine ⟨.tuple #[u, .bool true], _, ?_, RepL.tup (.cons hu (.cons (.b true) .nil)), h⟩
       simp only [execOp, Instr.typeAssert, Sem.run_bind, run_underlying hd, hv, Result.andThen_ok]
       cases d <;> simp at hn ⊢
   . rename_i hne
     simp at hne
     split at h <;> try (exact h.elim)
     obtain ⟨z, hz, hzc, hza, hzo⟩ := hT.zero (P := P) (w := w) hso
     have hrz : Rep w X ρ z (match Eng.isAgg (T.und t), mapV (T.zero t) with | true, z => .agg z | false, z => (lget z 0).getD (.tup [])) := by
       cases hag : Eng.isAgg (T.und t)
       . have hz1 := hzo hag
         cases z with
         | agg cs => cases hz1
         | _ => simp [Value.cells] at hzc; rw [← hzc]; simp only [mapV, lget, Option.getD_some]; exact Rep.ofV1 _
       . rw [hza hag]; exact (RepL.mapV _).agg
     refine ⟨.tuple #[z, .bool false], _, ?_, RepL.tup (.cons hrz (.cons (.b false) .nil)), h⟩
     simp only [execOp, Instr.typeAssert, Sem.run_bind, run_underlying hd, hv, Result.andThen_ok]
     cases d <;> simp at hn ⊢ <;> simp [hne, hz]
 case build t parts =>
   split at h <;> try (exact h.elim)
   rename_i cs hag hcs
   have hso : T.und t ≠ .other := by intro hq; rw [hq] at hag; cases hag
   have hag0 : Eng.isAgg (T.und t) = true := by cases hq : T.und t <;> rw [hq] at hag <;> first | rfl | cases hag
   obtain ⟨it, hit, hsz, hby, z, hz, hzc, hza, _⟩ := hT.info t hso
   have hzr : RepL w X ρ z.cells.toList (mapV (T.zero t)) := by rw [hzc]; exact RepL.mapV _
   have hpl : ∃ a', P.built t ((parts.map fun p => (p.1, ρ' p.2)).toList) = some a' ∧ RepL w X ρ a'.toList cs := by
     rw [Array.toList_map]
     cases hu : T.und t with
     | arr n el =>
       have hun := hT.arr t n el hu
       rw [hu] at hcs
       have hel : notOther (T.und el) = true := by rw [hu] at hag; exact hag
       obtain ⟨ie, hie, hies, _⟩ := hT.info el (notOther_iff hel)
       obtain ⟨a', h1, h2⟩ := fillP_run (T := T) (u := .arr n el) (place := fun i => some (i * ie.size, ie.size)) he (fun i off sz h => by
           simp [aopP.placeOf, hel] at h; rw [hies]; obtain ⟨rfl, rfl⟩ := h; rfl) parts.toList _ _ z.cells hcs hzr
       exact ⟨a', by simp [Program.built, hit, hun, hz, hie, h1], h2⟩
     | struct fs =>
       obtain ⟨fields, hf, hfs, _, hfi⟩ := hT.struct t fs hu
       rw [hu] at hcs
       have hm : fields.toList.mapM (fun f => (P.info? f.type).map fun i => (f.offset, i.size)) = some (fields.toList.map fun f => ((P.info? f.type).map fun i => (f.offset, i.size)).getD (0, 0)) :=
         Go.ChangeMaps.mapM_total (0, 0) (fun f hf' => by
           have := hfi f hf'
           cases hi : P.info? f.type with
           | none => simp [hi] at this
           | some i => exact ⟨_, rfl⟩)
       obtain ⟨a', h1, h2⟩ := fillP_run (T := T) (u := .struct fs) (place := ((fields.toList.map fun f => ((P.info? f.type).map fun i => (f.offset, i.size)).getD (0, 0)).toArray[·]?)) he (fun i off sz h => by
           simp only [aopP.placeOf] at h
           split at h <;> try (cases h; done)
           rename_i off' ft nm hfi'
           split at h <;> try (cases h; done)
           rename_i hno
           cases h
           rw [← hfs] at hfi'
           simp only [List.getElem?_map] at hfi'
           cases hg : fields.toList[i]? with
           | none => rw [hg] at hfi'; simp at hfi'
           | some g =>
             rw [hg] at hfi'
             simp at hfi'
             obtain ⟨rfl, rfl, _⟩ := hfi'
             obtain ⟨ig, hig, higs, _⟩ := hT.info g.type (notOther_iff hno)
             have hg' : fields[i]? = some g := by simpa using hg
             simp [hg', hig, higs]) parts.toList _ _ z.cells hcs hzr
       exact ⟨a', by simp only [Program.built, hit, hf, hz, hm, h1], h2⟩
     | _ => rw [hu] at hag0; cases hag0
   obtain ⟨a', ha, hr⟩ := hpl
   refine ⟨.agg a', _, ?_, ?_, h⟩
   . simp only [execOp, Sem.run_bind]
     rw [show (parts.map fun (i, x) => (i, ρ' x)) = (parts.map fun p => (p.1, ρ' p.2)) from rfl, run_build w t _ a' ha]; simp
   . have := hr.agg; simpa using this
 case slice t x lo hi mx =>
   have hx := he x
   have hlo : ∀ z, lo.map e = some z → ∃ v, lo.map ρ' = some v ∧ Rep w X ρ v z := by
     intro z hz; cases lo <;> simp at hz ⊢; subst hz; exact he _
   have hlo0 : lo.map e = none → lo.map ρ' = none := by intro hz; cases lo <;> simp at hz ⊢
   have hhi : ∀ z, hi.map e = some z → ∃ v, hi.map ρ' = some v ∧ Rep w X ρ v z := by
     intro z hz; cases hi <;> simp at hz ⊢; subst hz; exact he _
   have hhi0 : hi.map e = none → hi.map ρ' = none := by intro hz; cases hi <;> simp at hz ⊢
   generalize hye : e x = y at h hx
   split at h <;> try (exact h.elim)
   rename_i el n cs ht
   obtain ⟨hc, hq⟩ := onlyIf_inv h
   have hun := hT.slice t el ht
   have hsz := hT.size (P := P) (w := w) (notOther_iff hc)
   rcases hx.lst_inv with ⟨blk, off, cap, vs, hv, h3, h4, h5, h6, h7⟩ | ⟨rfl, rfl, b, cap, hv⟩
   . obtain ⟨l, r, hb, h1, h2, hk⟩ := asub_inv (P := P) (w := w) hq hlo hlo0 hhi hhi0 true cap h6
     obtain ⟨cs', hcs, hk⟩ := optK_inv hk
     obtain ⟨hlen, hsub⟩ := h7.sub hcs
     have hra := range_sub (k := l * T.size el) (n := (r - l) * T.size el) h5
     refine ⟨.slice (if cap = l then (some ⟨blk, off, none⟩ : Option Addr) else some ((⟨blk, off, none⟩ : Addr).add (l * T.size el))) (r - l) (cap - l), _, ?_, ?_, hk⟩
     . simp only [execOp, Sem.run_bind, hv, Instr.sliceAt, Instr.slice, run_underlying hun, Result.andThen_ok, Sem.run_pure, Option.map_none, hb, hsz]
       by_cases hc' : cap = l <;> simp [hc']
     . refine sliced_rep_lst h3 h4 hra hsub h1 (by omega) ?_
       rw [← hsub.length]; simp; omega
   . obtain ⟨l, r, hb, h1, h2, hk⟩ := asub_inv (P := P) (w := w) hq hlo hlo0 hhi hhi0 true cap (Nat.zero_le _)
     obtain rfl : r = 0 := by omega
     obtain rfl : l = 0 := by omega
     obtain ⟨cs', hcs, hk⟩ := optK_inv hk
     obtain ⟨_, h2⟩ := lsub_spec _ _ _ _ hcs
     simp at h2
     subst h2
     refine ⟨.slice (if cap = 0 then b else b.map (·.add (0 * T.size el))) 0 cap, _, ?_, .lst0 _ _ _, hk⟩
     simp only [execOp, Sem.run_bind, hv, Instr.sliceAt, Instr.slice, run_underlying hun, Result.andThen_ok, Sem.run_pure, Option.map_none, hb, hsz]
     simp
 case sliceToArrayPointer t x =>
   have hx := he x
   generalize e x = y at h hx
   split at h <;> try (exact h.elim)
   . rename_i n el m cs ht
     obtain ⟨hn, h⟩ := onlyIf_inv h
     simp at hn
     rcases hx.lst_inv with ⟨blk, off, cap, vs, hv, h2, h3, h4, h5, h6⟩ | ⟨rfl, _⟩
     . exact ⟨.pointer (some ⟨blk, off, none⟩), _, by simp [execOp, hv, Instr.arrayAt, run_underlying (hT.arr t n el ht), show ¬ m < n by omega], by have := h6.ref (ρ := ρ) (off := 0) h2 h3 h4; simpa using this, h⟩
     . omega
   . rename_i n el m cs ht
     obtain ⟨hn, h⟩ := onlyIf_inv h
     simp at hn
     cases h with
     | mk h1 h =>
       simp [Ar.real] at h1
       rcases hx.lst_inv with ⟨blk, off, cap, vs, hv, h2, h3, h4, h5, h6⟩ | ⟨rfl, _⟩
       . exact ⟨.pointer (some ⟨blk, off, none⟩), _, by simp [execOp, hv, Instr.arrayAt, run_underlying (hT.arr t n el ht), show ¬ m < n by omega], by have := h6.ref (ρ := ρ) (off := 0) h2 h3 h4; simpa using this, h⟩
       . omega
   . rename_i n el id off m sz ht
     obtain ⟨hn, h⟩ := onlyIf_inv h
     simp at hn
     rcases hx.osl_inv with ⟨blk, cap, hv, h2, h3, h4⟩ | ⟨rfl, _⟩
     . exact ⟨.pointer (some ⟨blk, off, none⟩), _, by simp [execOp, hv, Instr.arrayAt, run_underlying (hT.arr t n el ht), show ¬ m < n by omega], .own _ _ _ h2, h⟩
     . omega
end
end Eng
