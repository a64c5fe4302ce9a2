/- The engine, part 2: what an operation makes. -/
import Derived.Test.YtlmlganfjnokiaaE1
namespace Eng
open Go

def onlyIf (c : Bool) (K : Unit → Prop) : Prop :=
  match c with
  | true => K ()
  | false => False

def simL (f : AVal → AVal → Prop) : List AVal → List AVal → Prop
  | [], [] => True
  | [x], [y] => f x y
  | x :: xs, y :: ys => f x y ∧ simL f xs ys
  | _, _ => False

/-- Whatever is told by the first is told by the second. The number bounds the depth. -/
def simD : Nat → AVal → AVal → Prop
  | 0, _, _ => False
  | d + 1, x, y => match x, y with
    | .i k n, .i k' m | .i k n, .s k' m | .s k n, .i k' m | .s k n, .s k' m => onlyIf (decide (k = k')) fun _ => n = m
    | .b s, .b t | .b s, .sb t | .sb s, .b t | .sb s, .sb t => s = t
    | .v (.slice none 0 0), .lst _ 0 [] => True
    | .v u, .v v => u = v
    | .agg xs, .agg ys => simL (simD d) xs ys
    | .tup xs, .tup ys => simL (simD d) xs ys
    | .lst true n cs, .lst true m ds => n = m ∧ cs = ds
    | .lst _ n cs, .lst _ m ds => n = m ∧ simL (simD d) cs ds
    | .ref cs o, .ref ds o' => o = o' ∧ simL (simD d) cs ds
    | .own i o, .own j o' => i = j ∧ o = o'
    | .osl _ i o n z, .osl _ j o' m z' => i = j ∧ o = o' ∧ n = m ∧ z = z'
    | .new _ n sz cs, .new _ m sz' ds => n = m ∧ sz = sz' ∧ simL (simD d) cs ds
    | .new .., _ => False
    | _, .any => True
    | .ifc t x, .ifc t' y => t = t' ∧ simD d x y
    | .fn f a c, .fn g b e => f = g ∧ simL (simD d) a b ∧ simL (simD d) c e
    | _, _ => False
def Sim : AVal → AVal → Prop := simD 12
def SimL : List AVal → List AVal → Prop := simL (simD 12)


/-- Likewise of memory, and of all that a walk knows. -/
def simB (b b' : Blk) : Prop :=
  onlyIf (b.live == b'.live && b.wr == b'.wr) fun _ => match b.live with
    | true => SimL b.cells b'.cells
    | false => b = b'
def SimH : List Blk → List Blk → Prop
  | [], [] => True
  | [b], [b'] => simB b b'
  | b :: h, b' :: h' => simB b b' ∧ SimH h h'
  | _, _ => False
/-- A block that nobody knows any more. -/
def isPad (b : Blk) : Bool := match b.live, b.wr, b.cells with
  | false, true, [] => true
  | _, _, _ => false
/-- Likewise, where a block may be forgotten. -/
def simK (b b' : Blk) : Prop := match b'.live with
  | true => onlyIf (b.live && (b.wr == b'.wr)) fun _ => SimL b.cells b'.cells
  | false => match b.live with
    | true => onlyIf (isPad b') fun _ => True
    | false => b = b'
def SimK : List Blk → List Blk → Prop
  | [], [] => True
  | [], b' :: h' => onlyIf (isPad b') fun _ => SimK [] h'
  | [b], [b'] => simK b b'
  | b :: h, b' :: h' => simK b b' ∧ SimK h h'
  | _ :: _, [] => False
def SimS (s s' : St) : Prop := SimL s.tmps s'.tmps ∧ SimK s.heap s'.heap

/-- What a walk knows of functions: contracts; contracts of those that write what they are handed; iterators; and, for an iterator's own walk, what it hands on. -/
structure SpecT where
  fn : FuncId → List AVal → AVal → Prop
  mu : FuncId → List Blk → List AVal → AVal → List Blk → Prop
  seq : FuncId → List AVal → Nat → (Nat → List AVal) → Prop
  l : Nat
  n : Nat
  xs : Nat → List AVal
  it : Bool

/-- Stops of a walk. -/
inductive ACall (Spec : SpecT) (f : FuncId) (args : List AVal) (K : AVal → Prop) : Prop where
  | mk (r : AVal) (h : Spec.fn f args r) (hk : K r)
inductive AMut (Spec : SpecT) (f : FuncId) (h : List Blk) (args : List AVal) (K : AVal → List Blk → Prop) : Prop where
  | mk (r : AVal) (h' : List Blk) (hs : Spec.mu f h args r h') (hk : K r h')
/-- How far an iterator has come. -/
def ghost (i : Nat) : List Blk := [⟨false, false, [.s .i64 i]⟩]
inductive AYield (Spec : SpecT) (l : Nat) (h : List Blk) (args : List AVal) (K : AVal → List Blk → Prop) : Prop where
  | mk (i : Nat) (hl : l = Spec.l) (hi : i < Spec.n) (hh : h = ghost i) (ha : args = Spec.xs i) (hk : K (.b true) (ghost (i + 1)))
/-- A range over an iterator. -/
inductive ARange (Spec : SpecT) (f : FuncId) (cap : List AVal) (k : Nat) (round : List AVal → List Blk → (List Blk → Prop) → Prop) (h : List Blk) (K : List Blk → Prop) : Prop where
  | mk (n : Nat) (xs : Nat → List AVal) (hs : Spec.seq f cap n xs) (hl : ∀ i, i < n → (xs i).length = k) (hp : Nat → List Blk) (h0 : SimH h (hp 0))
      (hr : ∀ i, i < n → round (xs i) (hp i) fun k => SimH k (hp (i + 1))) (hK : K (hp n))
inductive ABr (t : Bool) (p q : Unit → Prop) : Prop where
  | mk (hp : t = true → p ()) (hq : t = false → q ())
theorem ABr.t {t : Bool} {p q : Unit → Prop} (h : t = true) (hp : p ()) : ABr t p q := .mk (fun _ => hp) (fun e => by rw [h] at e; cases e)
theorem ABr.f {t : Bool} {p q : Unit → Prop} (h : t = false) (hq : q ()) : ABr t p q := .mk (fun e => by rw [h] at e; cases e) (fun _ => hq)
/-- A side condition on terms. -/
inductive Need (p : Bool) (k : Unit → Prop) : Prop where
  | mk (h : p = true) (hk : k ())
/-- An index by a term. -/
inductive AIdx (j : Int) (n : Nat) (K : Nat → Prop) : Prop where
  | mk (i : Nat) (h : j = i) (hi : i < n) (hk : K i)
/-- An element's cells in a row that is told by a term. -/
inductive ARow (cs : List AVal) (i sz : Nat) (K : List AVal → Prop) : Prop where
  | mk (ys : List AVal) (h : lsub cs (i * sz) sz = some ys) (hk : K ys)
inductive ALoop (body : St → (Exit → St → Prop) → Prop) (s : St) (K : Exit → St → Prop) : Prop where
  | inv {α : Type} (st : α → St) (P : α → Prop) (μ : α → Nat) (a0 : α) (hs : SimS s (st a0)) (h0 : P a0) (round : ∀ a, P a → body (st a) fun e s' => match e with
      | .normal => ∃ b, SimS s' (st b) ∧ P b ∧ μ b < μ a
      | e => K e s')

/-- 'some' goes on. -/
def optK {α : Type} (x : Option α) (K : α → Prop) : Prop :=
  match x with
  | some y => K y
  | none => False

section
variable (A : Ar) (T : Ty)

def part (t : TypeId) (cs : List AVal) (off : Nat) : Option AVal :=
  match T.und t with
  | .other => none
  | .arr _ _ => (lsub cs off (T.size t)).map .agg
  | .struct _ => (lsub cs off (T.size t)).map .agg
  | _ => lget cs off

def leavesA (f : AVal → AVal → Option (List (AVal × AVal))) (px py : Nat → Option AVal) : Nat → Nat → Option (List (AVal × AVal))
  | 0, _ => some []
  | n + 1, i => match px i, py i with
    | some a, some c => match f a c, leavesA f px py n (i + 1) with
      | some l, some l' => some (l ++ l')
      | _, _ => none
    | _, _ => none
def leavesS (f : TypeId → AVal → AVal → Option (List (AVal × AVal))) (px py : TypeId → Nat → Option AVal) : List (Nat × TypeId × String) → Option (List (AVal × AVal))
  | [] => some []
  | (off, t, name) :: fs => match name == "_" with
    | true => leavesS f px py fs
    | false => match px t off, py t off with
      | some a, some c => match f t a c, leavesS f px py fs with
        | some l, some l' => some (l ++ l')
        | _, _ => none
      | _, _ => none

/-- The leaves of two values that are compared. -/
def leaves : Nat → TypeId → AVal → AVal → Option (List (AVal × AVal))
  | 0, _, _, _ => none
  | d + 1, t, x, y =>
    match T.und t with
    | .int _ => match x, y with
      | .i k1 a, .i k2 c => if k1 = k2 then some [(.i k1 a, .i k2 c)] else none
      | .i k1 a, .s k2 c => if k1 = k2 then some [(.i k1 a, .s k2 c)] else none
      | .s k1 a, .i k2 c => if k1 = k2 then some [(.s k1 a, .i k2 c)] else none
      | .s k1 a, .s k2 c => if k1 = k2 then some [(.s k1 a, .s k2 c)] else none
      | _, _ => none
    | .bool => match x, y with
      | .b a, .b c => some [(.b a, .b c)]
      | .b a, .sb c => some [(.b a, .sb c)]
      | .sb a, .b c => some [(.sb a, .b c)]
      | .sb a, .sb c => some [(.sb a, .sb c)]
      | _, _ => none
    | .str => match x, y with
      | .v (.string a), .v (.string c) => some [(.v (.string a), .v (.string c))]
      | _, _ => none
    | .arr n e => match x, y with
      | .agg xs, .agg ys => match T.und e with
        | .other => none
        | _ => leavesA (leaves d e) (fun i => part T e xs (i * T.size e)) (fun i => part T e ys (i * T.size e)) n 0
      | _, _ => none
    | .struct fs => match x, y with
      | .agg xs, .agg ys => leavesS (leaves d) (part T · xs ·) (part T · ys ·) fs
      | _, _ => none
    | _ => none

def litLeaf : AVal × AVal → Bool
  | (.i .., .i ..) | (.b _, .b _) => true
  | _ => false
def allB (f : AVal × AVal → Bool) : List (AVal × AVal) → Bool
  | [] => true
  | x :: l => f x && allB f l

def eqOf (l : List (AVal × AVal)) : AVal :=
  match allB litLeaf l with
  | true => .b (allB leafEq l)
  | false => .sb (A.eqs l)
def neOf (l : List (AVal × AVal)) : AVal :=
  match allB litLeaf l with
  | true => .b (!(allB leafEq l))
  | false => .sb (A.not (A.eqs l))

/-- Pointers and such held against nil. -/
def nilEq : AVal → AVal → Option Bool
  | .v (.pointer none), .v (.pointer none) => some true
  | .v (.pointer none), .own .. | .own .., .v (.pointer none) | .v (.pointer none), .ref .. | .ref .., .v (.pointer none) => some false
  | _, _ => none

def notOther : UT → Bool
  | .other => false
  | _ => true
def isPtr : UT → Bool
  | .ptr _ => true
  | _ => false

def isI : AVal → Bool
  | .i .. | .s .. => true
  | _ => false

def aarith (op : BinOp) (x y : AVal) (K : AVal → Prop) : Prop :=
  match x, y with
  | .i k a, .i k' c => onlyIf (rokb op c && (isShift op || decide (k = k'))) fun _ => K (.i k (rbin op k a c))
  | .s k a, .i k' c => onlyIf (rokb op c && (isShift op || decide (k = k'))) fun _ => K (.s k (A.bin op k a c))
  | .i k a, .s k' c => onlyIf (isShift op || decide (k = k')) fun _ => match needsOk op with
    | true => Need (A.okb op c) fun _ => K (.s k (A.bin op k a c))
    | false => K (.s k (A.bin op k a c))
  | .s k a, .s k' c => onlyIf (isShift op || decide (k = k')) fun _ => match needsOk op with
    | true => Need (A.okb op c) fun _ => K (.s k (A.bin op k a c))
    | false => K (.s k (A.bin op k a c))
  | _, _ => False

def acmp (op : BinOp) (x y : AVal) (K : AVal → Prop) : Prop :=
  match x, y with
  | .i k a, .i k' c => onlyIf (decide (k = k')) fun _ => K (.b (rcmp op a c))
  | .s k a, .i k' c => onlyIf (decide (k = k')) fun _ => K (.sb (A.cmp op a c))
  | .i k a, .s k' c => onlyIf (decide (k = k')) fun _ => K (.sb (A.cmp op a c))
  | .s k a, .s k' c => onlyIf (decide (k = k')) fun _ => K (.sb (A.cmp op a c))
  | _, _ => False

/-- '==' of what is no number. -/
def aeql (t : TypeId) (x y : AVal) (K : (Bool → AVal) → Prop) : Prop :=
  match isPtr (T.und t) with
  | true => optK (nilEq x y) fun r => K fun ne => .b (match ne with | true => !r | false => r)
  | false => onlyIf (T.eqok t) fun _ => optK (leaves T 20 t x y) fun l => K fun ne => match ne with | true => neOf A l | false => eqOf A l

/-- A binary operation on values. -/
def abin (op : BinOp) (t : TypeId) (x y : AVal) (K : AVal → Prop) : Prop :=
  match isArith op with
  | true => aarith A op x y K
  | false => match isI x && isI y with
    | true => onlyIf (isCmp op) fun _ => acmp A op x y K
    | false => match op with
      | .eql => aeql A T t x y fun f => K (f false)
      | .neq => aeql A T t x y fun f => K (f true)
      | _ => False

def aun (op : UnOp) (x : AVal) (K : AVal → Prop) : Prop :=
  match op, x with
  | .not, .b t => K (.b !t)
  | .not, .sb t => K (.sb (A.not t))
  | .neg, .i k n => K (.i k (run1 .neg k n))
  | .neg, .s k n => K (.s k (A.un .neg k n))
  | .xor, .i k n => K (.i k (run1 .xor k n))
  | .xor, .s k n => K (.s k (A.un .xor k n))
  | _, _ => False

/-- An index against a length: goes on with what it adds to an offset. -/
def aidx (sym : Bool) (x : AVal) (n : Nat) (K : Nat → Prop) : Prop :=
  match x with
  | .i _ j => match sym with
    | false => onlyIf (decide (0 ≤ j) && decide (j.toNat < n)) fun _ => K j.toNat
    | true => AIdx j n K
  | .s _ j => AIdx j n K
  | _ => False

def buildable : UT → Bool
  | .arr _ el => notOther (T.und el)
  | .struct _ => true
  | _ => false

def subHi (hi : Option AVal) (n : Nat) : Option Nat :=
  match hi with
  | none => some n
  | some (.i _ h) => if 0 ≤ h ∧ h.toNat ≤ n then some h.toNat else none
  | _ => none
def subLo (lo : Option AVal) (h : Nat) : Option Nat :=
  match lo with
  | none => some 0
  | some (.i _ l) => if 0 ≤ l ∧ l.toNat ≤ h then some l.toNat else none
  | _ => none

/-- Pure operations. -/
def aopP (o : Oper) (e : Operand → AVal) (K : AVal → Prop) : Prop :=
  match o.op with
  | .move x => K (e x)
  | .assign x => K (e x)
  | .pick c a b => match e c with
    | .b t => K (match t with | true => e a | false => e b)
    | .sb t => ABr t (fun _ => K (e a)) (fun _ => K (e b))
    | _ => False
  | .binOp op t x y _ => abin A T op t (e x) (e y) K
  | .unOp op _ x => aun A op (e x) K
  | .convert src dst x => onlyIf (notOther (T.und src)) fun _ => match T.und dst, e x with
    | .int k, .i _ n => K (.i k (wrp k n))
    | .int k, .s _ n => K (.s k (A.wrap k n))
    | _, _ => False
  | .load t x => match e x with
    | .ref cs off => optK (part T t cs off) K
    | _ => False
  | .nilCheck x => match e x with
    | .own id off => K (.own id off)
    | .ref cs off => K (.ref cs off)
    | .ifc t y => K (.ifc t y)
    | _ => False
  | .extract x i => match e x with
    | .tup vs => optK (lget vs i) K
    | _ => False
  | .field t x f => match T.und t, e x with
    | .struct fs, .agg cs => match fs[f]? with
      | some (off, ft, _) => optK (part T ft cs off) K
      | none => False
    | _, _ => False
  | .index t x ix => match T.und t, e x with
    | .arr n el, .agg cs => aidx false (e ix) n fun i => optK (part T el cs (i * T.size el)) K
    | _, _ => False
  | .fieldAddr t x f => match T.und t with
    | .struct fs => match fs[f]? with
      | some (off, ft, _) => onlyIf (!(T.size ft == 0)) fun _ => match e x with
        | .own id o => K (.own id (o + off))
        | .ref cs o => K (.ref cs (o + off))
        | _ => False
      | none => False
    | _ => False
  | .indexAddr t x ix => match T.und t, e x with
    | .arr n el, .own id off => onlyIf (decide (2 ≤ n) && notOther (T.und el)) fun _ => aidx false (e ix) n fun i => K (.own id (off + i * T.size el))
    | .arr n el, .ref cs off => onlyIf (decide (2 ≤ n) && notOther (T.und el)) fun _ => aidx false (e ix) n fun i => K (.ref cs (off + i * T.size el))
    | .slice el, .lst m n cs => onlyIf (notOther (T.und el)) fun _ => aidx m (e ix) n fun i => match m with
      | false => K (.ref cs (i * T.size el))
      | true => ARow cs i (T.size el) fun ys => K (.ref ys 0)
    | .slice el, .osl m id off n sz => onlyIf (T.size el == sz && notOther (T.und el)) fun _ => aidx m (e ix) n fun i => K (.own id (off + i * sz))
    | _, _ => False
  | .makeInterface t x => match T.und t with
    | .iface _ => False
    | .other => False
    | _ => K (.ifc t (e x))
  | .typeAssert x _ t ok => match T.und t, e x with
    | .iface _, _ => False
    | .other, _ => False
    | _, .ifc t' y => match t' == t with
      | true => K (match ok with | true => .tup [y, .b true] | false => y)
      | false => match ok with
        | true => K (.tup [match isAgg (T.und t), mapV (T.zero t) with | true, z => .agg z | false, z => (lget z 0).getD (.tup []), .b false])
        | false => False
    | _, _ => False
  | .makeFunc f a c => K (.fn f (a.toList.map e) (c.toList.map e))
  | .build t parts => match buildable T (T.und t), fillP (T.und t) (partsOf e parts.toList) (mapV (T.zero t)) with
    | true, some cs => K (.agg cs)
    | _, _ => False
  | .sliceToArrayPointer t x => match T.und t, e x with
    | .arr n _, .lst false m cs => onlyIf (decide (n ≤ m) && decide (0 < n)) fun _ => K (.ref cs 0)
    | .arr n _, .lst true m cs => onlyIf (decide (0 < n)) fun _ => Need (A.inb (n : Int) (m + 1)) fun _ => K (.ref cs 0)
    | .arr n _, .osl false id off m _ => onlyIf (decide (n ≤ m) && decide (0 < n)) fun _ => K (.own id off)
    | _, _ => False
  | _ => False
where
  asub (lo hi : Option AVal) (n : Nat) (K : Nat → Nat → Prop) : Prop :=
    match subHi hi n with
    | none => False
    | some h => match subLo lo h with
      | none => False
      | some l => K l h
  partsOf (e : Operand → AVal) : List (Nat × Operand) → List (Nat × Option (List AVal))
    | [] => []
    | (i, x) :: l => (i, (e x).cells) :: partsOf e l
  placeOf (u : UT) (i : Nat) : Option (Nat × Nat) :=
    match u with
    | .struct fs => match fs[i]? with
      | some (off, ft, _) => match notOther (T.und ft) with
        | true => some (off, T.size ft)
        | false => none
      | none => none
    | .arr _ el => match notOther (T.und el) with
      | true => some (i * T.size el, T.size el)
      | false => none
    | _ => none
  fillP (u : UT) : List (Nat × Option (List AVal)) → List AVal → Option (List AVal)
    | [], cs => some cs
    | (_, none) :: _, _ => none
    | (i, some ys) :: rest, cs =>
      match placeOf u i with
      | none => none
      | some (off, sz) => match ys.length == sz, lput cs off ys with
        | true, some cs' => fillP u rest cs'
        | _, _ => none
end
end Eng
