/- The engine, part 3: operations on memory, regions, code. -/
import Derived.Test.YtlmlganfjnokiaaE2
namespace Eng
open Go

inductive Cl where
  | p | q | e | r
  deriving DecidableEq

/-- How a region is taken: new rows as one's own; calls' answers as trees, but allocations as one's own; all as trees; likewise as the second, with places kept for allocations, and with loads off trees by these slots. -/
inductive Md where
  | own | mid | all | res (l : List Tmp)
  deriving DecidableEq

/-- Which operations touch memory. -/
def cls (tree : Md) : Op → Cl
  | .load _ x => match tree, x with
    | .res l, .tmp t => match l.contains t with | true => .p | false => .q
    | _, _ => .q
  | .slice .. => .q
  | .call { callee := .builtin .len, .. } => .p
  | .call { callee := .builtin .copy, .. } => .e
  | .call _ => match tree with | .own => .e | _ => .q
  | .alloc _ => match tree with | .all => .q | .res _ => .r | _ => .e
  | .box .. | .buildSlice .. | .makeSlice .. => match tree with | .all => .q | _ => .e
  | .convert .. => .p
  | .store .. => .e
  | _ => .p

def depth : Nat := 12

section
variable (A : Ar) (T : Ty) (Spec : SpecT)

/-- The cells of a row that a slice tells, read off: whether by terms, how many, which. -/
def rowK (h : List Blk) (sz : Nat) (x : AVal) (K : Bool → Nat → List AVal → Prop) : Prop :=
  match x with
  | .v (.slice none 0 0) => K false 0 []
  | .lst m n cs => match m with
    | true => Need (A.rowend cs n sz) fun _ => K true n cs
    | false => onlyIf (cs.length == n * sz) fun _ => K false n cs
  | .osl false id off n _ => onlyIf (hget h id).live fun _ => optK (lsub (hget h id).cells off (n * sz)) fun cs => K false n cs
  | _ => False

def app : List AVal → List AVal → List AVal
  | [], ys => ys
  | x :: xs, ys => x :: app xs ys

def reps (n : Nat) (z : List AVal) : List AVal :=
  match n with
  | 0 => []
  | n + 1 => app z (reps n z)

/-- The second argument of an append is a row or a text. -/
def appOk (argTypes : Array TypeId) : Bool :=
  match argTypes.toList with
  | _ :: u :: _ => match T.und u with
    | .slice _ | .str => true
    | _ => false
  | _ => false

/-- So many elements find room. -/
def roomK (el : TypeId) (sym : Bool) (n : Nat) (K : Unit → Prop) : Prop :=
  match sym with
  | false => onlyIf (decide (n * T.bytes el ≤ 140737488355328)) K
  | true => Need (A.room n (T.bytes el)) K

/-- A call's target and arguments. -/
def callee (e : Operand → AVal) (c : Call) : Option (FuncId × List AVal) :=
  match c.callee with
  | .value f => match e f with
    | .fn (.func g) first cap => some (g, app first (app (c.args.toList.map e) cap))
    | _ => none
  | .invoke r name => match e r with
    | .ifc t x => (T.meth t name).map fun g => (g, x :: c.args.toList.map e)
    | _ => none
  | .builtin _ => none

def noNew1 : AVal → AVal
  | .new m n _ cs => .lst m n cs
  | x => x
def noNewL : List AVal → List AVal
  | [] => []
  | x :: l => noNew1 x :: noNewL l
def noNew : AVal → AVal
  | .tup vs => .tup (noNewL vs)
  | x => noNew1 x

/-- Behind a call: what was handed in and may be held by the answer is written no more. -/
def heldBy (h : List Blk) (args : List AVal) (r : AVal) : List Nat :=
  match r.flat with
  | true => []
  | false => idsL (ids h depth) args

def isApp : Callee → Bool
  | .builtin .append => true
  | _ => false

def appQ (args : Array Operand) (argTypes : Array TypeId) (e : Operand → AVal) (h : List Blk) (K : AVal → List Nat → Prop) : Prop :=
  match argTypes.toList, args.toList with
  | t :: _ :: _, [s, x] => match T.und t, e s with
    | .slice el, .v (.slice none 0 0) => onlyIf (notOther (T.und el) && appOk T argTypes && decide (1 ≤ T.bytes el)) fun _ => rowK A h (T.size el) (e x) fun m n ys => roomK A T el m n fun _ =>
        optK (snapL (snap h depth) ys) fun cs => K (.lst m n cs) (idsL (ids h depth) ys)
    | _, _ => False
  | _, _ => False

def appE (args : Array Operand) (argTypes : Array TypeId) (e : Operand → AVal) (h : List Blk) (K : AVal → List Blk → Prop) : Prop :=
  match argTypes.toList, args.toList with
  | t :: _ :: _, [s, x] => match T.und t with
    | .slice el => onlyIf (notOther (T.und el) && appOk T argTypes && decide (1 ≤ T.bytes el)) fun _ => rowK A h (T.size el) (e x) fun m k ys => match e s with
      | .v (.slice none 0 0) => roomK A T el m k fun _ => K (.osl m h.length 0 k (T.size el)) (h ++ [⟨true, true, ys⟩])
      | .osl false id 0 n sz => onlyIf ((hget h id).live && (hget h id).wr && (sz == T.size el) && ((hget h id).cells.length == n * sz) && !m && flatL AVal.one ys) fun _ =>
          roomK A T el false (4 * (n + k) + 1000) fun _ => K (.osl false h.length 0 (n + k) sz) (hset h id ⟨false, true, []⟩ ++ [⟨true, true, app (hget h id).cells ys⟩])
      | _ => False
    | _ => False
  | _, _ => False

def isCpy : Callee → Bool
  | .builtin .copy => true
  | _ => false

/-- copy into a row of one's own. -/
def cpyE (args : Array Operand) (argTypes : Array TypeId) (e : Operand → AVal) (h : List Blk) (K : AVal → List Blk → Prop) : Prop :=
  match argTypes.toList, args.toList with
  | t :: _ :: _, [d, x] => match T.und t, e d with
    | .slice el, .osl false id off n sz => onlyIf ((hget h id).live && (hget h id).wr && (sz == T.size el) && notOther (T.und el) && decide (1 ≤ n)) fun _ => rowK A h (T.size el) (e x) fun m k ys =>
        onlyIf (!m) fun _ => optK (lsub ys 0 (Nat.min k n * sz)) fun zs => onlyIf (flatL AVal.one zs) fun _ => optK (lput (hget h id).cells off zs) fun cs =>
          K (.i .i64 ((Nat.min k n : Nat) : Int)) (hset h id ⟨true, true, cs⟩)
    | _, _ => False
  | _, _ => False

/-- Reads; calls by their contracts, their answers as trees; new rows as trees. -/
def aopQ (o : Oper) (e : Operand → AVal) (h : List Blk) (K : AVal → List Nat → Prop) : Prop :=
  match o.op with
  | .load t x => match e x with
    | .own id off => onlyIf (hget h id).live fun _ => optK (part T t (hget h id).cells off) fun y => K y []
    | .ref cs off => optK (part T t cs off) fun y => K y []
    | _ => False
  | .slice t x lo hi mx => match mx, T.und t, e x with
    | none, .arr n el, .own id off => onlyIf (notOther (T.und el) && (hget h id).live && decide (off + n * T.size el ≤ (hget h id).cells.length)) fun _ =>
        aopP.asub (lo.map e) (hi.map e) n fun l r => K (.osl false id (off + l * T.size el) (r - l) (T.size el)) []
    | none, .arr n el, .ref cs off => onlyIf (notOther (T.und el)) fun _ => aopP.asub (lo.map e) (hi.map e) n fun l r =>
        optK (lsub cs (off + l * T.size el) ((r - l) * T.size el)) fun cs' => K (.lst false (r - l) cs') []
    | none, .slice el, .osl false id off n sz => onlyIf (notOther (T.und el) && (T.size el == sz)) fun _ => aopP.asub (lo.map e) (hi.map e) n fun l r => K (.osl false id (off + l * sz) (r - l) sz) []
    | none, .slice el, .lst false n cs => onlyIf (notOther (T.und el)) fun _ => aopP.asub (lo.map e) (hi.map e) n fun l r =>
        optK (lsub cs (l * T.size el) ((r - l) * T.size el)) fun cs' => K (.lst false (r - l) cs') []
    | _, _, _ => False
  | .alloc t => onlyIf (notOther (T.und t)) fun _ => K (.ref (mapV (T.zero t)) 0) []
  | .box _ x => optK (snap h depth (e x)) fun y => optK y.cells fun cs => K (.ref cs 0) (ids h depth (e x))
  | .buildSlice t n parts => match T.und t with
    | .slice el => onlyIf (notOther (T.und el) && decide (n * T.size el ≤ 16777216)) fun _ => optK (aopP.fillP T (.arr n el) (aopP.partsOf e parts.toList) (reps n (mapV (T.zero el)))) fun cs =>
        optK (snapL (snap h depth) cs) fun cs' => K (.lst false n cs') (idsL (ids h depth) cs)
    | _ => False
  | .makeSlice t l c => match T.und t, e l, e c with
    | .slice el, .i _ n, .i _ m => onlyIf (decide (0 ≤ n) && decide (n = m) && decide (n < 100000) && notOther (T.und el) && decide (T.bytes el < 100000)) fun _ => K (.lst false n.toNat (reps n.toNat (mapV (T.zero el)))) []
    | _, _, _ => False
  | .call c => match isApp c.callee with
    | true => appQ A T c.args c.argTypes e h K
    | false => match callee T e c with
      | some (f, args) => optK (snapL (snap h depth) args) fun args' => ACall Spec f args' fun r => K (noNew r) (heldBy h args r)
      | none => False
  | _ => False

/-- The answer's own new rows become one's own. -/
def adoptL (h : List Blk) : List AVal → List AVal × List Blk
  | [] => ([], h)
  | x :: vs => match x with
    | .new m n sz cs => ((.osl m h.length 0 n sz) :: (adoptL (h ++ [⟨true, true, cs⟩]) vs).1, (adoptL (h ++ [⟨true, true, cs⟩]) vs).2)
    | x => (x :: (adoptL h vs).1, (adoptL h vs).2)
def adopt (h : List Blk) : AVal → AVal × List Blk
  | .new m n sz cs => (.osl m h.length 0 n sz, h ++ [⟨true, true, cs⟩])
  | .tup vs => (.tup (adoptL h vs).1, (adoptL h vs).2)
  | x => (x, h)

/-- Operations that write or make memory. -/
def aopE (o : Oper) (e : Operand → AVal) (h : List Blk) (K : AVal → List Blk → Prop) : Prop :=
  match o.op with
  | .store t x y => match e x with
    | .own id off => optK (e y).cells fun ys => onlyIf ((hget h id).live && (hget h id).wr && (ys.length == T.size t) && flatL AVal.one ys && notOther (T.und t)) fun _ =>
        optK (lput (hget h id).cells off ys) fun cs => K (.tup []) (hset h id ⟨true, true, cs⟩)
    | _ => False
  | .alloc t => onlyIf (notOther (T.und t)) fun _ => K (.own h.length 0) (h ++ [⟨true, true, mapV (T.zero t)⟩])
  | .box _ x => optK (e x).cells fun cs => K (.own h.length 0) (h ++ [⟨true, true, cs⟩])
  | .buildSlice t n parts => match T.und t with
    | .slice el => onlyIf (notOther (T.und el) && decide (n * T.size el ≤ 16777216)) fun _ => optK (aopP.fillP T (.arr n el) (aopP.partsOf e parts.toList) (reps n (mapV (T.zero el)))) fun cs =>
        K (.osl false h.length 0 n (T.size el)) (h ++ [⟨true, true, cs⟩])
    | _ => False
  | .makeSlice t l c => match T.und t, e l, e c with
    | .slice el, .i _ n, .i _ m => onlyIf (decide (0 ≤ n) && decide (n = m) && decide (n < 100000) && notOther (T.und el) && decide (T.bytes el < 100000)) fun _ =>
        K (.osl false h.length 0 n.toNat (T.size el)) (h ++ [⟨true, true, reps n.toNat (mapV (T.zero el))⟩])
    | _, _, _ => False
  | .call c => match isApp c.callee with
    | true => appE A T c.args c.argTypes e h K
    | false => match isCpy c.callee with
      | true => cpyE A T c.args c.argTypes e h K
      | false => match callee T e c with
        | some (f, args) => match T.mu f with
          | true => AMut Spec f h args K
          | false => optK (snapL (snap h depth) args) fun args' => ACall Spec f args' fun r =>
            K (adopt (freeze h (heldBy h args r)) r).1 (adopt (freeze h (heldBy h args r)) r).2
        | none => False
  | _ => False

/-- len. -/
def alen (c : Call) (e : Operand → AVal) (K : AVal → Prop) : Prop :=
  match c.argTypes[0]?, c.args[0]? with
  | some t, some x => match T.und t, e x with
    | .arr n _, _ => K (.i .i64 n)
    | .slice _, .v (.slice none 0 _) => K (.i .i64 0)
    | .slice _, .lst m n _ => K (match m with | true => .s .i64 (A.len n) | false => .i .i64 n)
    | .slice _, .osl m _ _ n _ => K (match m with | true => .s .i64 (A.len n) | false => .i .i64 n)
    | .str, .v (.string s) => K (.s .i64 (A.len s.size))
    | _, _ => False
  | _, _ => False

/-- A call of what an iterator was handed. -/
def yieldOf (e : Operand → AVal) (o : Op) : Option (Nat × List AVal) :=
  match o with
  | .call c => match c.callee with
    | .value g => match e g with
      | .v (.func (.yield l) a b) => match a.toList, b.toList with
        | [], [] => some (l, c.args.toList.map e)
        | _, _ => none
      | _ => none
    | _ => none
  | _ => none

/-- A place that is kept for a block. -/
def mark (d : Nat) : Blk := ⟨false, true, [.i .i64 d]⟩
def isMark (b : Blk) (d : Nat) : Bool :=
  match b.live, b.wr, b.cells with
  | false, true, [.i .i64 x] => x == (d : Int)
  | _, _, _ => false
def findRes : List Blk → Nat → Nat → Option Nat
  | [], _, _ => none
  | b :: h, d, i => match isMark b d with
    | true => some i
    | false => findRes h d (i + 1)
def marksOf : List Oper → List Blk
  | [] => []
  | o :: l => match o.op, o.dst with
    | .alloc _, some d => mark d :: marksOf l
    | _, _ => marksOf l
def reserve (m : Md) (ops : List Oper) (s : St) : St :=
  match m with
  | .res _ => ⟨s.tmps, s.heap ++ marksOf ops⟩
  | _ => s

/-- An allocation at the place that is kept for it. -/
def aopR (o : Oper) (h : List Blk) (K : AVal → List Blk → Prop) : Prop :=
  match o.op, o.dst with
  | .alloc t, some d => onlyIf (notOther (T.und t)) fun _ => optK (findRes h d 0) fun id => K (.own id 0) (hset h id ⟨true, true, mapV (T.zero t)⟩)
  | _, _ => False

def aop (tree : Md) (o : Oper) (s : St) (K : AVal → List Blk → Prop) : Prop :=
  match cls tree o.op with
  | .p => match o.op with
    | .call c => alen A T c (ev s) fun v => K v s.heap
    | _ => aopP A T o (ev s) fun v => K v s.heap
  | .q => aopQ A T Spec o (ev s) s.heap fun v l => K v (freeze s.heap l)
  | .e => match yieldOf (ev s) o.op with
    | some (l, args) => optK (snapL (snap s.heap depth) args) fun args' => AYield Spec l s.heap args' K
    | none => aopE A T Spec o (ev s) s.heap K
  | .r => aopR T o s.heap K

def dstOf (ops : List Oper) (j : Nat) : Option Tmp :=
  match ops, j with
  | [], _ => none
  | o :: _, 0 => o.dst
  | _ :: os, j + 1 => dstOf os j

/-- One operation, its guard asked. -/
def astep (tree : Md) (all : List Oper) (o : Oper) (s : St) (K : St → Prop) : Prop :=
  match o.guard with
  | none => aop A T Spec tree o s fun v h => K (put ⟨s.tmps, h⟩ o.dst v)
  | some (j, want) => match dstOf all j with
    | none => False
    | some d => match lget s.tmps d with
      | some (.b t) => match t == want with
        | true => aop A T Spec tree o s fun v h => K (put ⟨s.tmps, h⟩ o.dst v)
        | false => K (put s o.dst (.tup []))
      | some (.sb t) => match want with
        | true => ABr t (fun _ => aop A T Spec tree o s fun v h => K (put ⟨s.tmps, h⟩ o.dst v)) (fun _ => K (put s o.dst (.tup [])))
        | false => ABr t (fun _ => K (put s o.dst (.tup []))) (fun _ => aop A T Spec tree o s fun v h => K (put ⟨s.tmps, h⟩ o.dst v))
      | some (.tup []) => K (put s o.dst (.tup []))
      | _ => False

def aops (tree : Md) (all : List Oper) : List Oper → St → (St → Prop) → Prop
  | [], s, K => K s
  | o :: os, s, K => astep A T Spec tree all o s fun s' => aops tree all os s' K

def isAlloc : Op → Bool
  | .alloc _ => true
  | _ => false

/-- Two operations whose order is open, and that may go in either. -/
def indep (tree : Md) (ops : Array Oper) (x y : Oper) : Bool :=
  x.apart ops y && y.apart ops x && (match cls tree x.op, cls tree y.op with
    | .p, _ | _, .p | .q, .q | .q, .r | .r, .r => true
    | .q, .e => isAlloc y.op
    | _, _ => false)

/-- j is bound to go ahead of i. -/
def anc (ops : Array Oper) : Nat → Nat → Nat → Bool
  | 0, _, _ => false
  | d + 1, i, j => match ops[i]? with
    | none => false
    | some o => o.after.toList.any fun e => Region.binds .any e && (e.on == j || anc ops d e.on j)

def okDraw (tree : Md) (ops : Array Oper) : Bool :=
  let l := ops.toList.zipIdx
  l.all fun y => (y.1.after.toList.all fun e => !Region.binds .any e || decide (e.on < y.2)) && l.all fun x => !(decide (x.2 < y.2)) || indep tree ops x.1 y.1 || anc ops 3 y.2 x.2

def noRange : Code → Bool
  | .seq a b => noRange a && noRange b
  | .cond _ a b => noRange a && noRange b
  | .block _ c => noRange c
  | .loop c => noRange c
  | .rangeFunc .. => false
  | .scope c => noRange c
  | _ => true

/-- Each region whose order is open may go in its text's order. -/
def codeOK (tr : Nat → Md) : Code → Bool
  | .region r ops draw => !draw || okDraw (tr r) ops
  | .seq a b => codeOK tr a && codeOK tr b
  | .cond _ a b => codeOK tr a && codeOK tr b
  | .block _ c => codeOK tr c
  | .loop c => codeOK tr c
  | .rangeFunc _ _ a b => codeOK tr a && codeOK tr b && noRange a && noRange b
  | .scope c => codeOK tr c
  | _ => true

/-- A loop, opened so many times; then it waits for an invariant. -/
def loopN (body : St → (Exit → St → Prop) → Prop) : Nat → St → (Exit → St → Prop) → Prop
  | 0, s, K => ALoop body s K
  | n + 1, s, K => body s fun e s' => match e with
    | .normal => loopN body n s' K
    | e => K e s'

def psets : List AVal → List Tmp → List AVal → List AVal
  | tm, p :: ps, u :: us => psets (lset tm p u) ps us
  | tm, _, _ => tm

variable (N : Nat → Nat)   -- how often a loop (by its block) is opened
variable (tr : Nat → Md)   -- in which regions new rows are trees

def acode (id : Nat) : Code → St → (Exit → St → Prop) → Prop
  | .skip, s, K => K .normal s
  | .region r ops _, s, K => aops A T Spec (tr r) ops.toList ops.toList (reserve (tr r) ops.toList s) (K .normal)
  | .seq a b, s, K => acode id a s fun e s' => match e with
    | .normal => acode id b s' K
    | e => K e s'
  | .cond c a b, s, K => match ev s c with
    | .b true => acode id a s K
    | .b false => acode id b s K
    | .sb t => ABr t (fun _ => acode id a s K) (fun _ => acode id b s K)
    | _ => False
  | .block i c, s, K => acode i c s fun e s' => match e with
    | .exit j => match j == i with
      | true => K .normal s'
      | false => K (.exit j) s'
    | e => K e s'
  | .loop c, s, K => loopN (fun s K => acode id c s K) (N id) s K
  | .rangeFunc g ps asg body, s, K => match ev s g with
    | .fn (.func gf) [] cap => optK (snapL (snap s.heap depth) cap) fun cap' => ARange Spec gf cap' ps.toList.length (fun us h Kr =>
        acode id asg ⟨psets s.tmps ps.toList us, h⟩ fun e s1 => match e with
          | .normal => acode id body s1 fun e s2 => match e with
            | .normal => Kr s2.heap
            | _ => False
          | _ => False) (freeze s.heap (idsL (ids s.heap depth) cap)) fun h => K .normal ⟨s.tmps, h⟩
    | _ => False
  | .exit j, s, K => K (.exit j) s
  | .ret, s, K => K .ret s
  | _, _, _ => False

/-- What a function answers, off its slots. -/
def ares (rs : List ResultVar) (s : St) : Option (List AVal) :=
  match rs with
  | [] => some []
  | .tmp t :: rs => match lget s.tmps t, ares rs s with
    | some x, some l => some (x :: l)
    | _, _ => none
  | .cell a t :: rs => match lget s.tmps a, ares rs s with
    | some (.own id off), some l => match (hget s.heap id).live with
      | true => (part T t (hget s.heap id).cells off).map (· :: l)
      | false => none
    | _, _ => none

def undefs : Nat → List AVal
  | 0 => []
  | n + 1 => .tup [] :: undefs n

def countId (i : Nat) : List Nat → Nat
  | [] => 0
  | j :: l => (match j == i with | true => 1 | false => 0) + countId i l

/-- An own row is handed over as new. -/
def outOf (h : List Blk) (x : AVal) : Option AVal :=
  match x with
  | .osl m id 0 n sz => match (hget h id).live && (hget h id).wr && ((hget h id).cells.length == n * sz) && (countId id (idsL (ids h depth) (hget h id).cells) == 0) with
    | true => (snapL (snap h depth) (hget h id).cells).map (.new m n sz)
    | false => snap h depth x
  | x => snap h depth x

def countNF : List AVal → Nat
  | [] => 0
  | x :: l => (match x.flat with | true => 0 | false => 1) + countNF l

def outF (h : List Blk) : List AVal → Option (List AVal)
  | [] => some []
  | x :: l => match (match x.flat with | true => some x | false => outOf h x), outF h l with
    | some y, some ys => some (y :: ys)
    | _, _ => none

/-- What is handed out: a single row of one's own as new, all else as trees. -/
def outL (h : List Blk) (l : List AVal) : Option (List AVal) :=
  match countNF l with
  | 1 => outF h l
  | _ => snapL (snap h depth) l

def one : List AVal → AVal
  | [x] => x
  | l => .tup l

/-- A function's body, from its arguments to its answer. -/
def afun (ntmps : Nat) (rs : Array ResultVar) (c : Code) (args : List AVal) (K : AVal → Prop) : Prop :=
  acode A T Spec N tr 0 c ⟨app args (undefs (ntmps - args.length)), []⟩ fun e s =>
    match e with
    | .normal | .ret => optK (ares T rs.toList s) fun l => optK (outL s.heap l) fun l => K (one l)
    | _ => False

/-- Likewise where what is handed in may be written. -/
def afunM (ntmps : Nat) (rs : Array ResultVar) (c : Code) (h : List Blk) (args : List AVal) (K : AVal → List Blk → Prop) : Prop :=
  acode A T Spec N tr 0 c ⟨app args (undefs (ntmps - args.length)), h⟩ fun e s =>
    match e with
    | .normal | .ret => optK (ares T rs.toList s) fun l => K (one l) s.heap
    | _ => False

/-- An iterator's body: it has handed on all. -/
def afunI (ntmps : Nat) (rs : Array ResultVar) (c : Code) (l : Nat) (cap : List AVal) (K : List Blk → Prop) : Prop :=
  acode A T Spec N tr 0 c ⟨app (.v (.func (.yield l) #[] #[]) :: cap) (undefs (ntmps - (cap.length + 1))), ghost 0⟩ fun e s =>
    match e with
    | .normal | .ret => optK (ares T rs.toList s) fun _ => K s.heap
    | _ => False
end
end Eng
