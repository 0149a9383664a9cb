/- Part 0 of the ground under the rows: The pure machine: values, memory, resolved code, and its run with a number of rounds. -/
import GoSem.Dispatch
set_option linter.unusedSimpArgs false
set_option linter.unusedVariables false
-- VmA: The pure machine: values, memory, resolved code, and its run with a number of rounds.
namespace Go.Vm
open Go

/-- What the pure machine calculates with. -/
inductive V where
  | undef
  | bool (b : Bool)
  | int (k : IntKind) (n : Int)
  | str (s : List UInt8)
  | nilp
  /-- an address in memory: object r, cell o -/
  | ptr (r o : Nat)
  /-- an address in something that never changes -/
  | ep (x : V) (o : Nat)
  /-- a slice that never changes: is it nil, cells of an element, elements -/
  | sl (nl : Bool) (sz : Nat) (xs : List V)
  /-- the first n elements of the growing row k -/
  | gs (k n : Nat)
  | fn (f : FuncId) (first cap : List V)
  | nilf
  | ifc (t : TypeId) (v : V)
  | nili
  | agg (cs : List V)
  | tup (vs : List V)
  | nilm
  | mp (ks vs : List V)
  | gm (k : Nat)
  deriving Inhabited

inductive O where
  | cells (cs : List V)
  /-- a row that grows: cells of an element, was it born nil, its elements -/
  | buf (sz : Nat) (born : Bool) (xs : List V)
  | mapo (ks vs : List V)
  /-- a walk over a string -/
  | iter (s : List UInt8) (pos : Nat)
  deriving Inhabited

/-- Objects, the newest first; an object's number is how many are older. -/
abbrev Mem := List O

def look {α : Type} : List α → Nat → Option α
  | [], _ => none
  | o :: m, r => if r = m.length then some o else look m r

def upd {α : Type} : List α → Nat → α → List α
  | [], _, _ => []
  | x :: m, r, o => if r = m.length then o :: m else x :: upd m r o

def dropTo {α : Type} (L : Nat) : List α → List α
  | [] => []
  | o :: m => if m.length < L then o :: m else dropTo L m

def V.cells : V → List V
  | .agg cs => cs
  | v => [v]

/-- A value that is told, of so many cells. -/
def V.fits (n : Nat) : V → Bool
  | .undef => false
  | .tup _ => false
  | .agg cs => cs.length == n
  | _ => n == 1

mutual
/-- All objects that a value leads to are older than object b. -/
def V.under (b : Nat) : V → Bool
  | .ptr r _ => decide (r < b)
  | .gs k _ => decide (k < b)
  | .gm k => decide (k < b)
  | .fn _ first cap => V.underL b first && V.underL b cap
  | .ifc _ v => v.under b
  | .agg cs => V.underL b cs
  | .tup vs => V.underL b vs
  | _ => true
def V.underL (b : Nat) : List V → Bool
  | [] => true
  | v :: l => v.under b && V.underL b l
end

def O.under (b : Nat) : O → Bool
  | .cells cs => V.underL b cs
  | .buf _ _ _ => true
  | .mapo _ _ => true
  | .iter _ _ => true

/-- The objects from b up to L lead to none from L on. -/
def objsOK (b L : Nat) : Mem → Bool
  | [] => true
  | o :: m => if m.length < b then true else (decide (L ≤ m.length) || o.under L) && objsOK b L m

mutual
/-- A value as others see it: growing rows as what they are now. -/
def V.shut (m : Mem) : V → Option V
  | .gs k n => match look m k with
    | some (.buf sz born xs) => some (.sl (born && n == 0) sz (xs.take n))
    | _ => none
  | .gm k => match look m k with
    | some (.mapo ks vs) => some (.mp ks vs)
    | _ => none
  | .agg cs => (V.sealL m cs).map .agg
  | .tup vs => (V.sealL m vs).map .tup
  | .ifc t v => (v.shut m).map (.ifc t)
  | v => some v
def V.sealL (m : Mem) : List V → Option (List V)
  | [] => some []
  | v :: l => (v.shut m).bind fun v' => (V.sealL m l).map fun l' => v' :: l'
end

/-- How values of a type are compared. -/
inductive ETy where
  | bool
  | int
  | str
  | st (fs : List (Nat × Option Nat × ETy))
  deriving Inhabited

inductive Opd where
  /-- a variable -/
  | v (i : Nat)
  /-- what the operation so many places back has yielded -/
  | l (d : Nat)
  | c (x : V)
  deriving Inhabited

/-- Of what nil is asked. -/
inductive NK where
  | slice
  | func
  | ptr
  deriving Inhabited

inductive VOp where
  | mov (x : Opd)
  | nilck (x : Opd)
  | pick (c a b : Opd)
  | build (zero : List V) (parts : List (Nat × Nat × Opd))
  | bin (op : BinOp) (x y : Opd)
  /-- '==' and '!=' of other values -/
  | eqs (t : ETy) (neg : Bool) (x y : Opd)
  /-- a slice (a function, a map, a pointer) against nil; or not -/
  | eqnil (k : NK) (x : Opd) (neg : Bool)
  | not (x : Opd)
  | neg (x : Opd)
  | conv (k : IntKind) (x : Opd)
  | toStr (s : Bool) (x : Opd)
  | chr (x : Opd)
  | range (x : Opd)
  | next (x : Opd)
  | toBytes (x : Opd)
  | mkifc (t : TypeId) (x : Opd)
  | mkfn (f : FuncId) (first cap : List Opd)
  | faddr (off : Nat) (x : Opd)
  | field (off : Nat) (sz : Option Nat) (x : Opd)
  | iaddr (sz : Nat) (x i : Opd)
  | idxs (x i : Opd)
  | idxa (n : Nat) (esz : Nat) (agg : Bool) (x i : Opd)
  | ext (x : Opd) (i : Nat)
  | slice (s : Option Nat) (x : Opd) (lo hi mx : Option Opd)
  | len (s : Bool) (x : Opd)
  | min (x y : Opd)
  | max (x y : Opd)
  | tassert (t : TypeId) (zero : V) (x : Opd)
  | mksl (sz : Nat) (xs : List Opd)
  | mkslice (sz : Nat) (bytes : Nat) (zero : V) (len cap : Opd)
  | load (sz : Option Nat) (a : Opd)
  | store (n : Nat) (a x : Opd)
  | alloc (zero : List V) (bufs : List (Nat × Nat))
  | box (x : Opd) (bufs : List (Nat × Nat))
  | nilbuf (sz : Nat)
  | mkbuf (sz : Nat) (xs : List Opd)
  | app (sz : Nat) (bytes : Nat) (x y : Opd)
  | call (f : FuncId) (args : List Opd)
  | callv (f : Opd) (args : List Opd)
  /-- a call whose first argument is a row that grows (cells of an element), and goes on growing -/
  | callg (sz : Nat) (f : FuncId) (args : List Opd)
  | panic (x : Opd)
  deriving Inhabited

structure VOper where
  dst : Option Nat := none
  op : VOp
  guard : Option (Nat × Bool) := none
  deriving Inhabited

/-- What a region whose order is open must meet: reads and effects of which neither waits for the other; what each operation waits for. -/
structure DI where
  pairs : List (Nat × Nat)
  pre : List Nat
  deriving Inhabited

inductive VC where
  | skip
  | reg (ops : List VOper)
  | draw (ops : List VOper) (d : DI)
  | seq (a b : VC)
  | cond (c : Opd) (a b : VC)
  | block (id : Nat) (c : VC)
  | loop (kill : List Nat) (c : VC)
  | exit (id : Nat)
  | ret
  deriving Inhabited

inductive VRes where
  | v (i : Nat)
  /-- a row that grows, of the caller's -/
  | g (i : Nat)
  | cell (i : Nat) (sz : Option Nat)
  deriving Inhabited

structure VFun where
  slots : List Nat
  params : Nat
  body : VC
  res : List VRes
  deriving Inhabited

def opd (ov vars : List V) : Opd → V
  | .v i => vars.getD i .undef
  | .l d => ov.getD d .undef
  | .c x => x

def opds (ov vars : List V) (l : List Opd) : List V := l.map (opd ov vars)

/-- Cells of something put over others. -/
def fill (cells : List V) : List (Nat × Nat × V) → Option (List V)
  | [] => some cells
  | (off, sz, v) :: r =>
    if v.fits sz = true ∧ off + sz ≤ cells.length then fill (cells.take off ++ v.cells ++ cells.drop (off + sz)) r else none

/-- A part of cells. -/
def part (cs : List V) (off : Nat) : Option Nat → Option V
  | none => cs[off]?
  | some n => if off + n ≤ cs.length then some (.agg ((cs.drop off).take n)) else none

def bytesLess : List UInt8 → List UInt8 → Bool := Op.bytesLess

mutual
/-- '==' of two values of a type. -/
def eqv : ETy → V → V → Option Bool
  | .bool, .bool a, .bool b => some (a == b)
  | .int, .int k a, .int k' b => if k = k' then some (a == b) else none
  | .str, .str a, .str b => some (a == b)
  | .st fs, .agg a, .agg b => eqvL fs a b
  | _, _, _ => none
def eqvL : List (Nat × Option Nat × ETy) → List V → List V → Option Bool
  | [], _, _ => some true
  | (off, n, t) :: r, a, b =>
    (part a off n).bind fun x => (part b off n).bind fun y => (eqv t x y).bind fun z => (eqvL r a b).map fun zs => z && zs
end

def intBits (op : BinOp) (k : IntKind) (x y : Int) : Option Int :=
  let a := BitVec.ofInt k.bits x
  let b := BitVec.ofInt k.bits y
  match op with
  | .and => some (k.wrap (a &&& b).toNat)
  | .or => some (k.wrap (a ||| b).toNat)
  | .xor => some (k.wrap (a ^^^ b).toNat)
  | .andNot => some (k.wrap (a &&& ~~~b).toNat)
  | _ => none

def binInt (op : BinOp) (k : IntKind) (x y : Int) : Option V :=
  match op with
  | .add => some (.int k (k.wrap (x + y)))
  | .sub => some (.int k (k.wrap (x - y)))
  | .mul => some (.int k (k.wrap (x * y)))
  | .quo => if y = 0 then none else some (.int k (k.wrap (x.tdiv y)))
  | .rem => if y = 0 then none else some (.int k (x.tmod y))
  | .eql => some (.bool (x == y))
  | .neq => some (.bool (x != y))
  | .lss => some (.bool (decide (x < y)))
  | .leq => some (.bool (decide (x ≤ y)))
  | .gtr => some (.bool (decide (x > y)))
  | .geq => some (.bool (decide (x ≥ y)))
  | .shl | .shr => none
  | op => (intBits op k x y).map (.int k)

def binStr (op : BinOp) (x y : List UInt8) : Option V :=
  match op with
  | .add => if ((x.length + y.length : Nat) : Int) > IntKind.i64.max then none else some (.str (x ++ y))
  | .eql => some (.bool (x == y))
  | .neq => some (.bool !(x == y))
  | .lss => some (.bool (bytesLess x y))
  | .leq => some (.bool (bytesLess x y || (x == y)))
  | .gtr => some (.bool !(bytesLess x y || (x == y)))
  | .geq => some (.bool !(bytesLess x y))
  | _ => none

def binV (op : BinOp) (x y : V) : Option V :=
  match op, x, y with
  | .shl, .int k a, .int _ b => if b < 0 then none else some (.int k (k.wrap (a * 2 ^ (Nat.min b.toNat k.bits))))
  | .shr, .int k a, .int _ b => if b < 0 then none else some (.int k (a.fdiv (2 ^ (Nat.min b.toNat k.bits))))
  | op, .int k a, .int k' b => if k = k' then binInt op k a b else none
  | op, .str a, .str b => binStr op a b
  | _, _, _ => none

def bounds (n : Nat) (lo hi : Option V) : Option (Nat × Nat) :=
  let h := match hi with
    | none => some n
    | some (.int _ i) => if 0 ≤ i ∧ i ≤ n then some i.toNat else none
    | some _ => none
  h.bind fun h =>
    match lo with
    | none => some (0, h)
    | some (.int _ i) => if 0 ≤ i ∧ i ≤ h then some (i.toNat, h) else none
    | some _ => none

def sliceV (z : Option Nat) (x : V) (lo hi : Option V) : Option V :=
  match z, x with
  | none, .str s => (bounds s.length lo hi).map fun (l, h) => .str ((s.take h).drop l)
  | some z, .sl nl sz xs => if z = sz ∨ nl = true then (bounds xs.length lo hi).map fun (l, h) => .sl nl sz ((xs.take h).drop l) else none
  | _, _ => none

/-- A third index is the second one. -/
def okMax (hi mx : Option V) : Bool :=
  match mx with
  | none => true
  | some (.int _ a) => match hi with
    | some (.int _ b) => a == b
    | _ => false
  | some _ => false

def bytesV (s : List UInt8) : List V := s.map fun b => .int .u8 b.toNat

/-- A string out of bytes. -/
def strOf : List V → Option (List UInt8)
  | [] => some []
  | .int .u8 n :: r => (strOf r).map fun l => UInt8.ofNat n.toNat :: l
  | _ => none

/-- Operations that neither read nor write memory. -/
def pureOp (e : Opd → V) : VOp → Option V
  | .mov x => some (e x)
  | .nilck x => match e x with
    | .ptr r o => some (.ptr r o)
    | .ep y o => some (.ep y o)
    | .fn f a b => some (.fn f a b)
    | _ => none
  | .pick c a b => match e c with
    | .bool t => some (if t then e a else e b)
    | _ => none
  | .build zero parts => (fill zero (parts.map fun (i, n, x) => (i, n, e x))).map .agg
  | .bin op x y => binV op (e x) (e y)
  | .eqs t neg x y => (eqv t (e x) (e y)).map fun z => .bool (z != neg)
  | .eqnil k x neg => match k, e x with
    | .slice, .sl nl _ _ => some (.bool (nl != neg))
    | .func, .nilf => some (.bool !neg)
    | .func, .fn _ _ _ => some (.bool neg)
    | .ptr, .nilp => some (.bool !neg)
    | .ptr, .ptr _ _ => some (.bool neg)
    | _, _ => none
  | .not x => match e x with
    | .bool b => some (.bool !b)
    | _ => none
  | .neg x => match e x with
    | .int k n => some (.int k (k.wrap (0 - n)))
    | _ => none
  | .conv k x => match e x with
    | .int _ n => some (.int k (k.wrap n))
    | _ => none
  | .toStr s x => match s, e x with
    | true, .str s => some (.str s)
    | false, .sl _ _ xs => (strOf xs).map .str
    | _, _ => none
  | .chr x => match e x with
    | .int _ n => some (.str (Utf8.encode n).data.toList)
    | _ => none
  | .toBytes x => match e x with
    | .str s => if s.length ≤ 140737488355328 then some (.sl false 1 (bytesV s)) else none
    | _ => none
  | .mkifc t x => some (.ifc t (e x))
  | .mkfn f first cap => some (.fn f (first.map e) (cap.map e))
  | .faddr off x => match e x with
    | .ptr r o => some (.ptr r (o + off))
    | .ep y o => some (.ep y (o + off))
    | _ => none
  | .field off sz x => match e x with
    | .agg cs => part cs off sz
    | _ => none
  | .iaddr sz x i => match e x, e i with
    | .sl _ sz' xs, .int _ n => if sz = sz' ∧ 0 ≤ n then (xs[n.toNat]?).map fun y => .ep y 0 else none
    | _, _ => none
  | .idxs x i => match e x, e i with
    | .str s, .int _ n => if 0 ≤ n then (s[n.toNat]?).map fun b => .int .u8 b.toNat else none
    | _, _ => none
  | .idxa n esz ag x i => match e x, e i with
    | .agg cs, .int _ k => if 0 ≤ k ∧ k < n then part cs (k.toNat * esz) (if ag then some esz else none) else none
    | _, _ => none
  | .ext x i => match e x with
    | .tup vs => vs[i]?
    | _ => none
  | .slice z x lo hi mx => if okMax (hi.map e) (mx.map e) then sliceV z (e x) (lo.map e) (hi.map e) else none
  | .len s x => match s, e x with
    | true, .str s => some (.int .i64 s.length)
    | false, .sl _ _ xs => some (.int .i64 xs.length)
    | false, .gs _ n => some (.int .i64 n)
    | _, _ => none
  | .min x y => match e x, e y with
    | .int k a, .int k' b => if k = k' then some (.int k (if b < a then b else a)) else none
    | _, _ => none
  | .max x y => match e x, e y with
    | .int k a, .int k' b => if k = k' then some (.int k (if b > a then b else a)) else none
    | _, _ => none
  | .tassert t zero x => match e x with
    | .nili => some (.tup [zero, .bool false])
    | .ifc u v => if u = t then some (.tup [v, .bool true]) else some (.tup [zero, .bool false])
    | _ => none
  | .mksl sz xs => if V.underL 0 (xs.map e) && (xs.map e).all (V.fits sz) && decide (xs.length * sz ≤ 16777216) then some (.sl false sz (xs.map e)) else none
  | .mkslice sz bytes zero l c => match e l, e c with
    | .int _ n, .int _ m => if n = m ∧ 0 ≤ n ∧ n ≤ 140737488355328 ∧ n * bytes ≤ 140737488355328 ∧ zero.fits sz = true ∧ zero.under 0 = true then some (.sl false sz (List.replicate n.toNat zero)) else none
    | _, _ => none
  | _ => none

/-- Operations that read memory. -/
def readOp (m : Mem) (e : Opd → V) : VOp → Option V
  | .load sz a => match e a with
    | .ep x o => part x.cells o sz
    | .ptr r o => match look m r with
      | some (.cells cs) => part cs o sz
      | _ => none
    | _ => none
  | .iaddr sz x i => match e x, e i with
    | .gs k n, .int _ j => match look m k with
      | some (.buf sz' _ xs) => if sz = sz' ∧ 0 ≤ j ∧ j < n then (xs[j.toNat]?).map fun y => .ep y 0 else none
      | _ => none
    | _, _ => none
  | .toStr false x => match e x with
    | .gs k n => match look m k with
      | some (.buf _ _ xs) => (strOf (xs.take n)).map .str
      | _ => none
    | _ => none
  | .slice (some z) x lo hi mx => match e x with
    | .gs k n => if okMax (hi.map e) (mx.map e) then match (V.gs k n).shut m with
      | some y => sliceV (some z) y (lo.map e) (hi.map e)
      | none => none else none
    | _ => none
  | .eqnil .slice x neg => match e x with
    | .gs k n => match look m k with
      | some (.buf _ born _) => some (.bool ((born && n == 0) != neg))
      | _ => none
    | _ => none
  | _ => none

/-- New objects for the slices among cells that are to grow. -/
def withBufs (m : Mem) (cs : List V) : List (Nat × Nat) → Option (List V × Mem)
  | [] => some (cs, m)
  | (off, sz) :: r => match cs[off]? with
    | some (.sl true _ []) => withBufs (.buf sz true [] :: m) (cs.set off (.gs m.length 0)) r
    | some (.sl false _ _) => withBufs m cs r
    | some (.gs _ _) => withBufs m cs r
    | _ => none

/-- Operations that write memory, or make some: a value and memory. b: the objects from here on are this call's own. -/
def effOp (b : Nat) (m : Mem) (e : Opd → V) : VOp → Option (V × Mem)
  | .store n a x => match e a with
    | .ptr r o => match look m r with
      | some (.cells cs) =>
        if (e x).fits n = true ∧ o + n ≤ cs.length ∧ (b ≤ r ∨ (e x).under r = true) then
          some (.undef, upd m r (.cells (cs.take o ++ (e x).cells ++ cs.drop (o + n)))) else none
      | _ => none
    | _ => none
  | .alloc zero bufs => (withBufs m zero bufs).map fun (cs, m') => (.ptr m'.length 0, .cells cs :: m')
  | .box x bufs => if (e x).fits (e x).cells.length then (withBufs m (e x).cells bufs).map fun (cs, m') => (.ptr m'.length 0, .cells cs :: m') else none
  | .nilbuf sz => some (.gs m.length 0, .buf sz true [] :: m)
  | .mkbuf sz xs => if V.underL 0 (xs.map e) && (xs.map e).all (V.fits sz) && decide (xs.length * sz ≤ 16777216) then some (.gs m.length xs.length, .buf sz false (xs.map e) :: m) else none
  | .range x => match e x with
    | .str s => some (.ptr m.length 0, .iter s 0 :: m)
    | _ => none
  | .next x => match e x with
    | .ptr r 0 => match look m r with
      | some (.iter s pos) =>
        if pos < s.length then
          some (.tup [.bool true, .int .i64 pos, .int .i32 (Utf8.decode ⟨s.toArray⟩ pos).1], upd m r (.iter s (pos + (Utf8.decode ⟨s.toArray⟩ pos).2)))
        else some (.tup [.bool false], m)
      | _ => none
    | _ => none
  | .app sz bytes x y =>
    match (match e y with
      | .str s => some (1, bytesV s)
      | y => match y.shut m with
        | some (.sl _ sz' ys) => some (sz', ys)
        | _ => none) with
    | none => none
    | some (sz', ys) =>
      match e x with
      | .gs k n => match look m k with
        | some (.buf sz'' born xs) =>
          if n = xs.length ∧ sz = sz'' ∧ (sz = sz' ∨ ys = []) ∧ (n + ys.length) * bytes ≤ 140737488355328 ∧ n + ys.length ≤ 140737488355328 then
            some (.gs k (n + ys.length), upd m k (.buf sz'' born (xs ++ ys))) else none
        | _ => none
      | .sl true _ [] =>
        if (sz = sz' ∨ ys = []) ∧ ys.length * bytes ≤ 140737488355328 ∧ ys.length ≤ 140737488355328 then
          some (.gs m.length ys.length, .buf sz true ys :: m) else none
      | _ => none
  | _ => none

inductive Out where
  | ret (vs : List V) (m : Mem)
  | pan (v : V) (m : Mem)
  deriving Inhabited

abbrev CF := FuncId → List V → Mem → Option Out

def retVal : List V → V
  | [v] => v
  | vs => .tup vs

/-- What one operation does. -/
inductive OpOut where
  | val (v : V) (m : Mem)
  | pan (v : V) (m : Mem)
  deriving Inhabited

def callOp (cf : CF) (m : Mem) (f : FuncId) (args : List V) : Option OpOut :=
  (V.sealL m args).bind fun args => (cf f args m).map fun
    | .ret vs m' => .val (retVal vs) m'
    | .pan v m' => .pan v m'

def callgOp (cf : CF) (m : Mem) (sz : Nat) (f : FuncId) (args : List V) : Option OpOut :=
  (withBufs m args [(0, sz)]).bind fun p => match p.1 with
    | x :: rest => (V.sealL p.2 rest).bind fun rest => (cf f (x :: rest) p.2).map fun
      | .ret vs m' => .val (retVal vs) m'
      | .pan v m' => .pan v m'
    | [] => none

def opRun (cf : CF) (b : Nat) (m : Mem) (e : Opd → V) (o : VOp) : Option OpOut :=
  match pureOp e o with
  | some v => some (.val v m)
  | none => match readOp m e o with
    | some v => some (.val v m)
    | none => match effOp b m e o with
      | some (v, m') => some (.val v m')
      | none => match o with
        | .call f args => callOp cf m f (args.map e)
        | .callv f args => match e f with
          | .fn g first cap => callOp cf m g (first ++ args.map e ++ cap)
          | _ => none
        | .callg sz f args => callgOp cf m sz f (args.map e)
        | .panic x => match (e x).shut m with
          | some (.ifc t v) => some (.pan (.ifc t v) m)
          | _ => none
        | _ => none

inductive Rs where
  | nrm (vars : List V) (m : Mem)
  | exit (id : Nat) (vars : List V) (m : Mem)
  | ret (vars : List V) (m : Mem)
  | pan (v : V) (m : Mem)
  deriving Inhabited

/-- Is an operation carried out? none: that is not known. -/
def wanted (ov : List V) : Option (Nat × Bool) → Option Bool
  | none => some true
  | some (d, want) => match ov.getD d .undef with
    | .bool x => some (x == want)
    | .tup [] => some false
    | _ => none

def setv (vars : List V) : Option Nat → V → List V
  | none, _ => vars
  | some i, v => vars.set i v

def runOps (cf : CF) (b : Nat) : List VOper → List V → List V → Mem → Option Rs
  | [], _, vars, m => some (.nrm vars m)
  | o :: r, ov, vars, m =>
    match wanted ov o.guard with
    | some true =>
      match opRun cf b m (opd ov vars) o.op with
      | some (.val v m') => runOps cf b r (v :: ov) (setv vars o.dst v) m'
      | some (.pan v m') => some (.pan v m')
      | none => none
    | some false => runOps cf b r (.tup [] :: ov) (setv vars o.dst .undef) m
    | none => none

mutual
/-- The objects that a value shows parts of. -/
def V.lvls : V → List Nat
  | .gs k _ => [k]
  | .gm k => [k]
  | .agg cs => V.lvlsL cs
  | .tup vs => V.lvlsL vs
  | .ifc _ v => v.lvls
  | _ => []
def V.lvlsL : List V → List Nat
  | [] => []
  | v :: l => v.lvls ++ V.lvlsL l
end

/-- The objects that a reading operation looks at. -/
def rlv (e : Opd → V) : VOp → List Nat
  | .load _ a => match e a with
    | .ptr r _ => [r]
    | _ => []
  | .iaddr _ x _ => (e x).lvls
  | .toStr _ x => (e x).lvls
  | .slice _ x _ _ _ => (e x).lvls
  | .eqnil _ x _ => (e x).lvls
  | _ => []

structure DS where
  ov : List V
  vars : List V
  m : Mem
  pan : Option (Nat × V) := none
  reads : List (Nat × List Nat) := []
  effs : List (Nat × Mem × Mem) := []

def dead (pre : List Nat) (i : Nat) : Option (Nat × V) → Bool
  | none => false
  | some (e, _) => (pre.getD i 0).testBit e

def drawStep (cf : CF) (b : Nat) (pre : List Nat) (i : Nat) (o : VOper) (s : DS) : Option DS :=
  if dead pre i s.pan then some { s with ov := .undef :: s.ov, vars := setv s.vars o.dst .undef }
  else match wanted s.ov o.guard with
  | none => none
  | some false => some { s with ov := .tup [] :: s.ov, vars := setv s.vars o.dst .undef }
  | some true =>
    match pureOp (opd s.ov s.vars) o.op with
    | some v => some { s with ov := v :: s.ov, vars := setv s.vars o.dst v }
    | none => match readOp s.m (opd s.ov s.vars) o.op with
      | some v => some { s with ov := v :: s.ov, vars := setv s.vars o.dst v, reads := (i, rlv (opd s.ov s.vars) o.op) :: s.reads }
      | none => match s.pan with
        | some _ => none
        | none => match opRun cf b s.m (opd s.ov s.vars) o.op with
          | some (.val v m') => some { s with ov := v :: s.ov, vars := setv s.vars o.dst v, m := m', effs := (i, s.m, m') :: s.effs }
          | some (.pan v m') => some { s with ov := .undef :: s.ov, vars := setv s.vars o.dst .undef, m := m', pan := some (i, v), effs := (i, s.m, m') :: s.effs }
          | none => none

def runDraw (cf : CF) (b : Nat) (pre : List Nat) : Nat → List VOper → DS → Option DS
  | _, [], s => some s
  | i, o :: r, s => (drawStep cf b pre i o s).bind (runDraw cf b pre (i + 1) r)

/-- No effect changes what a read sees that does not wait for it. -/
def agree (pairs : List (Nat × Nat)) (s : DS) : Prop :=
  ∀ p ∈ pairs, ∀ rd ∈ s.reads, rd.1 = p.1 → ∀ ef ∈ s.effs, ef.1 = p.2 → ∀ r ∈ rd.2, look ef.2.1 r = look ef.2.2 r

open Classical in
noncomputable def drawEnd (pairs : List (Nat × Nat)) (s : DS) : Option Rs :=
  if agree pairs s then
    match s.pan with
    | none => some (.nrm s.vars s.m)
    | some (_, v) => some (.pan v s.m)
  else none

def killed (kill : List Nat) (vars : List V) : List V := kill.foldl (fun l i => l.set i .undef) vars

/-- What a loop's round begins with. -/
def fresh (b L : Nat) (kill : List Nat) (vars : List V) (m : Mem) : Option (List V × Mem) :=
  if V.underL L (killed kill vars) && objsOK b L m then some (killed kill vars, dropTo L m) else none

section
variable (cf : CF) (b : Nat)

/-- Rounds of a loop, at most n. -/
def rounds (L : Nat) (kill : List Nat) (f : List V → Mem → Option Rs) : Nat → List V → Mem → Option Rs
  | 0, _, _ => none
  | n + 1, vars, m =>
    match fresh b L kill vars m with
    | none => none
    | some (vars, m) => match f vars m with
      | some (.nrm vars m) => rounds L kill f n vars m
      | r => r

noncomputable def exec (n : Nat) : VC → List V → Mem → Option Rs
  | .skip, vars, m => some (.nrm vars m)
  | .reg ops, vars, m => runOps cf b ops [] vars m
  | .draw ops d, vars, m => (runDraw cf b d.pre 0 ops { ov := [], vars, m }).bind (drawEnd d.pairs)
  | .seq x y, vars, m => match exec n x vars m with
    | some (.nrm vars m) => exec n y vars m
    | r => r
  | .cond c x y, vars, m => match opd [] vars c with
    | .bool true => exec n x vars m
    | .bool false => exec n y vars m
    | _ => none
  | .block id c, vars, m => match exec n c vars m with
    | some (.exit id' vars m) => if id' = id then some (.nrm vars m) else some (.exit id' vars m)
    | r => r
  | .loop kill c, vars, m => rounds b m.length kill (exec n c) n vars m
  | .exit id, vars, m => some (.exit id vars m)
  | .ret, vars, m => some (.ret vars m)
end

def resOf (vars : List V) (m : Mem) : VRes → Option V
  | .v i => (vars.getD i .undef).shut m
  | .g i => match vars.getD i .undef with
    | .gs k n => some (.gs k n)
    | v => v.shut m
  | .cell i sz => match vars.getD i .undef with
    | .ptr r o => match look m r with
      | some (.cells cs) => (part cs o sz).bind (V.shut m)
      | _ => none
    | _ => none

def ressOf (vars : List V) (m : Mem) : List VRes → Option (List V)
  | [] => some []
  | r :: l => (resOf vars m r).bind fun v => (ressOf vars m l).map fun vs => v :: vs

/-- What a call leaves behind, out of how its body ended. -/
def leave (b : Nat) (res : List VRes) : Rs → Option Out
  | .nrm vars m | .ret vars m => (ressOf vars m res).bind fun vs => if V.underL b vs then some (.ret vs (dropTo b m)) else none
  | .pan v m => (v.shut m).bind fun v => if v.under b then some (.pan v (dropTo b m)) else none
  | .exit .. => none

structure Machine' where
  funs : FuncId → Option VFun
  prims : FuncId → Option (List V → Mem → Option Out)

def enter (F : VFun) (args : List V) : List V := args ++ List.replicate (F.slots.length - args.length) .undef

noncomputable def callF (M : Machine') : Nat → CF
  | 0, _, _, _ => none
  | n + 1, f, args, m =>
    match M.prims f with
    | some g => g args m
    | none => match M.funs f with
      | some F => if args.length = F.params then (exec (callF M n) m.length n F.body (enter F args) m).bind (leave m.length F.res) else none
      | none => none
end Go.Vm
-- VmC: The model's code resolved into the pure machine's. Nothing here needs to be right: what it makes is what the simulation speaks of.
namespace Go.Vm
open Go

def isLeaf : Value → Bool
  | .agg _ | .tuple _ => false
  | _ => true

mutual
/-- A constant as the pure machine has it. -/
def vOf : Value → Option V
  | .bool b => some (.bool b)
  | .int k n => some (.int k n)
  | .string s => some (.str s.data.toList)
  | .pointer none => some .nilp
  | .slice none 0 0 => some (.sl true 0 [])
  | .map none => some .nilm
  | .func (.func f) ⟨[]⟩ ⟨[]⟩ => some (.fn f [] [])
  | .nilFunc => some .nilf
  | .nilIface => some .nili
  | .agg ⟨cs⟩ => (vOfL cs).map .agg
  | _ => none
def vOfL : List Value → Option (List V)
  | [] => some []
  | v :: l => if isLeaf v then (vOf v).bind fun v' => (vOfL l).map fun l' => v' :: l' else none
end

/-- What is chosen for a function: its variables' slots; for each loop what is dead at its head; which slots begin as rows that grow; which literals do. -/
structure FAnn where
  slots : List Nat := []
  kills : List (List Nat) := []
  nilbufs : List Nat := []
  mkbufs : List Nat := []
  /-- how many slots there are -/
  n : Nat := 0
  /-- its first argument is a row that goes on growing, and is returned -/
  lin : Bool := false
  deriving Inhabited

/-- For all functions: of which types which fields are rows that grow; what global variables hold. -/
structure Ann where
  bufs : TypeId → List (Nat × Nat) := fun _ => []
  globals : Nat → Option V := fun _ => none
  fns : FuncId → FAnn := fun _ => {}
  /-- functions that are handed a row that goes on growing: cells of an element -/
  lin : FuncId → Option Nat := fun _ => none

section
variable (P : Program) (A : Ann)

def szOf (t : TypeId) : Option Nat := (P.info? t).map (·.size)
def bytesOf (t : TypeId) : Option Nat := (P.info? t).map (·.bytes)
def aggT (t : TypeId) : Bool :=
  match P.underlying t with
  | some (.struct _) | some (.array _ _) => true
  | _ => false
def szT (t : TypeId) : Option (Option Nat) := (P.underlying t).bind fun _ => (szOf P t).map fun n => if aggT P t then some n else none
def zeroT (t : TypeId) : Option V := (P.info? t).bind fun i => i.zero.bind vOf
def elemT (t : TypeId) : Option TypeId :=
  match P.underlying t with
  | some (.slice e) => some e
  | _ => none
def fieldT (s : TypeId) (f : Nat) : Option Field :=
  match P.underlying s with
  | some (.struct fs) => fs[f]?
  | _ => none
def mapM' {α β : Type} (f : α → Option β) : List α → Option (List β)
  | [] => some []
  | x :: l => (f x).bind fun y => (mapM' f l).map fun ys => y :: ys

def optM {α β : Type} (f : α → Option β) : Option α → Option (Option β)
  | none => some none
  | some x => (f x).map some

/-- How '==' compares a type's values. -/
def etyOf : Nat → TypeId → Option ETy
  | 0, _ => none
  | n + 1, t => match P.underlying t with
    | some .bool => some .bool
    | some (.int _) => some .int
    | some .string => some .str
    | some (.struct fs) =>
      if P.stoodInHeld t || fs.toList.any (fun f => f.name == "_") || P.eqGuardType P.depth t then none
      else (mapM' (fun (f : Field) => (szT P f.type).bind fun z => (etyOf n f.type).map fun e => (f.offset, z, e)) fs.toList).map .st
    | _ => none

variable (F : FAnn)

/-- An operand, inside a region: the operations ahead of this one, the newest first. -/
def opdOf (past : List (Option Tmp)) : Operand → Option Opd
  | .tmp t => match F.slots.idxOf? t with
    | some i => some (.v i)
    | none => (past.idxOf? (some t)).map .l
  | .const v => (vOf v).map .c
  | .global g => (A.globals g).map fun v => .c (.ep v 0)
  | .func f => some (.c (.fn f [] []))

def isNilConst : Operand → Bool
  | .const (.slice none 0 0) | .const .nilFunc | .const (.pointer none) | .const (.map none) => true
  | _ => false

def isStrT (u : TypeId) : Bool :=
  match P.underlying u with
  | some .string => true
  | _ => false

def isBufDst (F : FAnn) : Option Tmp → Bool
  | some d => F.mkbufs.contains d
  | none => false

def isNilSlice : Operand → Bool
  | .const (.slice none 0 0) => true
  | _ => false

def nilT (t : TypeId) (y : Operand) : Option NK :=
  match P.underlying t, y with
  | some (.slice _), .const (.slice none 0 0) => some .slice
  | some (.func _ _ _), .const .nilFunc => some .func
  | some (.pointer _), .const (.pointer none) => some .ptr
  | _, _ => none

def plainOf (past : List (Option Tmp)) (o : Oper) : Option VOp :=
  let x' := opdOf A F past
  match o.op with
  | .move x | .assign x =>
    match o.dst with
    | some d => if F.nilbufs.contains d && isNilSlice x then (elemT P o.type).bind fun e => (szOf P e).map .nilbuf else (x' x).map .mov
    | none => (x' x).map .mov
  | .pick c a b => (x' c).bind fun c => (x' a).bind fun a => (x' b).map fun b => .pick c a b
  | .alloc e => match zeroT P e with
    | some z => if z.fits z.cells.length then some (.alloc z.cells (A.bufs e)) else none
    | none => none
  | .box e x => (x' x).map fun x => .box x (A.bufs e)
  | .build t parts =>
    match P.underlying t, zeroT P t with
    | some (.struct fs), some (.agg z) => (mapM' (fun (f : Field) => szOf P f.type) fs.toList).bind fun _ => (mapM' (fun (i, x) => (fs[i]?).bind fun f => (szOf P f.type).bind fun n => (x' x).map fun x => (f.offset, n, x)) parts.toList).map fun ps => .build z ps
    | some (.array _ e), some (.agg z) => (szOf P e).bind fun n => (mapM' (fun (i, x) => (x' x).map fun x => (i * n, n, x)) parts.toList).map fun ps => .build z ps
    | _, _ => none
  | .buildSlice t n parts =>
    if parts.toList.map (·.1) == List.range n then
      (elemT P t).bind fun e => (szOf P e).bind fun sz => (zeroT P e).bind fun _ => (mapM' (fun (_, x) => x' x) parts.toList).map fun xs =>
        if isBufDst F o.dst then .mkbuf sz xs else .mksl sz xs
    else none
  | .load t a => (szT P t).bind fun n => (x' a).map fun a => .load n a
  | .store t a x => (szOf P t).bind fun n => (x' a).bind fun a => (x' x).map fun x => .store n a x
  | .nilCheck x => (x' x).map .nilck
  | .binOp op t x y _ =>
    if isNilConst y then
      (nilT P t y).bind fun k => match op with
        | .eql => (x' x).map (.eqnil k · false)
        | .neq => (x' x).map (.eqnil k · true)
        | _ => none
    else match op, P.underlying t with
      | .eql, some (.int _) | .neq, some (.int _) | .eql, some .string | .neq, some .string => (x' x).bind fun x => (x' y).map fun y => .bin op x y
      | .eql, _ => (etyOf P 10 t).bind fun e => (x' x).bind fun x => (x' y).map fun y => .eqs e false x y
      | .neq, _ => (etyOf P 10 t).bind fun e => (x' x).bind fun x => (x' y).map fun y => .eqs e true x y
      | _, _ => (x' x).bind fun x => (x' y).map fun y => .bin op x y
  | .unOp .not _ x => (x' x).map .not
  | .unOp .neg _ x => (x' x).map .neg
  | .convert src dst x =>
    match P.underlying src, P.underlying dst with
    | some (.int _), some (.int k) => (x' x).map (.conv k)
    | some (.int _), some .string => (x' x).map .chr
    | some .string, some .string => (x' x).map (.toStr true)
    | some (.slice e), some .string => match P.underlying e with
      | some (.int .u8) => (x' x).map (.toStr false)
      | _ => none
    | some .string, some (.slice e) => match P.underlying e with
      | some (.int .u8) => (x' x).map .toBytes
      | _ => none
    | _, _ => none
  | .makeInterface t x => match P.underlying t with
    | some (.interface _) | none => none
    | _ => (x' x).map (.mkifc t)
  | .makeFunc (.func f) first cap => (mapM' x' first.toList).bind fun a => (mapM' x' cap.toList).map fun b => .mkfn f a b
  | .makeSlice t l c => (elemT P t).bind fun e => (szOf P e).bind fun sz => (bytesOf P e).bind fun bs => (zeroT P e).bind fun z => (x' l).bind fun l => (x' c).map fun c => .mkslice sz bs z l c
  | .slice t x lo hi mx =>
    (match P.underlying t with
      | some .string => if mx.isNone then some none else none
      | some (.slice el) => (szOf P el).map some
      | _ => none).bind fun s =>
      (x' x).bind fun x => (optM x' lo).bind fun lo => (optM x' hi).bind fun hi => (optM x' mx).map fun mx => .slice s x lo hi mx
  | .fieldAddr s x f => (fieldT P s f).bind fun fl => (szOf P fl.type).bind fun n => if n = 0 then none else (x' x).map (.faddr fl.offset)
  | .field s x f => (fieldT P s f).bind fun fl => (szT P fl.type).bind fun n => (x' x).map (.field fl.offset n)
  | .indexAddr t x i => (elemT P t).bind fun e => (szOf P e).bind fun sz => (x' x).bind fun x => (x' i).map fun i => .iaddr sz x i
  | .index t x i => match P.underlying t with
    | some .string => (x' x).bind fun x => (x' i).map fun i => .idxs x i
    | some (.array n e) => (szOf P e).bind fun sz => (P.underlying e).bind fun _ => (x' x).bind fun x => (x' i).map fun i => .idxa n sz (aggT P e) x i
    | _ => none
  | .extract x i => (x' x).map (.ext · i)
  | .typeAssert x _ t true => match P.underlying t with
    | some (.interface _) | none => none
    | _ => (zeroT P t).bind fun z => (x' x).map (.tassert t z)
  | .range t x => match P.underlying t with
    | some .string => (x' x).map .range
    | _ => none
  | .next x true => (x' x).map .next
  | .call c =>
    match c.callee, c.args.toList with
    | .builtin .len, [x] => match (c.argTypes[0]?).bind P.underlying with
      | some .string => (x' x).map (.len true)
      | some (.slice _) => (x' x).map (.len false)
      | _ => none
    | .builtin .min, [x, y] => (x' x).bind fun x => (x' y).map fun y => .min x y
    | .builtin .max, [x, y] => (x' x).bind fun x => (x' y).map fun y => .max x y
    | .builtin .append, [x, y] => match c.argTypes.toList with
      | [t, u] => (elemT P t).bind fun e => (szOf P e).bind fun sz => (bytesOf P e).bind fun bs => (zeroT P e).bind fun z =>
        if !z.fits sz then none else if t == u || isStrT P u || (elemT P u == some e) then (x' x).bind fun x => (x' y).map fun y => .app sz bs x y else none
      | _ => none
    | _, _ => none
  | _ => none

def isCallOp : VOp → Bool
  | .call .. | .callv .. | .callg .. | .panic _ => true
  | _ => false

/-- Calls of functions, and panics. -/
def callOf (past : List (Option Tmp)) (o : Oper) : Option VOp :=
  match o.op with
  | .panic x => (opdOf A F past x).map .panic
  | .call c => match c.callee with
    | .builtin .panic => match c.args.toList with
      | [x] => (opdOf A F past x).map .panic
      | _ => none
    | .value (.func f) => match A.lin f with
      | none => (mapM' (opdOf A F past) c.args.toList).map (.call f)
      | some sz => (mapM' (opdOf A F past) c.args.toList).map (.callg sz f)
    | .value f => (opdOf A F past f).bind fun f => (mapM' (opdOf A F past) c.args.toList).map (.callv f)
    | _ => none
  | _ => none

def opOf (past : List (Option Tmp)) (o : Oper) : Option VOp :=
  match callOf A F past o with
  | some op => some op
  | none => (plainOf P A F past o).bind fun op => if isCallOp op then none else some op

def dstOk : Option Tmp → Bool
  | none => true
  | some d => d < F.n

def operOf (past : List (Option Tmp)) (o : Oper) (ops : Array Oper) : Option VOper :=
  if dstOk F o.dst then
    (opOf P A F past o).bind fun op =>
      let dst := o.dst.bind fun d => F.slots.idxOf? d
      match o.guard with
      | none => some { dst, op }
      | some (j, want) => match (ops[j]?).bind (·.dst) with
        | some t => match opdOf A F past (.tmp t) with
          | some (.l d) => some { dst, op, guard := some (d, want) }
          | _ => none
        | none => none
  else none

def opersOf (ops : Array Oper) : List (Option Tmp) → List Oper → Option (List VOper)
  | _, [] => some []
  | past, o :: r => (operOf P A F past o ops).bind fun v => (opersOf ops (o.dst :: past) r).map fun l => v :: l

/-- What each operation waits for, as bits. -/
def preOf (ops : Array Oper) : List Nat := (Region.before ops).toList

def isEff : VOp → Bool
  | .store .. | .alloc .. | .box .. | .nilbuf .. | .mkbuf .. | .app .. | .call .. | .callv .. | .callg .. | .panic _ | .range _ | .next _ => true
  | _ => false
def mayRead : VOp → Bool
  | .load .. | .iaddr .. | .toStr .. | .slice .. | .eqnil .. => true
  | _ => false

/-- Neither waits for the other. -/
def free (pre : List Nat) (i j : Nat) : Bool := i != j && !(pre.getD j 0).testBit i && !(pre.getD i 0).testBit j

/-- What an operation looks at. -/
def VOp.opds : VOp → List Opd
  | .mov x | .nilck x | .eqnil _ x _ | .not x | .neg x | .conv _ x | .toStr _ x | .chr x | .range x | .next x | .toBytes x | .mkifc _ x | .faddr _ x | .field _ _ x | .ext x _ | .len _ x
  | .tassert _ _ x | .load _ x | .box x _ | .panic x => [x]
  | .pick c a b => [c, a, b]
  | .build _ parts => parts.map fun p => p.2.2
  | .bin _ x y | .eqs _ _ x y | .iaddr _ x y | .idxs x y | .idxa _ _ _ x y | .min x y | .max x y | .mkslice _ _ _ x y | .store _ x y | .app _ _ x y => [x, y]
  | .mkfn _ a b => a ++ b
  | .slice _ x lo hi mx => x :: (lo.toList ++ hi.toList ++ mx.toList)
  | .mksl _ xs | .mkbuf _ xs | .call _ xs | .callg _ _ xs => xs
  | .callv f xs => f :: xs
  | .alloc _ _ | .nilbuf _ => []

/-- The temporary that is looked at. -/
def tmpOf (slots : List Nat) (past : List (Option Tmp)) : Opd → Option Tmp
  | .v i => slots[i]?
  | .l d => (past[d]?).join
  | .c _ => none

def namedBy (slots : List Nat) (past : List (Option Tmp)) (o : VOper) (dst : Option Tmp) : List (Option Tmp) :=
  dst :: ((match o.guard with | some (d, _) => [tmpOf slots past (.l d)] | none => []) ++ o.op.opds.map (tmpOf slots past))

/-- Who names what another writes waits for it, or the other for him. -/
def orderOk (slots : List Nat) (dsts : List (Option Tmp)) (pre : List Nat) (l : List VOper) : Bool :=
  (pre.zipIdx.all fun (x, i) => decide (x < 2 ^ i)) &&
  l.zipIdx.all fun (o, j) => (namedBy slots ((dsts.take j).reverse) o (dsts.getD j none)).all fun t =>
    t.isNone || dsts.zipIdx.all fun (d, i) => d != t || i == j || (pre.getD (Nat.max i j) 0).testBit (Nat.min i j)

def drawInfo (slots : List Nat) (dsts : List (Option Tmp)) (pre : List Nat) (l : List VOper) : Option DI :=
  let n := l.zipIdx
  let effs := n.filter fun x => isEff x.1.op
  if orderOk slots dsts pre l && effs.all fun x => effs.all fun y => x.2 == y.2 || (pre.getD (Nat.max x.2 y.2) 0).testBit (Nat.min x.2 y.2) then
    some { pairs := (n.filter fun x => mayRead x.1.op).flatMap fun x => (effs.filter fun y => free pre x.2 y.2).map fun y => (x.2, y.2), pre }
  else none

def codeOf : Code → List (List Nat) → Option (VC × List (List Nat))
  | .skip, ks => some (.skip, ks)
  | .region _ ops d, ks => (opersOf P A F ops [] ops.toList).bind fun l =>
    if d then
      if Region.departs ops then none else (drawInfo F.slots (ops.toList.map (·.dst)) (preOf ops) l).map fun i => (.draw l i, ks)
    else some (.reg l, ks)
  | .seq a b, ks => (codeOf a ks).bind fun (a, ks) => (codeOf b ks).map fun (b, ks) => (.seq a b, ks)
  | .cond c a b, ks => (opdOf A F [] c).bind fun c => (codeOf a ks).bind fun (a, ks) => (codeOf b ks).map fun (b, ks) => (.cond c a b, ks)
  | .block id c, ks => (codeOf c ks).map fun (c, ks) => (.block id c, ks)
  | .loop c, ks => (codeOf c (ks.drop 1)).map fun (c, ks') => (.loop (ks.headD []) c, ks')
  | .exit id, ks => some (.exit id, ks)
  | .ret, ks => some (.ret, ks)
  | .scope c, ks => codeOf c ks
  | _, _ => none

def resultOf : ResultVar → Option VRes
  | .tmp t => (F.slots.idxOf? t).map (if F.lin then .g else .v)
  | .cell a t => (F.slots.idxOf? a).bind fun i => (szT P t).map fun n => .cell i n
end

def funOf (P : Program) (A : Ann) (f : FuncId) : Option VFun :=
  match P.funcs[f]? with
  | none => none
  | some fn => match fn.body with
    | none => none
    | some c =>
      let F := { A.fns f with n := fn.ntmps }
      let n := fn.params.size + fn.nfree
      if F.slots.take n == List.range n && F.slots.all (· < fn.ntmps) && F.slots.eraseDups == F.slots && n ≤ fn.ntmps && fn.name != "runtime.NumGoroutine" then
        (codeOf P A F c F.kills).bind fun (c, _) => (mapM' (resultOf P F) fn.results.toList).map fun rs => { slots := F.slots, params := n, body := c, res := rs }
      else none
end Go.Vm
