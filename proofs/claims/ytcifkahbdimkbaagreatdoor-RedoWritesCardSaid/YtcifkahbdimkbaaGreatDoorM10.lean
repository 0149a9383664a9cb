/- Part 10 of the ground under the rows: The log's records in plain Lean: when one is valid, its bytes, its string, what is read from bytes. No program in this text. -/
import Derived.Test.YtcifkahbdimkbaaGreatDoorM09
import Derived.Lib.ItoaNum
import Derived.Lib.Replace
import Derived.Lib.Join
import Derived.Lib.Fields
set_option linter.unusedSimpArgs false
set_option linter.unusedVariables false
-- RP: The log's records in plain Lean: when one is valid, its bytes, its string, what is read from bytes. No program in this text.
namespace Go.Vm.Redo
open Go

/-- A value. -/
structure Val where
  kd : Int
  n : Int
  t : List UInt8
  deriving DecidableEq
/-- A row: nil, or values. -/
inductive RowR where
  | nil (sz : Nat)
  | mk (l : List Val)
def RowR.vals : RowR → List Val
  | .nil _ => []
  | .mk l => l
/-- A record of the log. -/
structure Rec where
  op : Int
  txn : Int := 0
  owner : List UInt8 := []
  name : List UInt8 := []
  id : Int := 0
  row : RowR := .nil 0
  time : Int := 0
  text : List UInt8 := []
  n : Int := 0

/-! ### names -/
def smallB (c : UInt8) : Bool := 97 ≤ c.toNat && c.toNat ≤ 122
def digitB (c : UInt8) : Bool := 48 ≤ c.toNat && c.toNat ≤ 57
def namedB (c : UInt8) : Bool := smallB c || digitB c || c.toNat == 95
def wordL : List (List UInt8) := [
  [111, 114], [97, 110, 100], [110, 111, 116], [105, 115], [110, 117, 108, 108], [105, 110], [98, 101, 116, 119, 101, 101, 110], [108, 105, 107, 101],
  [109, 111, 100], [116, 114, 117, 101], [102, 97, 108, 115, 101], [110, 101, 119], [111, 108, 100], [115, 113, 108], [102, 111, 117, 110, 100], [110, 111, 116, 102, 111, 117, 110, 100],
  [105, 115, 111, 112, 101, 110], [114, 111, 119, 99, 111, 117, 110, 116], [99, 111, 117, 110, 116], [101, 120, 105, 115, 116, 115], [99, 97, 115, 101], [119, 104, 101, 110], [116, 104, 101, 110], [101, 108, 115, 101],
  [101, 110, 100], [115, 101, 108, 101, 99, 116], [100, 105, 115, 116, 105, 110, 99, 116], [102, 114, 111, 109], [119, 104, 101, 114, 101], [103, 114, 111, 117, 112], [98, 121], [104, 97, 118, 105, 110, 103],
  [111, 114, 100, 101, 114], [100, 101, 115, 99], [102, 111, 114], [117, 112, 100, 97, 116, 101], [97, 115], [111, 102], [105, 110, 115, 101, 114, 116], [105, 110, 116, 111],
  [118, 97, 108, 117, 101, 115], [115, 101, 116], [100, 101, 108, 101, 116, 101], [105, 110, 116], [116, 101, 120, 116], [98, 111, 111, 108], [97, 114, 114, 97, 121], [99, 117, 114, 115, 111, 114],
  [101, 120, 99, 101, 112, 116, 105, 111, 110], [100, 101, 99, 108, 97, 114, 101], [98, 101, 103, 105, 110], [101, 120, 105, 116], [114, 101, 116, 117, 114, 110], [114, 97, 105, 115, 101], [105, 102], [101, 108, 115, 105, 102],
  [119, 104, 105, 108, 101], [108, 111, 111, 112], [114, 101, 118, 101, 114, 115, 101], [111, 112, 101, 110], [99, 108, 111, 115, 101], [102, 101, 116, 99, 104], [98, 117, 108, 107], [99, 111, 108, 108, 101, 99, 116],
  [108, 105, 109, 105, 116], [102, 111, 114, 97, 108, 108], [99, 111, 109, 109, 105, 116], [114, 111, 108, 108, 98, 97, 99, 107], [116, 111], [115, 97, 118, 101, 112, 111, 105, 110, 116], [111, 117, 116], [112, 114, 111, 99, 101, 100, 117, 114, 101],
  [102, 117, 110, 99, 116, 105, 111, 110], [97, 117, 116, 111, 110, 111, 109, 111, 117, 115], [99, 114, 101, 97, 116, 101], [114, 101, 112, 108, 97, 99, 101], [100, 114, 111, 112], [97, 108, 116, 101, 114], [116, 97, 98, 108, 101], [97, 100, 100],
  [103, 114, 97, 110, 116], [111, 110], [114, 101, 118, 111, 107, 101], [97, 108, 108], [117, 115, 101, 114], [105, 110, 100, 101, 120], [115, 101, 113, 117, 101, 110, 99, 101], [115, 116, 97, 114, 116],
  [99, 97, 99, 104, 101], [118, 105, 101, 119], [105, 110, 118, 111, 107, 101, 114], [112, 97, 99, 107, 97, 103, 101], [112, 114, 105, 118, 97, 116, 101], [116, 114, 105, 103, 103, 101, 114], [98, 101, 102, 111, 114, 101], [97, 102, 116, 101, 114],
  [101, 97, 99, 104], [114, 111, 119], [100, 101, 102, 97, 117, 108, 116], [99, 111, 110, 115, 116, 114, 97, 105, 110, 116], [117, 110, 105, 113, 117, 101], [112, 114, 105, 109, 97, 114, 121], [107, 101, 121], [99, 104, 101, 99, 107],
  [102, 111, 114, 101, 105, 103, 110], [114, 101, 102, 101, 114, 101, 110, 99, 101, 115], [100, 101, 102, 101, 114, 114, 101, 100], [101, 120, 101, 99, 117, 116, 101]]
def isWord (s : List UInt8) : Bool := wordL.contains s
def shaped (s : List UInt8) : Bool := s.all namedB && (match s with | [] => false | c :: _ => smallB c)
def isName (s : List UInt8) : Bool := shaped s && decide (s.length ≤ 30) && !isWord s

/-! ### values -/
def big : Int := 1099511627776
def intOK (n : Int) : Bool := decide (-big ≤ n) && decide (n ≤ big)
def strOK (s : List UInt8) : Bool := decide (s.length ≤ 200) && s.all fun c => 32 ≤ c.toNat && c.toNat ≤ 126
def valOK (v : Val) : Bool :=
  if v.kd = 0 then decide (v.n = 0) && decide (v.t = [])
  else if v.kd = 1 then decide (v.t = []) && intOK v.n
  else if v.kd = 2 then decide (v.n = 0) && strOK v.t
  else if v.kd = 3 then decide (v.t = []) && (decide (v.n = 0) || decide (v.n = 1)) else false
def rowOK (l : List Val) : Bool := decide (l.length ≤ 20) && l.all valOK

/-! ### records -/
def fieldsOf (op : Int) : Option (List Int) :=
  if op = 1 ∨ op = 2 then some [0, 1, 2, 3, 4] else if op = 3 then some [0, 1, 2, 3] else if op = 4 then some [0, 7] else if op = 5 then some [0, 5] else if op = 6 then some [0]
  else if op = 7 then some [0, 6] else if op = 8 then some [1, 6] else if op = 9 then some [1, 2] else if op = 10 then some [1, 2, 7] else if op = 11 then some [] else none
def joint (s : List UInt8) : Bool := (s.all fun c => 33 ≤ c.toNat && c.toNat ≤ 126) && decide (1 ≤ s.length) && decide (s.length ≤ 40)
def between (n least : Int) : Bool := decide (least ≤ n) && decide (n ≤ big)
def fieldOK (x : Rec) (f : Int) : Bool :=
  if f = 0 then between x.txn 1 else if f = 1 then isName x.owner else if f = 2 then isName x.name else if f = 3 then between x.id 1
  else if f = 4 then rowOK x.row.vals else if f = 5 then between x.time 0
  else if f = 6 then (decide (x.op = 7) && joint x.text) || (decide (x.op = 8) && decide (x.text.length ≤ 20000))
  else between x.n (if x.op = 4 then 0 else -big)
def setField (out x : Rec) (f : Int) : Rec :=
  if f = 0 then { out with txn := x.txn } else if f = 1 then { out with owner := x.owner } else if f = 2 then { out with name := x.name } else if f = 3 then { out with id := x.id }
  else if f = 4 then { out with row := x.row } else if f = 5 then { out with time := x.time } else if f = 6 then { out with text := x.text } else if f = 7 then { out with n := x.n } else out
def clear (x : Rec) (l : List Int) : Rec := l.foldl (fun out f => setField out x f) { op := x.op }
def sameR (a b : Rec) : Bool :=
  decide (a.op = b.op) && decide (a.txn = b.txn) && decide (a.owner = b.owner) && decide (a.name = b.name) && decide (a.id = b.id) && decide (a.time = b.time) && decide (a.text = b.text) && decide (a.n = b.n) && decide (a.row.vals = b.row.vals)
def validR (x : Rec) : Bool := match fieldsOf x.op with
  | none => false
  | some l => sameR x (clear x l) && l.all (fieldOK x)

/-! ### bytes -/
def beB (x : Int) : Nat → List UInt8
  | 0 => []
  | k + 1 => UInt8.ofNat (x.fdiv (2 ^ (Nat.min (8 * k) 64)) % 256).toNat :: beB x k
def textB (s : List UInt8) : List UInt8 := beB s.length 2 ++ s
def valB (v : Val) : List UInt8 := beB v.kd 1 ++ (if v.kd = 1 then beB v.n 8 else if v.kd = 3 then beB v.n 1 else if v.kd = 2 then textB v.t else [])
def rowB (l : List Val) : List UInt8 := beB l.length 1 ++ l.flatMap valB
def fieldB (x : Rec) (f : Int) : List UInt8 :=
  if f = 0 then beB x.txn 8 else if f = 1 then textB x.owner else if f = 2 then textB x.name else if f = 3 then beB x.id 8
  else if f = 4 then rowB x.row.vals else if f = 5 then beB x.time 8 else if f = 6 then textB x.text else if f = 7 then beB x.n 8 else []
def bodyB (x : Rec) : List UInt8 := beB x.op 1 ++ ((fieldsOf x.op).getD []).flatMap (fieldB x)
def sumFrom : List UInt8 → Nat → Nat → Nat
  | [], _, out => out
  | c :: l, i, out => sumFrom l (i + 1) ((out + (i + 1) * c.toNat) % 4294967296)
def sumB (l : List UInt8) : Nat := sumFrom l 0 0
def headB (x : Rec) : List UInt8 := beB ((bodyB x).length + 4 : Nat) 2 ++ bodyB x
def encB (x : Rec) : List UInt8 := headB x ++ beB (sumB (headB x)) 4
/-- The bytes, or the error. -/
def encode (x : Rec) : Option (List UInt8) × Int := if validR x then (if (encB x).length > 65537 then (none, 3) else (some (encB x), 0)) else (none, 2)

/-! ### strings -/
def quote (s : List UInt8) : List UInt8 := [39] ++ Lib.replaceAll s [39] [39, 39] ++ [39]
def valText (v : Val) : List UInt8 := if v.kd = 1 then Lib.itoa v.n else if v.kd = 2 then quote v.t else if v.kd = 3 then (if v.n = 1 then [116, 114, 117, 101] else [102, 97, 108, 115, 101]) else [110, 117, 108, 108]
def fieldText (x : Rec) (f : Int) : List UInt8 :=
  if f = 0 then Lib.itoa x.txn else if f = 1 then quote x.owner else if f = 2 then quote x.name else if f = 3 then Lib.itoa x.id else if f = 5 then Lib.itoa x.time else if f = 6 then quote x.text else if f = 7 then Lib.itoa x.n
  else [40] ++ Lib.join (x.row.vals.map valText) [44] ++ [41]
def opNames : List (List UInt8) := [[105, 110, 115, 101, 114, 116], [117, 112, 100, 97, 116, 101], [100, 101, 108, 101, 116, 101], [98, 97, 99, 107], [99, 111, 109, 109, 105, 116], [97, 98, 111, 114, 116], [112, 114, 101, 112, 97, 114, 101], [100, 101, 102], [100, 114, 111, 112], [115, 101, 114, 105, 97, 108], [115, 116, 97, 114, 116]]
def opName (op : Int) : List UInt8 := opNames.getD (op.toNat - 1) []
def recText (x : Rec) : List UInt8 := ((fieldsOf x.op).getD []).foldl (fun out f => out ++ ([32] ++ fieldText x f)) (opName x.op)

/-! ### reading -/
/-- What is left to read, and whether it is bad. -/
abbrev RS := List UInt8 × Bool
def rdNum (l : List UInt8) (n : Int) : Int := l.foldl (fun n c => IntKind.i64.wrap (n * 256 + c.toNat)) n
def rdN (n : Nat) (s : RS) : Int × RS := if n ≤ s.1.length then (rdNum (s.1.take n) 0, (s.1.drop n, s.2)) else (0, (s.1, true))
def rdT (s : RS) : List UInt8 × RS :=
  let r := rdN 2 s
  if r.1 > r.2.1.length then ([], (r.2.1, true)) else (r.2.1.take r.1.toNat, (r.2.1.drop r.1.toNat, r.2.2))
def rdV (s : RS) : Val × RS :=
  let k := rdN 1 s
  if k.1 = 1 then let r := rdN 8 k.2; (⟨1, r.1, []⟩, r.2)
  else if k.1 = 3 then let r := rdN 1 k.2; (⟨3, r.1, []⟩, r.2)
  else if k.1 = 2 then let r := rdT k.2; (⟨2, 0, r.1⟩, r.2)
  else (⟨k.1, 0, []⟩, k.2)
def rdVs : Nat → RS → List Val × RS
  | 0, s => ([], s)
  | k + 1, s => let v := rdV s; let r := rdVs k v.2; (v.1 :: r.1, r.2)
def RowR.of (l : List Val) : RowR := match l with | [] => .nil 3 | _ :: _ => .mk l
def rdRow (s : RS) : List Val × RS := let k := rdN 1 s; rdVs k.1.toNat k.2
def rdF (x : Rec) (f : Int) (s : RS) : Rec × RS :=
  if f = 0 then let r := rdN 8 s; ({ x with txn := r.1 }, r.2)
  else if f = 1 then let r := rdT s; ({ x with owner := r.1 }, r.2)
  else if f = 2 then let r := rdT s; ({ x with name := r.1 }, r.2)
  else if f = 3 then let r := rdN 8 s; ({ x with id := r.1 }, r.2)
  else if f = 4 then let r := rdRow s; ({ x with row := .of r.1 }, r.2)
  else if f = 5 then let r := rdN 8 s; ({ x with time := r.1 }, r.2)
  else if f = 6 then let r := rdT s; ({ x with text := r.1 }, r.2)
  else if f = 7 then let r := rdN 8 s; ({ x with n := r.1 }, r.2) else (x, s)
def rdFs : List Int → Rec → RS → Rec × RS
  | [], x, s => (x, s)
  | f :: l, x, s => let r := rdF x f s; rdFs l r.1 r.2
/-- The record with whose bytes b begins, how many they are, and the error. -/
def decode (b : List UInt8) : Rec × Int × Int :=
  match b with
  | b0 :: b1 :: _ =>
    let n := 256 * b0.toNat + b1.toNat + 2
    if b.length < n then ({ op := 0 }, 0, 31) else if n < 7 then ({ op := 0 }, 0, 30) else
    let op : Int := (b.getD 2 0).toNat
    let r := rdFs ((fieldsOf op).getD []) { op := op } ((b.take (n - 4)).drop 3, false)
    if r.2.2 || decide (0 < r.2.1.length) || !validR r.1 || decide (rdNum ((b.take n).drop (n - 4)) 0 ≠ sumB (b.take (n - 4))) then ({ op := 0 }, 0, 30) else (r.1, n, 0)
  | _ => ({ op := 0 }, 0, 31)
end Go.Vm.Redo
