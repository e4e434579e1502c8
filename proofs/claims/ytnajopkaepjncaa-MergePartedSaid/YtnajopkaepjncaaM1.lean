/- The abstract machine: Go's translated operations over values without addresses. Definitions alone: what it computes, for every program. -/
import Derived.WalkKit
import Derived.KernelRfl
import Derived.ChangeKeysEq
import Derived.Laws.CopyRow
import Derived.Lib.AtoiErrMem
import Derived.Maps.AppendAt
import Derived.Lib.AppendStr
/- The abstract machine: Go's translated operations over values without addresses. Definitions alone: what it computes, for every program. -/
namespace Go.Proofs.Ytnajopkaepjncaa.Am
set_option linter.unusedVariables false

/-- A value without addresses: a slice that nobody writes into is its elements (and those that lie behind them). -/
inductive AV where
  | undef
  | bool (b : Bool)
  | int (k : IntKind) (n : Int)
  | str (s : List UInt8)
  | agg (cs : List AV)
  | tup (cs : List AV)
  | nils
  | lst (e : TypeId) (xs sp : List AV)
  | sl (e : TypeId) (id off len : Nat)
  | nilp
  | ptr (id off : Nat)
  | ept (cs : List AV) (off : Nat)
  | nilfn
  | fn (f : FuncId) (cap : List AV)
  | nili
  | iface (t : TypeId) (v : AV)
  | nilm
  | map (id : Nat)
  deriving Inhabited

def AV.cells : AV → List AV
  | .agg cs => cs
  | .undef => []
  | .tup _ => []
  | x => [x]

/-- One cell. -/
def AV.isOne : AV → Bool
  | .agg _ => false
  | .undef => false
  | .tup _ => false
  | _ => true

/-- Where a list's end may be written on: a slot, a cell. -/
inductive Loc where
  | slot (s : Nat)
  | cell (id off : Nat)
  deriving DecidableEq

structure Blk where
  e : TypeId
  cs : List AV

structure St where
  env : List (Nat × AV)
  H : List (Option Blk)
  own : List Loc

def look : List (Nat × AV) → Nat → AV
  | [], _ => .undef
  | (s, x) :: r, t => cond (Nat.beq s t) x (look r t)

def constAV : Value → Option AV
  | .bool b => some (.bool b)
  | .int k n => some (.int k n)
  | .string s => some (.str s.data.toList)
  | .pointer none => some .nilp
  | .slice none 0 0 => some .nils
  | .map none => some .nilm
  | .nilFunc => some .nilfn
  | .nilIface => some .nili
  | _ => none

def evalO (env : List (Nat × AV)) : Operand → Option AV
  | .tmp t => some (look env t)
  | .const v => constAV v
  | .global _ => none
  | .func f => some (.fn f [])

/-! ### types -/
def isAggT (P : Program) (t : TypeId) : Option Bool :=
  match P.underlying t with
  | some (.struct _) => some true
  | some (.array _ _) => some true
  | some _ => some false
  | none => none
def sizeT (P : Program) (t : TypeId) : Option Nat := (P.info? t).map (·.size)
def zeroT (P : Program) (t : TypeId) : Option (List AV) :=
  match P.info? t with
  | some i => match i.zero with
    | some z => z.cells.toList.mapM constAV
    | none => none
  | none => none
/-- Cells as a value of a type. -/
def ofCells (P : Program) (t : TypeId) (cs : List AV) : Option AV :=
  match isAggT P t with
  | some true => some (.agg cs)
  | some false => match cs with
    | [x] => if x.isOne then some x else none
    | _ => none
  | none => none
def partA (P : Program) (t : TypeId) (cs : List AV) (off : Nat) : Option AV :=
  match isAggT P t, sizeT P t with
  | some true, some n => if off + n ≤ cs.length then some (.agg ((cs.drop off).take n)) else none
  | some false, some _ => cs[off]?
  | _, _ => none

/-! ### numbers and strings -/
def bitsA (k : IntKind) (r : BitVec k.bits) : AV := .int k (k.wrap r.toNat)
def intOp (op : BinOp) (k : IntKind) (x y : Int) : Option AV :=
  match op with
  | .add => some (.int k (k.wrap (x + y)))
  | .sub => some (.int k (k.wrap (x - y)))
  | .mul => some (.int k (k.wrap (x * y)))
  | .quo => if y = 0 then none else some (.int k (k.wrap (x.tdiv y)))
  | .rem => if y = 0 then none else some (.int k (x.tmod y))
  | .and => some (bitsA k (BitVec.ofInt k.bits x &&& BitVec.ofInt k.bits y))
  | .or => some (bitsA k (BitVec.ofInt k.bits x ||| BitVec.ofInt k.bits y))
  | .xor => some (bitsA k (BitVec.ofInt k.bits x ^^^ BitVec.ofInt k.bits y))
  | .andNot => some (bitsA k (BitVec.ofInt k.bits x &&& ~~~ BitVec.ofInt k.bits y))
  | .eql => some (.bool (x == y))
  | .neq => some (.bool (x != y))
  | .lss => some (.bool (decide (x < y)))
  | .leq => some (.bool (decide (x ≤ y)))
  | .gtr => some (.bool (decide (x > y)))
  | .geq => some (.bool (decide (x ≥ y)))
  | .shl => none
  | .shr => none
def shiftOp (op : BinOp) (k : IntKind) (x y : Int) : Option AV :=
  if y < 0 then none else
  match op with
  | .shl => some (.int k (k.wrap (x * 2 ^ (min y.toNat k.bits))))
  | .shr => some (.int k (x.fdiv (2 ^ (min y.toNat k.bits))))
  | _ => none
def strOp (op : BinOp) (x y : List UInt8) : Option AV :=
  match op with
  | .add => if x.length + y.length ≤ 9223372036854775807 then some (.str (x ++ y)) else none
  | .eql => some (.bool (x == y))
  | .neq => some (.bool !(x == y))
  | .lss => some (.bool (Op.bytesLess x y))
  | .leq => some (.bool (Op.bytesLess x y || x == y))
  | .gtr => some (.bool !(Op.bytesLess x y || x == y))
  | .geq => some (.bool !(Op.bytesLess x y))
  | _ => none

/-! ### equality -/
def eqFields (f : TypeId → AV → AV → Option Bool) (P : Program) : List Field → List AV → List AV → Option Bool
  | [], _, _ => some true
  | fd :: r, xs, ys =>
    if fd.name = "_" then eqFields f P r xs ys else
    match partA P fd.type xs fd.offset, partA P fd.type ys fd.offset with
    | some x, some y => match f fd.type x y with
      | some true => eqFields f P r xs ys
      | some false => some false
      | none => none
    | _, _ => none
def eqIn (P : Program) : Nat → TypeId → AV → AV → Option Bool
  | 0, _, _, _ => none
  | d + 1, t, x, y =>
    match P.underlying t with
    | some .bool => match x, y with
      | .bool a, .bool b => some (a == b)
      | _, _ => none
    | some (.int _) => match x, y with
      | .int k a, .int k' b => if k = k' then some (a == b) else none
      | _, _ => none
    | some .string => match x, y with
      | .str a, .str b => some (a == b)
      | _, _ => none
    | some (.pointer e) => match x, y with
      | .nilp, .nilp => some true
      | .nilp, .ptr _ _ => some false
      | .ptr _ _, .nilp => some false
      | _, _ => none
    | some (.slice _) => match x, y with
      | .nils, .nils => some true
      | .lst _ (_ :: _) _, .nils => some false
      | .nils, .lst _ (_ :: _) _ => some false
      | _, _ => none
    | some (.map _ _) => match x, y with
      | .nilm, .nilm => some true
      | .map _, .nilm => some false
      | .nilm, .map _ => some false
      | _, _ => none
    | some (.func _ _ _) => match x, y with
      | .nilfn, .nilfn => some true
      | .fn _ _, .nilfn => some false
      | .nilfn, .fn _ _ => some false
      | _, _ => none
    | some (.interface _) => match x, y with
      | .nili, .nili => some true
      | .iface _ _, .nili => some false
      | .nili, .iface _ _ => some false
      | _, _ => none
    | some (.struct fields) => match x, y with
      | .agg xs, .agg ys => if P.stoodInHeld t then none else eqFields (eqIn P d) P fields.toList xs ys
      | _, _ => none
    | _ => none
def isConst : Operand → Bool
  | .const _ => true
  | _ => false
/-- What the model asks ahead of '==': nothing of two values that are not both nil interfaces, or structs that hold some. -/
def eqGuardA (P : Program) (t : TypeId) (x y : Operand) (a b : AV) : Bool :=
  match a, b with
  | .nili, .nili => isConst x || isConst y
  | .agg _, .agg _ => !(P.eqGuardType P.depth t)
  | _, _ => true
/-- Neither a number nor a string. -/
def plainA : AV → Bool
  | .undef => false
  | .int _ _ => false
  | .str _ => false
  | .tup _ => false
  | _ => true
def binOpA (P : Program) (op : BinOp) (t : TypeId) (x y : Operand) (a b : AV) : Option AV :=
  match a, b with
  | .int k m, .int k' n => match op with
    | .shl => shiftOp .shl k m n
    | .shr => shiftOp .shr k m n
    | _ => if k = k' then intOp op k m n else none
  | .str m, .str n => strOp op m n
  | _, _ => match op with
    | .eql => if plainA a && eqGuardA P t x y a b then (eqIn P 10000 t a b).map .bool else none
    | .neq => if plainA a && eqGuardA P t x y a b then (eqIn P 10000 t a b).map (fun r => .bool !r) else none
    | _ => none
def unOpA (op : UnOp) (x : AV) : Option AV :=
  match op, x with
  | .neg, .int k n => some (.int k (k.wrap (0 - n)))
  | .xor, .int k n => intOp .xor k (if k.signed then -1 else k.max) n
  | .not, .bool b => some (.bool !b)
  | _, _ => none
def convA (P : Program) (src dst : TypeId) (x : AV) : Option AV :=
  match P.underlying src, P.underlying dst, x with
  | some _, some (.int k), .int _ n => some (.int k (k.wrap n))
  | some _, some .string, .str s => some (.str s)
  | _, _, _ => none

/-! ### parts -/
def splice (cs : List AV) (off : Nat) (vs : List AV) : List AV := cs.take off ++ vs ++ cs.drop (off + vs.length)
def fillA (place : Nat → Option (Nat × Nat)) (cs : List AV) : List (Nat × AV) → Option (List AV)
  | [] => some cs
  | (i, v) :: r => match place i with
    | some (off, size) => if v.cells.length = size ∧ 0 < size ∧ off + v.cells.length ≤ cs.length then fillA place (splice cs off v.cells) r else none
    | none => none
def evalParts (env : List (Nat × AV)) : List (Nat × Operand) → Option (List (Nat × AV))
  | [] => some []
  | (i, x) :: r => match evalO env x, evalParts env r with
    | some v, some vs => some ((i, v) :: vs)
    | _, _ => none
def evalL (env : List (Nat × AV)) : List Operand → Option (List AV)
  | [] => some []
  | x :: r => match evalO env x, evalL env r with
    | some v, some vs => some (v :: vs)
    | _, _ => none
def places (P : Program) (fields : Array Field) (i : Nat) : Option (Nat × Nat) :=
  match fields[i]? with
  | some f => (sizeT P f.type).map fun n => (f.offset, n)
  | none => none
def buildA (P : Program) (t : TypeId) (parts : List (Nat × AV)) : Option AV :=
  match zeroT P t, P.underlying t with
  | some z, some (.struct fields) => if fields.all fun f => (sizeT P f.type).isSome then (fillA (places P fields) z parts).map .agg else none
  | some z, some (.array _ elem) => match sizeT P elem with
    | some size => (fillA (fun i => some (i * size, size)) z parts).map .agg
    | none => none
  | _, _ => none
/-- Cells cut into elements. -/
def chop (P : Program) (e : TypeId) (sz : Nat) : Nat → List AV → Option (List AV)
  | 0, _ => some []
  | n + 1, cs => match ofCells P e (cs.take sz), chop P e sz n (cs.drop sz) with
    | some x, some r => some (x :: r)
    | _, _ => none
def rep (n : Nat) (cs : List AV) : List AV := (List.replicate n cs).flatten
def fieldOff (P : Program) (s : TypeId) (f : Nat) : Option Nat :=
  match P.underlying s with
  | some (.struct fields) => match fields[f]? with
    | some fd => match sizeT P fd.type with
      | some 0 => none
      | some _ => some fd.offset
      | none => none
    | none => none
  | _ => none
def inRange (i : Int) (n : Nat) : Bool := decide (0 ≤ i) && decide (i < n)
def indexAddrA (P : Program) (t : TypeId) (x i : AV) : Option AV :=
  match P.underlying t, i with
  | some (.slice elem), .int _ n => match x with
    | .lst e xs _ => if e = elem && inRange n xs.length then (xs[n.toNat]?).map fun v => .ept v.cells 0 else none
    | .sl e id off len => match sizeT P elem with
      | some sz => if e = elem && inRange n len then some (.ptr id (off + n.toNat * sz)) else none
      | none => none
    | _ => none
  | some (.array len elem), .int _ n => match sizeT P elem with
    | some sz => if inRange n len then (match x with
        | .ptr id off => some (.ptr id (off + n.toNat * sz))
        | .ept cs off => some (.ept cs (off + n.toNat * sz))
        | _ => none) else none
    | none => none
  | _, _ => none
def indexA (P : Program) (t : TypeId) (x i : AV) : Option AV :=
  match P.underlying t, x, i with
  | some (.array len elem), .agg cs, .int _ n => match sizeT P elem with
    | some sz => if inRange n len then partA P elem cs (n.toNat * sz) else none
    | none => none
  | some .string, .str s, .int _ n => if 0 ≤ n then (s[n.toNat]?).map fun b => .int .u8 b.toNat else none
  | _, _, _ => none
/-- A bound of a cut. -/
def boundA (x : Option AV) (dflt top : Nat) : Option Nat :=
  match x with
  | none => some dflt
  | some (.int _ i) => if 0 ≤ i ∧ i ≤ top then some i.toNat else none
  | some _ => none
def sliceA (P : Program) (t : TypeId) (x : AV) (lo hi mx : Option AV) : Option AV :=
  match P.underlying t with
  | some .string => match x, mx with
    | .str s, none => match boundA hi s.length s.length with
      | some h => match boundA lo 0 h with
        | some l => some (.str ((s.take h).drop l))
        | none => none
      | none => none
    | _, _ => none
  | some (.slice elem) => if mx.isSome && !hi.isSome then none else
    match x with
    | .nils => match boundA mx 0 0 with
      | some m => match boundA hi 0 m with
        | some h => match boundA lo 0 h, sizeT P elem with
          | some _, some _ => some .nils
          | _, _ => none
        | none => none
      | none => none
    | .lst e xs sp => match boundA mx (xs.length + sp.length) (xs.length + sp.length) with
      | some m => match boundA hi xs.length m with
        | some h => match boundA lo 0 h with
          | some l => if e = elem then some (.lst e (((xs ++ sp).take h).drop l) (((xs ++ sp).take m).drop h)) else none
          | none => none
        | none => none
      | none => none
    | .sl e id off len => match boundA mx len len with
      | some m => match boundA hi len m with
        | some h => match boundA lo 0 h, sizeT P e with
          | some l, some sz => if e = elem then (if l = 0 ∨ 0 < h - l then some (.sl e id (off + l * sz) (h - l)) else none) else none
          | _, _ => none
        | none => none
      | none => none
    | _ => none
  | _ => none
def optA (env : List (Nat × AV)) : Option Operand → Option (Option AV)
  | none => some none
  | some x => (evalO env x).map some

/-! ### operations that neither read nor write cells -/
def pureOp (P : Program) (env : List (Nat × AV)) (op : Op) : Option AV :=
  match op with
  | .move x => evalO env x
  | .assign x => evalO env x
  | .pick c a b => match evalO env c with
    | some (.bool t) => cond t (evalO env a) (evalO env b)
    | _ => none
  | .build t parts => match evalParts env parts.toList with
    | some ps => buildA P t ps
    | none => none
  | .nilCheck x => match evalO env x with
    | some (.ptr i o) => some (.ptr i o)
    | some (.ept c o) => some (.ept c o)
    | some (.iface t v) => some (.iface t v)
    | some (.fn f c) => some (.fn f c)
    | _ => none
  | .binOp op t x y _ => match evalO env x, evalO env y with
    | some a, some b => binOpA P op t x y a b
    | _, _ => none
  | .unOp op _ x => match evalO env x with
    | some a => unOpA op a
    | none => none
  | .convert src dst x => match evalO env x with
    | some a => convA P src dst a
    | none => none
  | .makeInterface t x => match evalO env x, P.underlying t with
    | some a, some (.interface _) => none
    | some a, some _ => some (.iface t a)
    | _, _ => none
  | .makeFunc (.func f) first captured => if first.size = 0 then (evalL env captured.toList).map (.fn f) else none
  | .slice t x lo hi mx => match evalO env x, optA env lo, optA env hi, optA env mx with
    | some a, some l, some h, some m => sliceA P t a l h m
    | _, _, _, _ => none
  | .fieldAddr s x f => match evalO env x, fieldOff P s f with
    | some (.ptr id off), some o => some (.ptr id (off + o))
    | some (.ept cs off), some o => some (.ept cs (off + o))
    | _, _ => none
  | .field t x f => match evalO env x, P.underlying t with
    | some (.agg cs), some (.struct fields) => match fields[f]? with
      | some fd => partA P fd.type cs fd.offset
      | none => none
    | _, _ => none
  | .indexAddr t x i => match evalO env x, evalO env i with
    | some a, some b => indexAddrA P t a b
    | _, _ => none
  | .index t x i => match evalO env x, evalO env i with
    | some a, some b => indexA P t a b
    | _, _ => none
  | .extract t i => match evalO env t with
    | some (.tup vs) => vs[i]?
    | _ => none
  | .call { callee := .builtin .len, args, argTypes } => match args.toList, argTypes.toList with
    | [x], [t] => match P.underlying t, evalO env x with
      | some .string, some (.str s) => some (.int .i64 s.length)
      | some (.slice _), some (.lst _ xs _) => some (.int .i64 xs.length)
      | some (.slice _), some (.sl _ _ _ n) => some (.int .i64 n)
      | some (.slice _), some .nils => some (.int .i64 0)
      | some (.array n _), some _ => some (.int .i64 n)
      | some (.map _ _), some .nilm => some (.int .i64 0)
      | _, _ => none
    | _, _ => none
  | .typeAssert x _ t ok => match evalO env x, P.underlying t with
    | some (.iface _ _), some (.interface _) => none
    | some (.iface t' v), some _ => cond (Nat.beq t' t) (cond ok (some (.tup [v, .bool true])) (some v)) none
    | _, _ => none
  | _ => none

/-! ### operations on cells -/
def readCells (H : List (Option Blk)) (id off n : Nat) : Option (List AV) :=
  match H[id]? with
  | some (some b) => if off + n ≤ b.cs.length then some ((b.cs.drop off).take n) else none
  | _ => none
def loadA (P : Program) (H : List (Option Blk)) (t : TypeId) (p : AV) : Option AV :=
  match sizeT P t with
  | some n => match p with
    | .ptr id off => match readCells H id off n with
      | some cs => ofCells P t cs
      | none => none
    | .ept cs off => if off + n ≤ cs.length then ofCells P t ((cs.drop off).take n) else none
    | _ => none
  | none => none
def storeA (P : Program) (H : List (Option Blk)) (t : TypeId) (p x : AV) : Option (List (Option Blk)) :=
  match p, sizeT P t with
  | .ptr id off, some n => match H[id]? with
    | some (some b) => if x.cells.length = n ∧ 0 < n ∧ off + n ≤ b.cs.length then some (H.set id (some ⟨b.e, splice b.cs off x.cells⟩)) else none
    | _ => none
  | _, _ => none

end Go.Proofs.Ytnajopkaepjncaa.Am

/- The abstract machine, second part: regions, statements, calls. Definitions alone. -/
namespace Go.Proofs.Ytnajopkaepjncaa.Am
set_option linter.unusedVariables false

def flat (xs : List AV) : List AV := xs.flatMap AV.cells

def Loc.beq : Loc → Loc → Bool
  | .slot a, .slot b => Nat.beq a b
  | .cell a b, .cell c d => Nat.beq a c && Nat.beq b d
  | _, _ => false
def Loc.lt : Loc → Loc → Bool
  | .slot a, .slot b => Nat.blt a b
  | .slot _, .cell _ _ => true
  | .cell _ _, .slot _ => false
  | .cell a b, .cell c d => Nat.blt a c || (Nat.beq a c && Nat.blt b d)
/-- In order, each once. -/
def insL (x : Loc) : List Loc → List Loc
  | [] => [x]
  | y :: r => cond (Loc.lt x y) (x :: y :: r) (cond (Loc.beq x y) (y :: r) (y :: insL x r))
def canon (l : List Loc) : List Loc := l.foldr insL []
def owns (own : List Loc) (l : Loc) : Bool := own.any (Loc.beq l)
def drop (own : List Loc) (l : Loc) : List Loc := own.filter fun m => !(Loc.beq l m)
def give (own : List Loc) (l : Loc) : List Loc := l :: drop own l
def Loc.isCell : Loc → Bool
  | .cell _ _ => true
  | .slot _ => false
/-- No cell of a piece of a block is one's own any more. -/
def dropCells (own : List Loc) (id off n : Nat) : List Loc :=
  own.filter fun
    | .cell i o => !(Nat.beq i id && Nat.ble off o && Nat.blt o (off + n))
    | .slot _ => true

/-- What the outside of a function tells its body: how calls end. -/
abbrev Out := AV × List (Option Blk) × List Loc
abbrev CallA := FuncId → List AV → List (Option Blk) → List Loc → Option Out

/-- What an operation comes to: its value, the heap, whose ends are whose; does the end of the value go with it? -/
structure Res where
  val : AV
  H : List (Option Blk)
  own : List Loc
  gives : Bool

def isTmp (t : Nat) : Operand → Bool
  | .tmp s => Nat.beq s t
  | _ => false
/-- Is a slot what some 'append' of the region appends to? -/
def appSrc (ops : List Oper) (t : Nat) : Bool :=
  ops.any fun o => match o.op with
    | .call { callee := .builtin .append, args, .. } => match args.toList with
      | [s, _] => isTmp t s
      | _ => false
    | _ => false
def appDst (ops : List Oper) : Option Nat → Bool
  | some d => appSrc ops d
  | none => false

/-- The elements that are appended. -/
def tailA (P : Program) (e : TypeId) (ts t : TypeId) (y : AV) : Option (List AV) :=
  match P.underlying t, y with
  | some (.slice e'), .lst e'' ys _ => if ts = t ∧ e'' = e then some ys else none
  | some (.slice e'), .nils => if ts = t then some [] else none
  | some .string, .str s => match P.underlying e, sizeT P e with
    | some (.int .u8), some 1 => some (s.map fun b => .int .u8 b.toNat)
    | _, _ => none
  | _, _ => none
def appendA (P : Program) (env : List (Nat × AV)) (H : List (Option Blk)) (own : List Loc) (s x : Operand) (ts tx : TypeId) : Option Res :=
  match P.underlying ts, evalO env s, evalO env x with
  | some (.slice e), some a, some b => match tailA P e ts tx b, P.info? e, zeroT P e with
    | some ys, some i, some z => match a with
      | .nils => if ys.length * i.bytes ≤ 140737488355328 ∧ ys.length ≤ 140737488355328 ∧ 0 < i.size ∧ z.length = i.size then some ⟨.lst e ys [], H, own, true⟩ else none
      | .lst e' xs [] => match s with
        | .tmp t => if owns own (.slot t) = true ∧ e' = e ∧ (xs.length + ys.length) * i.bytes ≤ 140737488355328 ∧ xs.length + ys.length ≤ 140737488355328 ∧ 0 < i.size ∧ z.length = i.size then
            some ⟨.lst e (xs ++ ys) [], H, drop own (.slot t), true⟩ else none
        | _ => none
      | _ => none
    | _, _, _ => none
  | _, _, _ => none

def byteA : AV → Option UInt8
  | .int .u8 n => some (UInt8.ofNat n.toNat)
  | _ => none
def natA (x : AV) : Option Nat :=
  match x with
  | .int _ n => if 0 ≤ n then some n.toNat else none
  | _ => none

/-- The method of a value behind an interface: its function, and the receiver that it takes. -/
def methodA (P : Program) (H : List (Option Blk)) (t : TypeId) (v : AV) (name : String) : Option (FuncId × AV) :=
  match P.info? t with
  | some i => match i.methods.find? (·.name == name) with
    | some m => if m.path.size = 0 then (match m.func, P.underlying t with
      | some (f, true), some (.pointer _) => some (f, v)
      | some (f, false), some (.pointer e) => match v with
        | .ptr _ _ => (loadA P H e v).map fun x => (f, x)
        | _ => none
      | some (f, false), some (.slice _) => some (f, v)
      | some (f, false), some (.struct _) => some (f, v)
      | some (f, false), some (.int _) => some (f, v)
      | _, _ => none) else none
    | none => none
  | none => none

def hasBody (P : Program) (f : FuncId) : Bool :=
  match P.funcs[f]? with
  | some fn => fn.body.isSome
  | none => false
def callA (call : CallA) (P : Program) (H : List (Option Blk)) (own : List Loc) (f : FuncId) (args : List AV) : Option Res :=
  cond (hasBody P f) (match call f args H (canon (own.filter Loc.isCell)) with
    | some (x, H', own') => some ⟨x, H', own.filter (fun l => !l.isCell) ++ own'.filter Loc.isCell, false⟩
    | none => none) none
def plainRes (H : List (Option Blk)) (own : List Loc) (x : Option AV) : Option Res := x.map fun v => ⟨v, H, own, false⟩

def core (call : CallA) (P : Program) (ops : List Oper) (o : Oper) (env : List (Nat × AV)) (H : List (Option Blk)) (own : List Loc) : Option Res :=
  match o.op with
  | .move (.tmp v) => some (cond (owns own (.slot v) && appDst ops o.dst) ⟨look env v, H, drop own (.slot v), true⟩ ⟨look env v, H, own, false⟩)
  | .load t a => match evalO env a with
    | some p => match loadA P H t p with
      | some x => match p with
        | .ptr id off => some (cond (owns own (.cell id off) && appDst ops o.dst && (sizeT P t == some 1) && (isAggT P t == some false)) ⟨x, H, drop own (.cell id off), true⟩ ⟨x, H, own, false⟩)
        | _ => some ⟨x, H, own, false⟩
      | none => none
    | none => none
  | .alloc e => match zeroT P e with
    | some z => some ⟨.ptr H.length 0, H ++ [some ⟨e, z⟩], own, false⟩
    | none => none
  | .box e x => match evalO env x with
    | some v => if 0 < v.cells.length then some ⟨.ptr H.length 0, H ++ [some ⟨e, v.cells⟩], own, false⟩ else none
    | none => none
  | .store t a x => match evalO env a, evalO env x with
    | some (.ptr id off), some v => match storeA P H t (.ptr id off) v with
      | some H' => some ⟨.tup [], H',
          (match x with
           | .tmp s => cond (owns own (.slot s) && v.isOne) (give (drop (dropCells own id off v.cells.length) (.slot s)) (.cell id off)) (dropCells own id off v.cells.length)
           | _ => dropCells own id off v.cells.length), false⟩
      | _ => none
    | _, _ => none
  | .assign x => match evalO env x with
    | some v => match x with
      | .tmp s => some (cond (owns own (.slot s)) ⟨v, H, drop own (.slot s), true⟩ ⟨v, H, own, false⟩)
      | _ => some ⟨v, H, own, false⟩
    | none => none
  | .buildSlice t len parts => match P.underlying t, evalParts env parts.toList with
    | some (.slice e), some ps => match sizeT P e, zeroT P e with
      | some sz, some z => if len * sz ≤ 16777216 ∧ 0 < sz ∧ z.length = sz then
          (match fillA (fun i => some (i * sz, sz)) (rep len z) ps with
           | some cs => match chop P e sz len cs with
             | some xs => some ⟨.lst e xs [], H, own, true⟩
             | none => none
           | none => none) else none
      | _, _ => none
    | _, _ => none
  | .makeSlice t len cap => match P.underlying t, evalO env len, evalO env cap with
    | some (.slice e), some n, some c => match natA n, natA c, P.info? e, zeroT P e with
      | some n, some c, some i, some z => if n ≤ c ∧ c * i.bytes ≤ 140737488355328 ∧ c ≤ 140737488355328 ∧ 0 < i.size ∧ z.length = i.size then
          (match ofCells P e z with
           | some x => some ⟨.lst e (List.replicate n x) [], H, own, true⟩
           | none => none) else none
      | _, _, _, _ => none
    | _, _, _ => none
  | .convert src dst x => match P.underlying src, P.underlying dst, evalO env x with
    | some .string, some (.slice e), some (.str s) => match P.underlying e, sizeT P e with
      | some (.int .u8), some 1 => some ⟨.lst e (s.map fun b => .int .u8 b.toNat) [], H, own, false⟩
      | _, _ => none
    | some (.slice e), some .string, some (.lst e' xs _) => match P.underlying e with
      | some (.int .u8) => if e = e' then plainRes H own ((xs.mapM byteA).map .str) else none
      | _ => none
    | some (.slice e), some .string, some .nils => match P.underlying e with
      | some (.int .u8) => some ⟨.str [], H, own, false⟩
      | _ => none
    | _, _, some a => plainRes H own (convA P src dst a)
    | _, _, none => none
  | .call { callee := .value f, args, .. } => match evalO env f, evalL env args.toList with
    | some (.fn g cap), some vs => callA call P H own g (vs ++ cap)
    | _, _ => none
  | .call { callee := .invoke r name, args, .. } => match evalO env r, evalL env args.toList with
    | some (.iface t v), some vs => match methodA P H t v name with
      | some (f, x) => callA call P H own f (x :: vs)
      | none => none
    | _, _ => none
  | .call { callee := .builtin .append, args, argTypes } => match args.toList, argTypes.toList with
    | [s, x], [ts, tx] => appendA P env H own s x ts tx
    | _, _ => none
  | op => plainRes H own (pureOp P env op)

def Res.put (r : Res) (nt : Nat) (env : List (Nat × AV)) (dst : Option Nat) : Option St :=
  match dst with
  | none => some ⟨env, r.H, r.own⟩
  | some d => if d < nt then some ⟨(d, r.val) :: env, r.H, cond r.gives (give r.own (.slot d)) (drop r.own (.slot d))⟩ else none
def allocOp (o : Oper) : Bool :=
  match o.op with
  | .alloc _ => true
  | .box _ _ => true
  | _ => false
/-- The how-manyth of the region's operations that make blocks puts its value into this slot? -/
def rank : List Oper → Nat → Option Nat
  | [], _ => none
  | o :: r, d => cond (allocOp o) (cond (o.dst == some d) (some 0) ((rank r d).map (· + 1))) (rank r d)
def allocs (ops : List Oper) : Nat := (ops.filter allocOp).length
/-- A block is made at a place that was kept for it. -/
def newAt (P : Program) (o : Oper) (env : List (Nat × AV)) (H : List (Option Blk)) (own : List Loc) (id : Nat) : Option Res :=
  match H[id]? with
  | some none => match o.op with
    | .alloc e => match zeroT P e with
      | some z => some ⟨.ptr id 0, H.set id (some ⟨e, z⟩), own, false⟩
      | none => none
    | .box e x => match evalO env x with
      | some v => if 0 < v.cells.length then some ⟨.ptr id 0, H.set id (some ⟨e, v.cells⟩), own, false⟩ else none
      | none => none
    | _ => none
  | _ => none
/-- Which operations stand ahead of each, by the edges: their numbers' bits. -/
def ahead (acc : List Nat) (l : List Edge) (m : Nat) : Nat :=
  match l with
  | [] => m
  | e :: r => ahead acc r (cond (Region.binds .any e) (m ||| (1 <<< e.on) ||| acc.getD e.on 0) m)
def befores : List Oper → List Nat → List Nat
  | [], acc => acc
  | o :: r, acc => befores r (acc ++ [ahead acc o.after.toList 0])
def isStore (o : Oper) : Bool :=
  match o.op with
  | .store _ _ _ => true
  | _ => false
def isLoad (o : Oper) : Bool :=
  match o.op with
  | .load _ _ => true
  | _ => false
/-- Are there loads and stores that no edge orders in all orders? -/
def late (ops : List Oper) : Bool := (ops.any fun o => o.after.toList.any fun e => !(Region.binds .any e)) &&
  ((ops.zipIdx.any fun (y, j) => ops.zipIdx.any fun (x, i) => Nat.blt i j && !(((befores ops []).getD j 0).testBit i) && ((isStore x && isLoad y) || (isLoad x && isStore y))))
/-- There, blocks of the region's own are written, others are read. -/
def lateOk (base : Nat) (o : Oper) (env : List (Nat × AV)) : Bool :=
  match o.op with
  | .load _ a => match evalO env a with
    | some (.ptr id _) => Nat.blt id base
    | _ => true
  | .store _ a _ => match evalO env a with
    | some (.ptr id _) => Nat.ble base id
    | _ => true
  | _ => true
/-- Lists of these types (or those that are put into these slots) are written into: they lie in blocks of the machine's own. -/
def srcOf (o : Oper) : Nat :=
  match o.op with
  | .call { callee := .builtin .append, args, .. } => match args.toList with
    | .tmp s :: _ => s
    | _ => 0
  | _ => 0
def mutT (t : TypeId) (o : Oper) : Bool := [55, 57].any (Nat.beq t) || match o.dst with
  | some d => (([(22, 64)] : List (Nat × Nat)).any fun p => Nat.beq p.1 t && Nat.beq p.2 d) || (([(42, 39, 37)] : List (Nat × Nat × Nat)).any fun p => Nat.beq p.1 t && (Nat.beq p.2.1 d && Nat.beq p.2.2 (srcOf o)))
  | none => false
def slTy (o : Oper) : Option TypeId :=
  match o.op with
  | .makeSlice t _ _ => some t
  | .call { callee := .builtin .append, argTypes, .. } => match argTypes.toList with
    | t :: _ => some t
    | [] => none
  | _ => none
/-- Does an operation make a list that is written into? -/
def slOp (o : Oper) : Bool :=
  match slTy o with
  | some t => mutT t o
  | none => false
def slElem (P : Program) (o : Oper) : Option TypeId :=
  match slTy o with
  | some t => cond (mutT t o) (match P.underlying t with
    | some (.slice e) => some e
    | _ => none) none
  | none => none
/-- Such lists, made. What is appended to is dead behind it. -/
def newSl (P : Program) (e : TypeId) (op : Op) (env : List (Nat × AV)) (H : List (Option Blk)) (own : List Loc) : Option Res :=
  match op with
  | .makeSlice t len cap => match P.underlying t, evalO env len, evalO env cap with
    | some (.slice e'), some n, some c => match natA n, natA c, P.info? e, zeroT P e with
      | some n, some c, some i, some z => if e' = e ∧ n ≤ c ∧ c * i.bytes ≤ 140737488355328 ∧ c ≤ 140737488355328 ∧ 0 < i.size ∧ z.length = i.size then
          some ⟨.sl e H.length 0 n, H ++ [some ⟨e, rep c z⟩], own, false⟩ else none
      | _, _, _, _ => none
    | _, _, _ => none
  | .call { callee := .builtin .append, args, argTypes } => match args.toList, argTypes.toList with
    | [s, x], [ts, tx] => match P.underlying ts, evalO env s, evalO env x with
      | some (.slice e'), some a, some b => match tailA P e ts tx b, P.info? e, zeroT P e with
        | some ys, some i, some z => match a with
          | .nils => if e' = e ∧ 0 < ys.length ∧ ys.length * i.bytes ≤ 140737488355328 ∧ ys.length ≤ 140737488355328 ∧ 0 < i.size ∧ z.length = i.size then
              some ⟨.sl e H.length 0 ys.length, H ++ [some ⟨e, flat ys⟩], own, false⟩ else none
          | .sl e'' id off len => match H[id]? with
            | some (some k) => if e' = e ∧ e'' = e ∧ k.e = e ∧ off = 0 ∧ 0 < k.cs.length ∧ len * i.size ≤ k.cs.length ∧ (len + ys.length) * i.bytes ≤ 140737488355328 ∧ len + ys.length ≤ 140737488355328 ∧ 0 < i.size ∧ z.length = i.size then
                some ⟨.sl e H.length 0 (len + ys.length), H.set id (some ⟨e, []⟩) ++ [some ⟨e, k.cs.take (len * i.size) ++ flat ys⟩], own, false⟩ else none
            | _ => none
          | _ => none
        | _, _, _ => none
      | _, _, _ => none
    | _, _ => none
  | _ => none
def coreS (call : CallA) (P : Program) (ops : List Oper) (o : Oper) (env : List (Nat × AV)) (H : List (Option Blk)) (own : List Loc) : Option Res :=
  match slElem P o with
  | some e => newSl P e o.op env H own
  | none => core call P ops o env H own
/-- The same, where blocks are made at kept places: in regions that draw their order. -/
def coreP (call : CallA) (P : Program) (pre : Option (Nat × Bool)) (ops : List Oper) (o : Oper) (env : List (Nat × AV)) (H : List (Option Blk)) (own : List Loc) : Option Res :=
  match pre with
  | none => coreS call P ops o env H own
  | some (base, lt) => cond (allocOp o) (match o.dst with
    | some d => match rank ops d with
      | some k => newAt P o env H own (base + k)
      | none => none
    | none => none) (cond (lt && !(lateOk base o env)) none (coreS call P ops o env H own))
def stepOp (call : CallA) (P : Program) (nt : Nat) (pre : Option (Nat × Bool)) (ops : List Oper) (o : Oper) (st : St) : Option St :=
  match coreP call P pre ops o st.env st.H st.own with
  | some r => r.put nt st.env o.dst
  | none => none

/-- Is an operation asked for? none: it can't be told. -/
def wantedA (ops : List Oper) (env : List (Nat × AV)) (o : Oper) : Option Bool :=
  match o.guard with
  | none => some true
  | some (j, want) => match ops[j]? with
    | some { dst := some d, .. } => match look env d with
      | .bool b => some (b == want)
      | .tup [] => some false
      | _ => none
    | _ => none
def stepW (call : CallA) (P : Program) (nt : Nat) (pre : Option (Nat × Bool)) (ops : List Oper) (o : Oper) (st : St) : Option St :=
  match wantedA ops st.env o with
  | some true => stepOp call P nt pre ops o st
  | some false => Res.put ⟨.tup [], st.H, st.own, false⟩ nt st.env o.dst
  | none => none
def runOps (call : CallA) (P : Program) (nt : Nat) (pre : Option (Nat × Bool)) (ops : List Oper) : List Oper → St → Option St
  | [], st => some st
  | o :: r, st => match stepW call P nt pre ops o st with
    | some st' => runOps call P nt pre ops r st'
    | none => none

/-- Does an operation ask whose an end is, or turn that? -/
def ends (ops : List Oper) (o : Oper) : Bool :=
  match o.op with
  | .move (.tmp _) => appDst ops o.dst
  | .load _ _ => appDst ops o.dst
  | .store _ _ _ => true
  | .assign _ => true
  | .call { callee := .value _, .. } => true
  | .call { callee := .invoke _ _, .. } => true
  | .call { callee := .builtin .append, .. } => true
  | _ => false
def keep (vars : List Nat) (st : St) : St :=
  { st with env := vars.map (fun s => (s, look st.env s)), own := st.own.filter fun
      | .slot s => vars.any (Nat.beq s)
      | .cell _ _ => true }

inductive Ex where
  | normal
  | exit (id : Nat)
  | ret

/-- What is known of a program's functions by heart: which slots outlive a region, which calls go by a law of their own, whose lists that were written into are written no more when they are answered. -/
structure Know where
  vars : FuncId → Nat → List Nat
  short : FuncId → Option (List AV → List (Option Blk) → List Loc → Option Out)
  fz : FuncId → Bool

def execWith (call : CallA) (P : Program) (vars : Nat → List Nat) (nt : Nat) (self : Code → St → Option (Ex × St)) : Code → St → Option (Ex × St)
  | .skip, st => some (.normal, st)
  | .region id ops draw, st => match cond draw (runOps call P nt (some (st.H.length, late ops.toList)) ops.toList ops.toList { st with H := st.H ++ List.replicate (allocs ops.toList) none }) (runOps call P nt none ops.toList ops.toList st) with
    | some st' => some (.normal, keep (vars id) st')
    | none => none
  | .seq a b, st => match self a st with
    | some (.normal, st') => self b st'
    | r => r
  | .cond c a b, st => match evalO st.env c with
    | some (.bool t) => cond t (self a st) (self b st)
    | _ => none
  | .block id c, st => match self c st with
    | some (.exit i, st') => cond (Nat.beq i id) (some (.normal, st')) (some (.exit i, st'))
    | r => r
  | .loop c, st => match self c st with
    | some (.normal, st') => self (.loop c) st'
    | r => r
  | .exit id, st => some (.exit id, st)
  | .label _, st => some (.normal, st)
  | .ret, st => some (.ret, st)
  | _, _ => none

def resultA (P : Program) (st : St) : ResultVar → Option AV
  | .tmp t => some (look st.env t)
  | .cell a t => match look st.env a with
    | .ptr id off => loadA P st.H t (.ptr id off)
    | _ => none
def resultsA (P : Program) (st : St) (rs : List ResultVar) : Option AV :=
  match rs with
  | [r] => resultA P st r
  | rs => (rs.mapM (resultA P st)).map .tup
def zipArgs : Nat → List AV → List (Nat × AV)
  | _, [] => []
  | k, x :: r => (k, x) :: zipArgs (k + 1) r

def bodyA (ex : (Nat → List Nat) → Nat → Code → St → Option (Ex × St)) (P : Program) (K : Know) (f : FuncId) (args : List AV) (H : List (Option Blk)) (own : List Loc) : Option Out :=
  match P.funcs[f]? with
  | some fn => match fn.body with
    | some c => if args.length ≤ fn.ntmps then
        (match ex (K.vars f) fn.ntmps c ⟨zipArgs 0 args, H, own.filter Loc.isCell⟩ with
         | some (.ret, st) => (resultsA P st fn.results.toList).map fun x => (x, st.H, st.own.filter Loc.isCell)
         | some (.normal, st) => (resultsA P st fn.results.toList).map fun x => (x, st.H, st.own.filter Loc.isCell)
         | _ => none) else none
    | none => none
  | none => none

/-- A list that was written into, and is written no more. -/
def fzOne (P : Program) (H : List (Option Blk)) (x : AV) : AV × List (Option Blk) :=
  match x with
  | .sl e id off len => match H[id]?, sizeT P e with
    | some (some k), some sz => cond (Nat.ble (off + len * sz) k.cs.length && Nat.blt 0 sz && Nat.blt 0 k.cs.length) (match chop P e sz len ((k.cs.drop off).take (len * sz)) with
      | some xs => (.lst e xs [], H.set id (some ⟨k.e, []⟩))
      | none => (x, H)) (x, H)
    | _, _ => (x, H)
  | _ => (x, H)
def fzAll (P : Program) : List AV → List (Option Blk) → List AV × List (Option Blk)
  | [], H => ([], H)
  | x :: r, H => ((fzOne P H x).1 :: (fzAll P r (fzOne P H x).2).1, (fzAll P r (fzOne P H x).2).2)
def fzV (P : Program) (x : AV) (H : List (Option Blk)) : AV × List (Option Blk) :=
  match x with
  | .tup xs => (.tup (fzAll P xs H).1, (fzAll P xs H).2)
  | x => fzOne P H x
def fzOut (P : Program) (b : Bool) (o : Option Out) : Option Out :=
  cond b (match o with
    | some (x, H, own) => some ((fzV P x H).1, (fzV P x H).2, own)
    | none => none) o
mutual
def exec (P : Program) (K : Know) : Nat → (Nat → List Nat) → Nat → Code → St → Option (Ex × St)
  | 0, _, _, _, _ => none
  | n + 1, vars, nt, c, st => execWith (callN P K n) P vars nt (exec P K n vars nt) c st
def callN (P : Program) (K : Know) : Nat → CallA
  | 0, _, _, _, _ => none
  | n + 1, f, args, H, own => match K.short f with
    | some g => g args H own
    | none => fzOut P (K.fz f) (bodyA (exec P K n) P K f args H own)
end

end Go.Proofs.Ytnajopkaepjncaa.Am

/- How the abstract machine's values stand to Go's: 'Rep', and what becomes of it as memory grows. -/
namespace Go.Proofs.Ytnajopkaepjncaa.Am
set_option linter.unusedVariables false
open Go.RowKit

/-- What is asked of memory: the cells that are not written any more, and where the machine's own blocks lie. -/
structure Mem where
  pm : Nat → Nat → Option Value
  f : Nat → Option Nat
  bs : Nat → Nat

structure Mem.le (M N : Mem) : Prop where
  pm : ∀ b o v, M.pm b o = some v → N.pm b o = some v
  f : ∀ i b, M.f i = some b → N.f i = some b
  bs : ∀ b, M.bs b ≤ N.bs b
theorem Mem.le_refl (M : Mem) : M.le M := ⟨fun _ _ _ h => h, fun _ _ h => h, fun _ => Nat.le_refl _⟩
theorem Mem.le_trans {A B C : Mem} (h : A.le B) (k : B.le C) : A.le C :=
  ⟨fun _ _ _ e => k.pm _ _ _ (h.pm _ _ _ e), fun _ _ e => k.f _ _ (h.f _ _ e), fun _ => Nat.le_trans (h.bs _) (k.bs _)⟩


inductive Rep (P : Program) (M : Mem) : AV → Value → Prop
  | undef (v : Value) : Rep P M .undef v
  | bool (b : Bool) : Rep P M (.bool b) (.bool b)
  | int (k : IntKind) (n : Int) : Rep P M (.int k n) (.int k n)
  | str (s : List UInt8) : Rep P M (.str s) (.string ⟨⟨s⟩⟩)
  | agg (cs : List AV) (vs : Array Value) (hl : vs.size = cs.length) (h : ∀ i, i < cs.length → Rep P M (cs.getD i .undef) (vs.getD i undef))
      (h1 : ∀ i, i < cs.length → (vs.getD i undef).oneCell' = true) : Rep P M (.agg cs) (.agg vs)
  | tup (cs : List AV) (vs : Array Value) (hl : vs.size = cs.length) (h : ∀ i, i < cs.length → Rep P M (cs.getD i .undef) (vs.getD i undef)) : Rep P M (.tup cs) (.tuple vs)
  | nils : Rep P M .nils (.slice none 0 0)
  | lst (e : TypeId) (xs sp : List AV) (a : Option Addr) (cap sz b off : Nat) (c : Nat → Value) (hsz : sizeT P e = some sz) (hz : 0 < sz)
      (hall : ∀ x ∈ xs ++ sp, x.cells.length = sz) (hcap : xs.length + sp.length ≤ cap) (ha : xs ++ sp ≠ [] → a = some ⟨b, off, none⟩)
      (hc : ∀ j, j < (flat (xs ++ sp)).length → M.pm b (off + j) = some (c j))
      (hr : ∀ j, j < (flat (xs ++ sp)).length → Rep P M ((flat (xs ++ sp)).getD j .undef) (c j))
      (h1 : ∀ j, j < (flat (xs ++ sp)).length → (c j).oneCell' = true) : Rep P M (.lst e xs sp) (.slice a xs.length cap)
  | sl (e : TypeId) (id off len b cap sz : Nat) (hf : M.f id = some b) (hsz : sizeT P e = some sz) (hz : 0 < sz) (hb : off + cap * sz ≤ M.bs b) (hl : len ≤ cap) :
      Rep P M (.sl e id off len) (.slice (some ⟨b, off, none⟩) len cap)
  | nilp : Rep P M .nilp (.pointer none)
  | ptr (id off b : Nat) (hf : M.f id = some b) : Rep P M (.ptr id off) (.pointer (some ⟨b, off, none⟩))
  | ept (cs : List AV) (off b o : Nat) (c : Nat → Value) (hc : ∀ j, j < cs.length → M.pm b (o + j) = some (c j))
      (hr : ∀ j, j < cs.length → Rep P M (cs.getD j .undef) (c j)) (h1 : ∀ j, j < cs.length → (c j).oneCell' = true) :
      Rep P M (.ept cs off) (.pointer (some ⟨b, o + off, none⟩))
  | nilfn : Rep P M .nilfn .nilFunc
  | fn (f : FuncId) (cap : List AV) (vs : Array Value) (hl : vs.size = cap.length) (h : ∀ i, i < cap.length → Rep P M (cap.getD i .undef) (vs.getD i undef)) :
      Rep P M (.fn f cap) (.func (.func f) #[] vs)
  | nili : Rep P M .nili .nilIface
  | iface (t : TypeId) (x : AV) (v : Value) (h : Rep P M x v) : Rep P M (.iface t x) (.iface t v)
  | nilm : Rep P M .nilm (.map none)
  | map (id r : Nat) (hf : M.f id = some r) : Rep P M (.map id) (.map (some r))

theorem Rep.mono {P : Program} {M N : Mem} (h : M.le N) {x : AV} {v : Value} (r : Rep P M x v) : Rep P N x v := by
  induction r with
  | undef v => exact .undef v
  | bool b => exact .bool b
  | int k n => exact .int k n
  | str s => exact .str s
  | agg cs vs hl _ h1 ih => exact .agg cs vs hl ih h1
  | tup cs vs hl _ ih => exact .tup cs vs hl ih
  | nils => exact .nils
  | lst e xs sp a cap sz b off c hsz hz hall hcap ha hc _ h1 ih => exact .lst e xs sp a cap sz b off c hsz hz hall hcap ha (fun j hj => h.pm _ _ _ (hc j hj)) ih h1
  | sl e id off len b cap sz hf hsz hz hb hl => exact .sl e id off len b cap sz (h.f _ _ hf) hsz hz (Nat.le_trans hb (h.bs b)) hl
  | nilp => exact .nilp
  | ptr id off b hf => exact .ptr id off b (h.f _ _ hf)
  | ept cs off b o c hc _ h1 ih => exact .ept cs off b o c (fun j hj => h.pm _ _ _ (hc j hj)) ih h1
  | nilfn => exact .nilfn
  | fn f cap vs hl _ ih => exact .fn f cap vs hl ih
  | nili => exact .nili
  | iface t x v _ ih => exact .iface t x v ih
  | nilm => exact .nilm
  | map id r hf => exact .map id r (h.f _ _ hf)

/-- A constant. -/
theorem Rep.const {P : Program} {M : Mem} {v : Value} {x : AV} (h : constAV v = some x) : Rep P M x v := by
  unfold constAV at h
  split at h <;> first
    | (injection h with h; subst h; constructor)
    | cases h

theorem Rep.cells_size {P : Program} {M : Mem} {x : AV} {v : Value} (r : Rep P M x v) (h : 0 < x.cells.length) : v.cells.size = x.cells.length := by
  cases r <;> simp_all [AV.cells, Value.cells]
theorem Rep.cells_at {P : Program} {M : Mem} {x : AV} {v : Value} (r : Rep P M x v) (i : Nat) (h : i < x.cells.length) :
    Rep P M (x.cells.getD i .undef) (v.cells.getD i Go.undef) ∧ (v.cells.getD i Go.undef).oneCell' = true := by
  cases r <;> simp only [AV.cells, Value.cells, List.length_cons, List.length_nil] at h ⊢ <;> first
    | (exact absurd h (by omega))
    | skip
  case agg cs vs hl hh h1 => exact ⟨hh i h, h1 i h⟩
  all_goals
    obtain rfl : i = 0 := by omega
    refine ⟨?_, rfl⟩
    simp only [List.getD_cons_zero]
    first
      | (constructor <;> assumption)
      | (constructor <;> first | assumption | rfl)
      | skip
end Go.Proofs.Ytnajopkaepjncaa.Am

/- The abstract machine is right, first part: the operations that neither read nor write cells. -/
namespace Go.Proofs.Ytnajopkaepjncaa.Am
set_option linter.unusedVariables false
set_option linter.unusedSimpArgs false
open Go.RowKit

section
variable {P : Program} {M : Mem} {w : World}

structure CellsRep (P : Program) (M : Mem) (cs : List AV) (vs : Array Value) : Prop where
  size : vs.size = cs.length
  at_ : ∀ i, i < cs.length → Rep P M (cs.getD i .undef) (vs.getD i undef)
  one : ∀ i, i < cs.length → (vs.getD i undef).oneCell' = true

theorem cells_of {x : AV} {v : Value} (r : Rep P M x v) (h : 0 < x.cells.length) : CellsRep P M x.cells v.cells :=
  ⟨r.cells_size h, fun i hi => (r.cells_at i hi).1, fun i hi => (r.cells_at i hi).2⟩

theorem run_underlying' {t : TypeId} {d : TypeDesc} (h : P.underlying t = some d) : (underlying t).run P w = .ok d w := run_underlying h w
theorem run_sizeT {t : TypeId} {n : Nat} (h : sizeT P t = some n) : (sizeOf t).run P w = .ok n w := by
  unfold sizeT at h
  cases hi : P.info? t with
  | none => simp [hi] at h
  | some i =>
    simp only [hi, Option.map_some, Option.some.injEq] at h
    simp only [sizeOf, typeInfo, Sem.run_bind, run_program, Result.andThen_ok, hi, Sem.run_pure, h]
theorem run_isAggT {t : TypeId} {b : Bool} (h : isAggT P t = some b) : (isAgg t).run P w = .ok b w := by
  unfold isAggT at h
  unfold isAgg
  cases hu : P.underlying t with
  | none => simp [hu] at h
  | some d =>
    simp only [Sem.run_bind, run_underlying' hu, Result.andThen_ok]
    rw [hu] at h
    cases d <;> simp at h <;> subst h <;> rfl
theorem run_typeInfo' {t : TypeId} {i : TypeInfo} (h : P.info? t = some i) : (typeInfo t).run P w = .ok i w := by
  simp only [typeInfo, Sem.run_bind, run_program, Result.andThen_ok, h, Sem.run_pure]

theorem getD_extract (vs : Array Value) (i j k : Nat) (h : i + k < j) (hj : j ≤ vs.size) : (vs.extract i j).getD k undef = vs.getD (i + k) undef := by
  simp only [Array.getD_eq_getD_getElem?, Array.getElem?_extract]
  rw [if_pos (by omega)]
theorem getD_drop_take (cs : List AV) (i n k : Nat) (h : k < n) : ((cs.drop i).take n).getD k .undef = cs.getD (i + k) .undef := by
  simp only [List.getD_eq_getElem?_getD, List.getElem?_take, h, if_true, List.getElem?_drop]

theorem CellsRep.sub {cs : List AV} {vs : Array Value} (h : CellsRep P M cs vs) (off n : Nat) (hn : off + n ≤ cs.length) :
    CellsRep P M ((cs.drop off).take n) (vs.extract off (off + n)) := by
  have hl : ((cs.drop off).take n).length = n := by simp; omega
  refine ⟨by rw [hl, Array.size_extract, h.size]; omega, ?_, ?_⟩ <;> intro i hi <;> rw [hl] at hi <;> rw [getD_extract _ _ _ _ (by omega) (by rw [h.size]; exact hn)]
  · rw [getD_drop_take _ _ _ _ hi]; exact h.at_ _ (by omega)
  · exact h.one _ (by omega)

theorem part_sound {t : TypeId} {cs : List AV} {vs : Array Value} {off : Nat} {x : AV} (h : partA P t cs off = some x) (hc : CellsRep P M cs vs) :
    ∃ v, (part t vs off).run P w = .ok v w ∧ Rep P M x v := by
  unfold partA at h
  split at h
  · rename_i n hg hn
    split at h
    · rename_i hle
      injection h with h; subst h
      refine ⟨.agg (vs.extract off (off + n)), ?_, ?_⟩
      · simp only [part, Sem.run_bind, run_isAggT hg, Result.andThen_ok, if_true, run_sizeT hn, Sem.run_pure]
      · have := hc.sub off n hle
        exact .agg _ _ this.size this.at_ this.one
    · cases h
  · rename_i n hg hn
    have hlt : off < cs.length := by
      rcases Nat.lt_or_ge off cs.length with hlt | hge
      · exact hlt
      · rw [List.getElem?_eq_none hge] at h; cases h
    have hv : off < vs.size := by rw [hc.size]; exact hlt
    refine ⟨vs.getD off undef, ?_, ?_⟩
    · simp only [part, Sem.run_bind, run_isAggT hg, Result.andThen_ok, Bool.false_eq_true, if_false, Array.getElem?_eq_getElem hv, Sem.run_pure, Array.getD_eq_getD_getElem?, Option.getD_some]
    · have := hc.at_ off hlt
      rw [List.getD_eq_getElem?_getD, h, Option.getD_some] at this
      exact this
  · cases h

theorem agg_inv {cs : List AV} {v : Value} (r : Rep P M (.agg cs) v) : ∃ vs, v = .agg vs ∧ CellsRep P M cs vs := by
  cases r with
  | agg _ vs hl h h1 => exact ⟨vs, rfl, ⟨hl, h, h1⟩⟩
theorem int_inv {k : IntKind} {n : Int} {v : Value} (r : Rep P M (.int k n) v) : v = .int k n := by cases r; rfl
theorem bool_inv {b : Bool} {v : Value} (r : Rep P M (.bool b) v) : v = .bool b := by cases r; rfl
theorem str_inv {s : List UInt8} {v : Value} (r : Rep P M (.str s) v) : v = .string ⟨⟨s⟩⟩ := by cases r; rfl

/-! ### equality -/
theorem bytes_beq (a b : List UInt8) : ((⟨⟨a⟩⟩ : ByteArray) == ⟨⟨b⟩⟩) = (a == b) := by
  rw [Bool.eq_iff_iff]
  show ((⟨a⟩ : Array UInt8) == ⟨b⟩) = true ↔ _
  simp
theorem eqFields_sound {f : TypeId → AV → AV → Option Bool} {g : TypeId → Value → Value → Sem Bool}
    (hf : ∀ t x y v u r, f t x y = some r → Rep P M x v → Rep P M y u → (g t v u).run P w = .ok r w) :
    ∀ (fs : List Field) (xs ys : List AV) (vs us : Array Value) (r : Bool), eqFields f P fs xs ys = some r → CellsRep P M xs vs → CellsRep P M ys us →
      ((do
        for fd in fs do
          if fd.name ≠ "_" then
            if !(← g fd.type (← part fd.type vs fd.offset) (← part fd.type us fd.offset)) then return false
        pure true) : Sem Bool).run P w = .ok r w := by
  intro fs
  induction fs with
  | nil => intro xs ys vs us r h _ _; simp [eqFields] at h; subst h; rfl
  | cons fd rest ih =>
    intro xs ys vs us r h hx hy
    have ih' := ih xs ys vs us r
    simp only [eqFields] at h
    by_cases hn : fd.name = "_"
    · rw [if_pos hn] at h
      have := ih' h hx hy
      simpa [hn] using this
    · rw [if_neg hn] at h
      split at h
      · rename_i x y hpx hpy
        obtain ⟨v, hv, rv⟩ := part_sound (w := w) hpx hx
        obtain ⟨u, hu, ru⟩ := part_sound (w := w) hpy hy
        split at h
        · rename_i he
          have h1 := hf _ _ _ _ _ _ he rv ru
          have := ih' h hx hy
          simp [hn, hv, hu, h1]
          simpa using this
        · rename_i he
          have h1 := hf _ _ _ _ _ _ he rv ru
          injection h with h; subst h
          simp [hn, hv, hu, h1]
        · cases h
      · cases h

theorem size_flat_ne {xs : List AV} (h : ∀ x ∈ xs, 0 < x.cells.length) (hx : xs ≠ []) : 0 < (flat xs).length := by
  cases xs with
  | nil => exact absurd rfl hx
  | cons x r => have := h x (by simp); simp [flat]; omega

theorem eqIn_sound : ∀ (d : Nat) (t : TypeId) (x y : AV) (v u : Value) (r : Bool), eqIn P d t x y = some r → Rep P M x v → Rep P M y u → (Op.equalIn d t v u).run P w = .ok r w := by
  intro d
  induction d with
  | zero => intro t x y v u r h; simp [eqIn] at h
  | succ d ih =>
    intro t x y v u r h rx ry
    unfold eqIn at h
    unfold Op.equalIn
    split at h
    case h_1 hu =>
      split at h
      · cases rx; cases ry; injection h with h; subst h; simp [run_underlying' hu]
      · cases h
    case h_2 hu =>
      split at h
      · cases rx; cases ry
        split at h
        · rename_i hk; injection h with h; subst h; subst hk; simp [run_underlying' hu]
        · cases h
      · cases h
    case h_3 hu =>
      split at h
      · cases rx; cases ry; injection h with h; subst h; simp only [Sem.run_bind, run_underlying' hu, Result.andThen_ok, Sem.run_pure, bytes_beq]
      · cases h
    case h_4 hu =>
      split at h <;> first
        | (cases h; done)
        | (cases rx; cases ry; injection h with h; subst h; simp [run_underlying' hu]; done)
    case h_5 hu =>
      split at h
      · cases rx; cases ry; injection h with h; subst h; simp [run_underlying' hu]
      · cases ry
        cases rx with
        | lst e xs sp a cap sz b off c hsz hz hall hcap ha hc hr h1 =>
          obtain rfl := ha (by simp)
          injection h with h; subst h
          simp [run_underlying' hu]
      · cases rx
        cases ry with
        | lst e xs sp a cap sz b off c hsz hz hall hcap ha hc hr h1 =>
          obtain rfl := ha (by simp)
          injection h with h; subst h
          simp [run_underlying' hu]
      · cases h
    case h_6 hu =>
      split at h <;> first
        | (cases h; done)
        | (cases rx; cases ry; injection h with h; subst h; simp [run_underlying' hu]; done)
    case h_7 hu =>
      split at h <;> first
        | (cases h; done)
        | (cases rx; cases ry; injection h with h; subst h; simp [run_underlying' hu]; done)
    case h_8 hu =>
      split at h <;> first
        | (cases h; done)
        | (cases rx; cases ry; injection h with h; subst h; simp [run_underlying' hu]; done)
    case h_9 fields hu =>
      split at h
      · rename_i xs ys
        split at h
        · cases h
        · rename_i hs
          obtain ⟨vs, rfl, hvs⟩ := agg_inv rx
          obtain ⟨us, rfl, hus⟩ := agg_inv ry
          have hs' : P.stoodInHeld t = false := by simpa using hs
          have := eqFields_sound (w := w) (g := Op.equalIn d) (fun t x y v u r => ih t x y v u r) fields.toList xs ys vs us r h hvs hus
          simp only [Sem.run_bind, run_underlying' hu, Result.andThen_ok, run_program, hs', Bool.false_eq_true, if_false, Sem.run_pure]
          rw [← Sem.run_bind]
          simpa using this
      · cases h
    case h_10 => cases h

end
end Go.Proofs.Ytnajopkaepjncaa.Am

/- The abstract machine is right, second part: each operation that neither reads nor writes cells. -/
namespace Go.Proofs.Ytnajopkaepjncaa.Am
set_option linter.unusedVariables false
set_option linter.unusedSimpArgs false
open Go.RowKit

section
variable {P : Program} {M : Mem} {w : World}

theorem add_addr (b off n : Nat) : (⟨b, off, none⟩ : Addr).add n = ⟨b, off + n, none⟩ := by
  unfold Addr.add; split <;> simp_all

theorem flat_len {sz : Nat} : ∀ (l : List AV), (∀ x ∈ l, x.cells.length = sz) → (flat l).length = l.length * sz := by
  intro l
  induction l with
  | nil => intro _; simp [flat]
  | cons x r ih =>
    intro h
    have h1 := h x (by simp)
    have h2 := ih (fun y hy => h y (by simp [hy]))
    simp only [flat, List.flatMap_cons, List.length_append, List.length_cons] at *
    rw [h1, h2, Nat.add_mul]; omega
theorem flat_at {sz : Nat} : ∀ (l : List AV), (∀ x ∈ l, x.cells.length = sz) → ∀ (i j : Nat) (x : AV), l[i]? = some x → j < sz → (flat l).getD (i * sz + j) .undef = x.cells.getD j .undef := by
  intro l
  induction l with
  | nil => intro _ i j x hi; simp at hi
  | cons y r ih =>
    intro h i j x hi hj
    have h1 := h y (by simp)
    have hr : ∀ x ∈ r, x.cells.length = sz := fun z hz => h z (by simp [hz])
    cases i with
    | zero =>
      simp only [List.getElem?_cons_zero, Option.some.injEq] at hi; subst hi
      simp only [flat, List.flatMap_cons, Nat.zero_mul, Nat.zero_add, List.getD_eq_getElem?_getD]
      rw [List.getElem?_append_left (by omega)]
    | succ i =>
      simp only [List.getElem?_cons_succ] at hi
      have := ih hr i j x hi hj
      simp only [flat, List.flatMap_cons, List.getD_eq_getElem?_getD] at *
      rw [List.getElem?_append_right (by rw [h1, Nat.add_mul]; omega), h1]
      rw [← this]
      congr 2
      rw [Nat.add_mul]; omega

theorem idx_lt {i n sz j : Nat} (h : i < n) (hj : j < sz) : i * sz + j < n * sz := by
  have : (i + 1) * sz ≤ n * sz := Nat.mul_le_mul_right _ h
  rw [Nat.add_mul] at this; omega

/-- An element's own cells. -/
theorem lst_elem {e : TypeId} {xs sp : List AV} {v : Value} (r : Rep P M (.lst e xs sp) v) (i : Nat) (x : AV) (hx : (xs ++ sp)[i]? = some x) :
    ∃ b off cap sz, sizeT P e = some sz ∧ 0 < sz ∧ v = .slice (some ⟨b, off, none⟩) xs.length cap ∧ Rep P M (.ept x.cells 0) (.pointer (some ⟨b, off + i * sz, none⟩)) ∧ x.cells.length = sz := by
  cases r with
  | lst _ _ _ a cap sz b off c hsz hz hall hcap ha hc hr h1 =>
    have hne : xs ++ sp ≠ [] := by intro e; rw [e] at hx; simp at hx
    obtain rfl := ha hne
    have hlt : i < (xs ++ sp).length := by
      rcases Nat.lt_or_ge i (xs ++ sp).length with h | h
      · exact h
      · rw [List.getElem?_eq_none h] at hx; cases hx
    have hxl : x.cells.length = sz := hall x (List.mem_of_getElem? hx)
    have hfl := flat_len _ hall
    refine ⟨b, off, cap, sz, hsz, hz, rfl, ?_, hxl⟩
    have := Rep.ept (P := P) (M := M) x.cells 0 b (off + i * sz) (fun j => c (i * sz + j)) ?_ ?_ ?_
    · simpa using this
    · intro j hj
      have := hc (i * sz + j) (by rw [hfl]; exact idx_lt hlt (by omega))
      rw [← Nat.add_assoc] at this; exact this
    · intro j hj
      have := hr (i * sz + j) (by rw [hfl]; exact idx_lt hlt (by omega))
      rw [flat_at _ hall i j x hx (by omega)] at this; exact this
    · intro j hj
      exact h1 (i * sz + j) (by rw [hfl]; exact idx_lt hlt (by omega))

/-! ### cuts -/
theorem slice_bound {x : AV} {v : Value} {i : Nat} {y top : Nat} {code : BoundsCode} (r : Rep P M x v) (h : boundA (some x) 0 top = some i) (ht : top ≤ y) : (Instr.sliceBound v y code).run P w = .ok i w ∧ i ≤ top := by
  unfold boundA at h
  split at h
  · rename_i h'; cases h'
  · rename_i h'
    injection h' with h'
    subst h'
    cases r
    split at h
    · rename_i hi
      injection h with h; subst h
      refine ⟨?_, by omega⟩
      simp only [Instr.sliceBound, asIntOf, Sem.run_bind, Sem.run_pure, Result.andThen_ok]
      rw [if_pos (by omega)]; rfl
    · cases h
  · cases h
theorem boundA_dflt {x : AV} {d d' top : Nat} : boundA (some x) d top = boundA (some x) d' top := by unfold boundA; cases x <;> rfl

def optRep (P : Program) (M : Mem) : Option AV → Option Value → Prop
  | none, none => True
  | some x, some v => Rep P M x v
  | _, _ => False

theorem bounds_sound {lo hi mx : Option AV} {lo' hi' mx' : Option Value} (rl : optRep P M lo lo') (rh : optRep P M hi hi') (rm : optRep P M mx mx') {len cap kn m h l : Nat} {isS : Bool}
    (hm : boundA mx kn kn = some m) (hh : boundA hi len m = some h) (hl : boundA lo 0 h = some l) (hk : kn ≤ cap) (hlen : len ≤ kn) (hmh : mx.isSome → hi.isSome) :
    ∃ m', (Instr.sliceBounds isS len cap lo' hi' mx').run P w = .ok (l, h, m') w ∧ l ≤ h ∧ h ≤ m ∧ m ≤ m' ∧ m' ≤ cap ∧ m ≤ kn := by
  unfold Instr.sliceBounds
  cases mx with
  | none =>
    cases mx' with
    | some _ => exact rm.elim
    | none =>
      simp only [boundA, Option.some.injEq] at hm; subst hm
      cases hi with
      | none =>
        cases hi' with
        | some _ => exact rh.elim
        | none =>
          simp only [boundA, Option.some.injEq] at hh; subst hh
          cases lo with
          | none =>
            cases lo' with
            | some _ => exact rl.elim
            | none => simp only [boundA, Option.some.injEq] at hl; subst hl; exact ⟨cap, by simp, by omega, by omega, by omega, by omega, by omega⟩
          | some x =>
            cases lo' with
            | none => exact rl.elim
            | some v =>
              have hb := slice_bound (w := w) (code := if (Option.none : Option Value).isSome then .slice3C else .sliceB) rl hl (Nat.le_refl _)
              exact ⟨cap, by simp [hb.1] at *; simp [hb.1], by omega, by omega, by omega, by omega, by omega⟩
      | some y =>
        cases hi' with
        | none => exact rh.elim
        | some v =>
          rw [boundA_dflt (d' := 0)] at hh
          have hb := slice_bound (w := w) (y := cap) (code := if isS then .sliceAcap else .sliceAlen) rh hh hk
          cases lo with
          | none =>
            cases lo' with
            | some _ => exact rl.elim
            | none => simp only [boundA, Option.some.injEq] at hl; subst hl; exact ⟨cap, by simp [hb.1], by omega, by omega, by omega, by omega, by omega⟩
          | some x =>
            cases lo' with
            | none => exact rl.elim
            | some v' =>
              have hb2 := slice_bound (w := w) (code := .sliceB) rl hl (Nat.le_refl _)
              exact ⟨cap, by simp [hb.1, hb2.1], by omega, by omega, by omega, by omega, by omega⟩
  | some z =>
    cases mx' with
    | none => exact rm.elim
    | some vz =>
      rw [boundA_dflt (d' := 0)] at hm
      have hb0 := slice_bound (w := w) (y := cap) (code := if isS then .slice3Acap else .slice3Alen) rm hm hk
      cases hi with
      | none => simp at hmh
      | some y =>
        cases hi' with
        | none => exact rh.elim
        | some v =>
          rw [boundA_dflt (d' := 0)] at hh
          have hb := slice_bound (w := w) (y := m) (code := .slice3B) rh hh (Nat.le_refl _)
          cases lo with
          | none =>
            cases lo' with
            | some _ => exact rl.elim
            | none => simp only [boundA, Option.some.injEq] at hl; subst hl; exact ⟨m, by simp [hb0.1, hb.1], by omega, by omega, by omega, by omega, by omega⟩
          | some x =>
            cases lo' with
            | none => exact rl.elim
            | some v' =>
              have hb2 := slice_bound (w := w) (code := .slice3C) rl hl (Nat.le_refl _)
              exact ⟨m, by simp [hb0.1, hb.1, hb2.1], by omega, by omega, by omega, by omega, by omega⟩

theorem flat_append (xs ys : List AV) : flat (xs ++ ys) = flat xs ++ flat ys := by simp [flat]

/-- A part of a list. -/
theorem lst_sub {e : TypeId} {xs sp : List AV} {a : Option Addr} {cap sz b off : Nat} {c : Nat → Value} (hsz : sizeT P e = some sz) (hz : 0 < sz)
      (hall : ∀ x ∈ xs ++ sp, x.cells.length = sz) (hcap : xs.length + sp.length ≤ cap) (ha : xs ++ sp ≠ [] → a = some ⟨b, off, none⟩)
      (hc : ∀ j, j < (flat (xs ++ sp)).length → M.pm b (off + j) = some (c j))
      (hr : ∀ j, j < (flat (xs ++ sp)).length → Rep P M ((flat (xs ++ sp)).getD j .undef) (c j))
      (h1 : ∀ j, j < (flat (xs ++ sp)).length → (c j).oneCell' = true) (l h m m' : Nat) (hlh : l ≤ h) (hhm : h ≤ m) (hm : m ≤ xs.length + sp.length) (hmm : m ≤ m') (a' : Option Addr) (ha' : l < m → a' = some ⟨b, off + l * sz, none⟩) :
      Rep P M (.lst e (((xs ++ sp).take h).drop l) (((xs ++ sp).take m).drop h)) (.slice a' (h - l) (m' - l)) := by
  have hlen : (((xs ++ sp).take h).drop l).length = h - l := by simp; omega
  have hlen2 : (((xs ++ sp).take m).drop h).length = m - h := by simp; omega
  have hcat : ((xs ++ sp).take h).drop l ++ ((xs ++ sp).take m).drop h = ((xs ++ sp).take m).drop l := by
    apply List.ext_getElem?
    intro i
    rw [List.getElem?_append, hlen]
    by_cases hi : i < h - l
    · rw [if_pos hi, List.getElem?_drop, List.getElem?_drop, List.getElem?_take, List.getElem?_take, if_pos (by omega), if_pos (by omega)]
    · rw [if_neg hi, List.getElem?_drop, List.getElem?_drop]
      congr 1
      omega
  have hfl := flat_len _ hall
  have hall' : ∀ x ∈ ((xs ++ sp).take m).drop l, x.cells.length = sz := fun x hx => hall x (List.mem_of_mem_take (List.mem_of_mem_drop hx))
  have hfl' := flat_len _ hall'
  have hl3 : (((xs ++ sp).take m).drop l).length = m - l := by simp; omega
  have hget : ∀ j, j < (m - l) * sz → (flat (((xs ++ sp).take m).drop l)).getD j .undef = (flat (xs ++ sp)).getD (l * sz + j) .undef := by
    intro j hj
    have hq : j / sz < m - l := by rw [Nat.div_lt_iff_lt_mul hz]; exact hj
    have hmod := Nat.mod_lt j hz
    have hjj : j = j / sz * sz + j % sz := by rw [Nat.mul_comm]; exact (Nat.div_add_mod j sz).symm
    have hx1 : (xs ++ sp)[l + j / sz]? = some ((xs ++ sp)[l + j / sz]'(by simp; omega)) := List.getElem?_eq_getElem _
    have hx2 : (((xs ++ sp).take m).drop l)[j / sz]? = some ((xs ++ sp)[l + j / sz]'(by simp; omega)) := by
      rw [List.getElem?_drop, List.getElem?_take, if_pos (by omega)]; exact hx1
    have e1 := flat_at _ hall' (j / sz) (j % sz) _ hx2 hmod
    have e2 := flat_at _ hall (l + j / sz) (j % sz) _ hx1 hmod
    rw [← hjj] at e1
    rw [e1, ← e2]
    congr 1
    rw [Nat.add_mul]; omega
  have hbound : ∀ j, j < (m - l) * sz → l * sz + j < (flat (xs ++ sp)).length := by
    intro j hj
    rw [hfl, List.length_append]
    have : l * sz + (m - l) * sz = m * sz := by rw [← Nat.add_mul]; congr 1; omega
    have h2 : m * sz ≤ (xs.length + sp.length) * sz := Nat.mul_le_mul_right _ hm
    omega
  have key := Rep.lst (P := P) (M := M) e (((xs ++ sp).take h).drop l) (((xs ++ sp).take m).drop h) a' (m' - l) sz b (off + l * sz) (fun j => c (l * sz + j)) hsz hz
    (by rw [hcat]; exact hall') (by rw [hlen, hlen2]; omega)
    (by
      intro hne
      refine ha' ?_
      rw [hcat] at hne
      rcases Nat.lt_or_ge l m with h' | h'
      · exact h'
      · exact absurd (List.eq_nil_of_length_eq_zero (by rw [hl3]; omega)) hne)
    (by rw [hcat, hfl', hl3]; intro j hj; have := hc _ (hbound j hj); rw [← Nat.add_assoc] at this; exact this)
    (by rw [hcat, hfl', hl3]; intro j hj; rw [hget j hj]; exact hr _ (hbound j hj))
    (by rw [hcat, hfl', hl3]; intro j hj; exact h1 _ (hbound j hj))
  rw [hlen] at key
  exact key

end
end Go.Proofs.Ytnajopkaepjncaa.Am

/- The abstract machine is right, third part: whatever operation neither reads nor writes cells. -/
namespace Go.Proofs.Ytnajopkaepjncaa.Am
set_option linter.unusedVariables false
set_option linter.unusedSimpArgs false
open Go.RowKit

section
variable {P : Program} {M : Mem} {w : World}

/-! ### comparisons -/
def plainV : Value → Bool
  | .int _ _ => false
  | .float _ _ => false
  | .complex _ _ _ => false
  | .string _ => false
  | _ => true
theorem plain_rep {x : AV} {v : Value} (r : Rep P M x v) (h : plainA x = true) : plainV v = true := by
  cases r <;> simp [plainA] at h <;> rfl
theorem binOp_eql {t : TypeId} {v u : Value} (h : plainV v = true) : Go.binOp .eql t v u = (do pure (.bool (← Op.equal t v u))) := by
  cases v <;> first
    | (simp [plainV] at h; done)
    | rfl
    | (cases u <;> rfl)
theorem binOp_neq {t : TypeId} {v u : Value} (h : plainV v = true) : Go.binOp .neq t v u = (do pure (.bool (!(← Op.equal t v u)))) := by
  cases v <;> first
    | (simp [plainV] at h; done)
    | rfl
    | (cases u <;> rfl)
theorem guard_plain {op : BinOp} {t : TypeId} {x y : Operand} {v u : Value} (h : (∀ k n, v ≠ .int k n → True) ) : True := trivial
theorem guard_int {op : BinOp} {t : TypeId} {x y : Operand} {k k' : IntKind} {m n : Int} : (eqGuard op t x y (.int k m) (.int k' n)).run P w = .ok () w := by
  unfold eqGuard; cases op <;> rfl
theorem guard_str {op : BinOp} {t : TypeId} {x y : Operand} {m n : ByteArray} : (eqGuard op t x y (.string m) (.string n)).run P w = .ok () w := by
  unfold eqGuard; cases op <;> rfl
theorem isConst_matches (x : Operand) : (match x with | .const _ => true | _ => false) = isConst x := by cases x <;> rfl
theorem guard_eq {op : BinOp} (hop : op = .eql ∨ op = .neq) {t : TypeId} {x y : Operand} {a b : AV} {v u : Value} (ra : Rep P M a v) (rb : Rep P M b u) (hp : plainA a = true) (h : eqGuardA P t x y a b = true) (hb : b ≠ .undef) :
    (eqGuard op t x y v u).run P w = .ok () w := by
  have key : ∀ op', (op' = BinOp.eql ∨ op' = BinOp.neq) → (eqGuard op' t x y v u).run P w = .ok () w := by
    intro op' ho
    have hm : (!(match op' with | .eql => true | .neq => true | _ => false)) = false := by rcases ho with rfl | rfl <;> rfl
    cases ra <;> simp [plainA] at hp
    case nili =>
      cases rb <;> first
        | (exact absurd rfl hb)
        | (unfold eqGuard; rcases ho with rfl | rfl <;> rfl)
        | skip
      simp only [eqGuardA, Bool.or_eq_true] at h
      unfold eqGuard
      rcases ho with rfl | rfl <;> rcases h with h | h <;> (cases x <;> cases y <;> simp [isConst] at h <;> simp)
    case agg cs vs hl hh h1 =>
      cases rb <;> first
        | (exact absurd rfl hb)
        | (unfold eqGuard; rcases ho with rfl | rfl <;> rfl)
        | skip
      simp only [eqGuardA, Bool.not_eq_true'] at h
      unfold eqGuard
      rcases ho with rfl | rfl <;> simp [h]
    all_goals
      cases rb <;> first
        | (exact absurd rfl hb)
        | (unfold eqGuard; rcases ho with rfl | rfl <;> rfl)
  exact key op hop

theorem eqIn_undef {d : Nat} {t : TypeId} {x : AV} {r : Bool} : eqIn P d t x .undef ≠ some r := by
  cases d with
  | zero => simp [eqIn]
  | succ d => unfold eqIn; split <;> (try split) <;> simp_all

theorem intOp_sound {op : BinOp} {k : IntKind} {m n : Int} {r : AV} (h : intOp op k m n = some r) (t : TypeId) : ∃ v, (Go.binOp op t (.int k m) (.int k n)).run P w = .ok v w ∧ Rep P M r v := by
  cases op <;> simp only [intOp] at h
  case quo => split at h; cases h; rename_i hz; injection h with h; subst h; exact ⟨_, by simp [Go.binOp, Op.intDiv, hz], .int _ _⟩
  case rem => split at h; cases h; rename_i hz; injection h with h; subst h; exact ⟨_, by simp [Go.binOp, Op.intDiv, hz], .int _ _⟩
  case shl => cases h
  case shr => cases h
  all_goals
    injection h with h; subst h
    first
      | (refine ⟨_, ?_, .bool _⟩; simp only [Go.binOp, ne_eq, not_true_eq_false, if_false]; rfl)
      | (refine ⟨_, ?_, .int _ _⟩; simp only [Go.binOp, ne_eq, not_true_eq_false, if_false]; rfl)

theorem bytes_toList (l : List UInt8) : (⟨⟨l⟩⟩ : ByteArray).toList = l := ByteArray.toList_eq ⟨⟨l⟩⟩

theorem strOp_sound {op : BinOp} {m n : List UInt8} {r : AV} (h : strOp op m n = some r) (t : TypeId) : ∃ v, (Go.binOp op t (.string ⟨⟨m⟩⟩) (.string ⟨⟨n⟩⟩)).run P w = .ok v w ∧ Rep P M r v := by
  have e : Go.binOp op t (.string ⟨⟨m⟩⟩) (.string ⟨⟨n⟩⟩) = Op.stringOp op ⟨⟨m⟩⟩ ⟨⟨n⟩⟩ := by cases op <;> rfl
  rw [e]
  cases op <;> simp only [strOp] at h <;> try (cases h; done)
  case add =>
    split at h
    · rename_i hl
      injection h with h; subst h
      refine ⟨.string ⟨⟨m ++ n⟩⟩, ?_, .str _⟩
      have h1 : ¬ (((ByteArray.size ⟨⟨m⟩⟩ + ByteArray.size ⟨⟨n⟩⟩ : Nat) : Int) > IntKind.i64.max) := by
        have : IntKind.i64.max = 9223372036854775807 := by decide
        rw [this]
        simp only [ByteArray.size, List.size_toArray]
        omega
      have h2 : (⟨⟨m⟩⟩ ++ ⟨⟨n⟩⟩ : ByteArray) = ⟨⟨m ++ n⟩⟩ := by
        apply ByteArray.ext
        simp
      simp only [Op.stringOp, if_neg h1, h2, Sem.run_pure]
    · cases h
  all_goals
    injection h with h; subst h
    exact ⟨_, by simp only [Op.stringOp, bytes_toList, Sem.run_pure], .bool _⟩

theorem binOp_sound {op : BinOp} {t yt : TypeId} {x y : Operand} {a b r : AV} {v u : Value} (h : binOpA P op t x y a b = some r) (ra : Rep P M a v) (rb : Rep P M b u) :
    ∃ z, ((do eqGuard op t x y v u; Go.binOp op t v u : Sem Value)).run P w = .ok z w ∧ Rep P M r z := by
  unfold binOpA at h
  split at h
  · rename_i k m k' n
    obtain rfl := int_inv ra
    obtain rfl := int_inv rb
    simp only [Sem.run_bind, guard_int, Result.andThen_ok]
    have sh : ∀ op', (op' = BinOp.shl ∨ op' = BinOp.shr) → shiftOp op' k m n = some r → ∃ z, (Go.binOp op' t (.int k m) (.int k' n)).run P w = .ok z w ∧ Rep P M r z := by
      intro op' ho hs
      unfold shiftOp at hs
      split at hs
      · cases hs
      · rename_i hn
        rcases ho with rfl | rfl <;> simp only at hs <;> injection hs with hs <;> subst hs <;> exact ⟨_, by simp [Go.binOp, Op.shift, hn], .int _ _⟩
    split at h
    · exact sh _ (.inl rfl) h
    · exact sh _ (.inr rfl) h
    · split at h
      · rename_i hk; subst hk; exact intOp_sound h t
      · cases h
  · obtain rfl := str_inv ra
    obtain rfl := str_inv rb
    simp only [Sem.run_bind, guard_str, Result.andThen_ok]
    exact strOp_sound h t
  · split at h
    · split at h
      · rename_i hg
        simp only [Bool.and_eq_true] at hg
        cases he : eqIn P 10000 t a b with
        | none => simp [he] at h
        | some q =>
          simp only [he, Option.map_some, Option.some.injEq] at h; subst h
          have hb : b ≠ .undef := by rintro rfl; exact eqIn_undef he
          refine ⟨.bool q, ?_, .bool _⟩
          simp only [Sem.run_bind, guard_eq (.inl rfl) ra rb hg.1 hg.2 hb, Result.andThen_ok, binOp_eql (plain_rep ra hg.1), Op.equal]
          rw [show Op.maxDepth = 10000 from rfl, eqIn_sound 10000 t a b v u q he ra rb]
          rfl
      · cases h
    · split at h
      · rename_i hg
        simp only [Bool.and_eq_true] at hg
        cases he : eqIn P 10000 t a b with
        | none => simp [he] at h
        | some q =>
          simp only [he, Option.map_some, Option.some.injEq] at h; subst h
          have hb : b ≠ .undef := by rintro rfl; exact eqIn_undef he
          refine ⟨.bool !q, ?_, .bool _⟩
          simp only [Sem.run_bind, guard_eq (.inr rfl) ra rb hg.1 hg.2 hb, Result.andThen_ok, binOp_neq (plain_rep ra hg.1), Op.equal]
          rw [show Op.maxDepth = 10000 from rfl, eqIn_sound 10000 t a b v u q he ra rb]
          rfl
      · cases h
    · cases h

theorem unOp_sound {op : UnOp} {x r : AV} {v : Value} (h : unOpA op x = some r) (rx : Rep P M x v) : ∃ z, (Op.unary op v).run P w = .ok z w ∧ Rep P M r z := by
  unfold unOpA at h
  split at h
  · obtain rfl := int_inv rx; injection h with h; subst h; exact ⟨_, by simp [Op.unary, Op.intArith], .int _ _⟩
  · obtain rfl := int_inv rx
    simp only [intOp] at h
    injection h with h; subst h
    exact ⟨_, rfl, .int _ _⟩
  · obtain rfl := bool_inv rx; injection h with h; subst h; exact ⟨_, by simp [Op.unary], .bool _⟩
  · cases h

theorem conv_sound {src dst : TypeId} {x r : AV} {v : Value} (h : convA P src dst x = some r) (rx : Rep P M x v) : ∃ z, (Go.convert src dst v).run P w = .ok z w ∧ Rep P M r z := by
  unfold convA at h
  split at h
  · rename_i d k k' n hs hd
    obtain rfl := int_inv rx
    injection h with h; subst h
    exact ⟨_, by simp [Go.convert, run_underlying' hs, run_underlying' hd, Conv.intToInt], .int _ _⟩
  · rename_i d s hs hd
    obtain rfl := str_inv rx
    injection h with h; subst h
    refine ⟨.string ⟨⟨s⟩⟩, ?_, .str _⟩
    simp only [Go.convert, Sem.run_bind, run_underlying' hs, run_underlying' hd, Result.andThen_ok]
    cases d <;> rfl
  · cases h

end
end Go.Proofs.Ytnajopkaepjncaa.Am

/- The abstract machine is right, fourth part: one theorem for all operations that neither read nor write cells. -/
namespace Go.Proofs.Ytnajopkaepjncaa.Am
set_option linter.unusedVariables false
set_option linter.unusedSimpArgs false
open Go.RowKit

section
variable {P : Program} {M : Mem} {w : World}

/-! ### building -/
theorem set_range (off : Nat) : ∀ (l : List Value) (s : Nat) (cs : Array Value), off + s + l.length ≤ cs.size →
    ((l.zipIdx s).foldl (fun cs (c, j) => cs.setIfInBounds (off + j) c) cs).size = cs.size ∧
    ∀ k, ((l.zipIdx s).foldl (fun cs (c, j) => cs.setIfInBounds (off + j) c) cs).getD k undef = if off + s ≤ k ∧ k < off + s + l.length then l.getD (k - (off + s)) undef else cs.getD k undef := by
  intro l
  induction l with
  | nil => intro s cs h; refine ⟨rfl, fun k => ?_⟩; rw [if_neg (by simp)]; rfl
  | cons v r ih =>
    intro s cs h
    simp only [List.length_cons] at h
    simp only [List.zipIdx_cons, List.foldl_cons]
    obtain ⟨h1, h2⟩ := ih (s + 1) (cs.setIfInBounds (off + s) v) (by rw [Array.size_setIfInBounds]; omega)
    refine ⟨by rw [h1, Array.size_setIfInBounds], fun k => ?_⟩
    rw [h2 k]
    by_cases hk : k = off + s
    · subst hk
      rw [if_neg (by omega), if_pos (by simp)]
      simp only [Array.getD_eq_getD_getElem?, Nat.sub_self, List.getD_cons_zero]
      rw [Array.getElem?_setIfInBounds_self_of_lt (by omega)]
      rfl
    · by_cases hin : off + (s + 1) ≤ k ∧ k < off + (s + 1) + r.length
      · rw [if_pos hin, if_pos (by simp only [List.length_cons]; omega)]
        have : k - (off + s) = (k - (off + (s + 1))) + 1 := by omega
        rw [this, List.getD_cons_succ]
      · rw [if_neg hin, if_neg (by simp only [List.length_cons]; omega)]
        simp only [Array.getD_eq_getD_getElem?]
        rw [Array.getElem?_setIfInBounds_ne (by omega)]

theorem getD_splice (cs vs : List AV) (off k : Nat) (h : off + vs.length ≤ cs.length) :
    (splice cs off vs).getD k .undef = if off ≤ k ∧ k < off + vs.length then vs.getD (k - off) .undef else cs.getD k .undef := by
  unfold splice
  simp only [List.getD_eq_getElem?_getD]
  have ht : (cs.take off).length = off := by simp; omega
  by_cases h1 : k < off
  · rw [List.append_assoc, List.getElem?_append_left (by omega), List.getElem?_take, if_pos h1, if_neg (by omega)]
  · by_cases h2 : k < off + vs.length
    · rw [List.append_assoc, List.getElem?_append_right (by omega), List.getElem?_append_left (by omega), ht, if_pos (by omega)]
    · rw [List.getElem?_append_right (by simp; omega), if_neg (by omega)]
      simp only [List.length_append, ht, List.getElem?_drop]
      congr 2
      omega
theorem length_splice (cs vs : List AV) (off : Nat) (h : off + vs.length ≤ cs.length) : (splice cs off vs).length = cs.length := by
  unfold splice; simp; omega

theorem CellsRep.splice {cs : List AV} {vs : Array Value} (h : CellsRep P M cs vs) {ds : List AV} {us : Array Value} (k : CellsRep P M ds us) (off : Nat) (hl : off + ds.length ≤ cs.length) :
    CellsRep P M (Am.splice cs off ds) (us.zipIdx.foldl (fun cs (c, j) => cs.setIfInBounds (off + j) c) vs) := by
  have hus : us.toList.length = ds.length := by rw [Array.length_toList, k.size]
  have hz : us.zipIdx.foldl (fun cs (c, j) => cs.setIfInBounds (off + j) c) vs = (us.toList.zipIdx 0).foldl (fun cs (c, j) => cs.setIfInBounds (off + j) c) vs := by
    rw [← Array.foldl_toList, Array.toList_zipIdx]
  obtain ⟨h1, h2⟩ := set_range off us.toList 0 vs (by rw [hus, h.size]; omega)
  rw [hz]
  have hg : ∀ j, us.toList.getD j undef = us.getD j undef := by intro j; simp [List.getD_eq_getElem?_getD, Array.getD_eq_getD_getElem?]
  refine ⟨by rw [h1, h.size, length_splice _ _ _ hl], ?_, ?_⟩ <;> intro i hi <;> rw [length_splice _ _ _ hl] at hi <;> rw [h2 i, hus, Nat.add_zero]
  · rw [getD_splice _ _ _ _ hl]
    by_cases hin : off ≤ i ∧ i < off + ds.length
    · rw [if_pos hin, if_pos hin, hg]; exact k.at_ _ (by omega)
    · rw [if_neg hin, if_neg hin]; exact h.at_ _ hi
  · by_cases hin : off ≤ i ∧ i < off + ds.length
    · rw [if_pos hin, hg]; exact k.one _ (by omega)
    · rw [if_neg hin]; exact h.one _ hi

def PartsRep (P : Program) (M : Mem) : List (Nat × AV) → List (Nat × Value) → Prop
  | [], [] => True
  | (i, x) :: r, (j, v) :: s => i = j ∧ Rep P M x v ∧ PartsRep P M r s
  | _, _ => False

theorem fill_sound {place : Nat → Option (Nat × Nat)} : ∀ (ps : List (Nat × AV)) (qs : List (Nat × Value)) (cs ds : List AV) (vs : Array Value), fillA place cs ps = some ds → PartsRep P M ps qs → CellsRep P M cs vs →
    ∃ us, Instr.fill place vs qs = some us ∧ CellsRep P M ds us := by
  intro ps
  induction ps with
  | nil =>
    intro qs cs ds vs h hp hc
    cases qs with
    | nil => simp only [fillA, Option.some.injEq] at h; subst h; exact ⟨vs, rfl, hc⟩
    | cons _ _ => exact hp.elim
  | cons p r ih =>
    obtain ⟨i, x⟩ := p
    intro qs cs ds vs h hp hc
    cases qs with
    | nil => exact hp.elim
    | cons q s =>
      obtain ⟨j, v⟩ := q
      obtain ⟨rfl, rx, hp'⟩ := hp
      simp only [fillA] at h
      split at h
      · rename_i off size hpl
        split at h
        · rename_i hcond
          obtain ⟨c1, c2, c3⟩ := hcond
          have hx := cells_of rx (by omega)
          obtain ⟨us, hu, hcu⟩ := ih s _ ds (v.cells.zipIdx.foldl (fun cs (c, j) => cs.setIfInBounds (off + j) c) vs) h hp' (hc.splice hx off c3)
          refine ⟨us, ?_, hcu⟩
          simp only [Instr.fill, hpl]
          rw [if_neg, hu]
          have e1 := hx.size
          have e2 := hc.size
          simp only [Bool.or_eq_true, decide_eq_true_eq, not_or]
          omega
        · cases h
      · cases h

theorem cells_const : ∀ (vs : List Value) (cs : List AV), vs.mapM constAV = some cs → (∀ v ∈ vs, v.oneCell' = true) → CellsRep P M cs vs.toArray := by
  intro vs
  induction vs with
  | nil => intro cs h _; simp at h; subst h; exact ⟨rfl, fun i hi => by simp at hi, fun i hi => by simp at hi⟩
  | cons v r ih =>
    intro cs h h1
    rw [List.mapM_cons] at h
    cases hv : constAV v with
    | none => simp [hv] at h
    | some x =>
      cases hr : r.mapM constAV with
      | none => simp [hv, hr] at h
      | some xs =>
        simp [hv, hr] at h; subst h
        obtain ⟨a1, a2, a3⟩ := ih xs hr (fun v hv => h1 v (by simp [hv]))
        refine ⟨by simpa using a1, ?_, ?_⟩ <;> intro i hi <;> cases i with
        | zero => first | exact Rep.const hv | exact h1 v (by simp)
        | succ i =>
          simp only [List.length_cons] at hi
          first
            | (have := a2 i (by omega); simpa [Array.getD_eq_getD_getElem?, List.getD_eq_getElem?_getD] using this)
            | (have := a3 i (by omega); simpa [Array.getD_eq_getD_getElem?, List.getD_eq_getElem?_getD] using this)
theorem const_one {v : Value} {x : AV} (h : constAV v = some x) : v.oneCell' = true := by
  cases v <;> first | rfl | (simp [constAV] at h)
theorem mapM_const_one : ∀ (vs : List Value) (cs : List AV), vs.mapM constAV = some cs → ∀ v ∈ vs, v.oneCell' = true := by
  intro vs
  induction vs with
  | nil => intro cs _ v hv; simp at hv
  | cons u r ih =>
    intro cs h v hv
    rw [List.mapM_cons] at h
    cases hu : constAV u with
    | none => simp [hu] at h
    | some x =>
      cases hr : r.mapM constAV with
      | none => simp [hu, hr] at h
      | some xs =>
        rcases List.mem_cons.1 hv with rfl | hv
        · exact const_one hu
        · exact ih xs hr v hv
theorem zero_sound {t : TypeId} {z : List AV} (h : zeroT P t = some z) : ∃ v, (zeroValue t).run P w = .ok v w ∧ CellsRep P M z v.cells := by
  unfold zeroT at h
  split at h
  · rename_i i hi
    split at h
    · rename_i v hz
      refine ⟨v, ?_, ?_⟩
      · simp only [zeroValue, Sem.run_bind, run_typeInfo' hi, Result.andThen_ok, hz, Sem.run_pure]
      · have := cells_const (P := P) (M := M) v.cells.toList z h (mapM_const_one _ _ h)
        simpa using this
    · cases h
  · cases h

def placeSem (f : Field) : Sem (Nat × Nat) := do pure (f.offset, ← sizeOf f.type)
theorem places_sound (fields : List Field) (h : ∀ f ∈ fields, (sizeT P f.type).isSome = true) :
    ∃ ps : List (Nat × Nat), (fields.mapM placeSem).run P w = .ok ps w ∧ ∀ i : Nat, ps[i]? = (fields[i]?).bind fun (f : Field) => (sizeT P f.type).map fun n => (f.offset, n) := by
  induction fields with
  | nil => exact ⟨[], rfl, fun i => by simp⟩
  | cons f r ih =>
    obtain ⟨ps, h1, h2⟩ := ih (fun g hg => h g (by simp [hg]))
    obtain ⟨n, hn⟩ := Option.isSome_iff_exists.1 (h f (by simp))
    refine ⟨(f.offset, n) :: ps, ?_, ?_⟩
    · simp only [List.mapM_cons, Sem.run_bind, placeSem, run_sizeT hn, Result.andThen_ok, Sem.run_pure, h1]
    · intro i
      cases i with
      | zero => simp [hn]
      | succ i => simp [h2 i]

theorem build_sound {t : TypeId} {ps : List (Nat × AV)} {qs : Array (Nat × Value)} {r : AV} (h : buildA P t ps = some r) (hp : PartsRep P M ps qs.toList) : ∃ v, (Instr.build t qs).run P w = .ok v w ∧ Rep P M r v := by
  unfold buildA at h
  split at h
  · rename_i z fields hz hu
    split at h
    · rename_i hall
      cases hf : fillA (places P fields) z ps with
      | none => simp [hf] at h
      | some cs =>
        simp only [hf, Option.map_some, Option.some.injEq] at h; subst h
        obtain ⟨zv, hzr, hzc⟩ := zero_sound (M := M) (w := w) hz
        have hall' : ∀ f ∈ fields.toList, (sizeT P f.type).isSome = true := by
          intro f hf'
          have := (Array.all_eq_true_iff_forall_mem.1 hall) f (Array.mem_toList_iff.1 hf')
          exact this
        obtain ⟨pl, hpl, hpi⟩ := places_sound (w := w) fields.toList hall'
        obtain ⟨us, hus, hcu⟩ := fill_sound (place := places P fields) ps qs.toList z cs zv.cells hf hp hzc
        have hpp : (fun i => (pl.toArray)[i]?) = places P fields := by
          funext i
          rw [List.getElem?_toArray, hpi i]
          unfold places
          rw [Array.getElem?_toList]
          cases fields[i]? <;> rfl
        refine ⟨.agg us, ?_, .agg _ _ hcu.size hcu.at_ hcu.one⟩
        simp only [Instr.build, Sem.run_bind, hzr, Result.andThen_ok, run_underlying' hu]
        have hm : (fields.mapM placeSem).run P w = .ok pl.toArray w := by
          rw [Array.mapM_eq_mapM_toList]
          simp only [Sem.run_map, hpl, Result.andThen_ok]
        have hm' : (fields.mapM (fun (f : Field) => (do let n ← sizeOf f.type; pure (f.offset, n) : Sem (Nat × Nat)))).run P w = .ok pl.toArray w := hm
        simp only [hm', Result.andThen_ok, hpp, hus, Sem.run_pure]
    · cases h
  · rename_i z n elem hz hu
    split at h
    · rename_i size hs
      cases hf : fillA (fun i => some (i * size, size)) z ps with
      | none => simp [hf] at h
      | some cs =>
        simp only [hf, Option.map_some, Option.some.injEq] at h; subst h
        obtain ⟨zv, hzr, hzc⟩ := zero_sound (M := M) (w := w) hz
        obtain ⟨us, hus, hcu⟩ := fill_sound ps qs.toList z cs zv.cells hf hp hzc
        refine ⟨.agg us, ?_, .agg _ _ hcu.size hcu.at_ hcu.one⟩
        simp only [Instr.build, Sem.run_bind, hzr, Result.andThen_ok, run_underlying' hu, run_sizeT hs, hus, Sem.run_pure]
    · cases h
  · cases h

end
end Go.Proofs.Ytnajopkaepjncaa.Am

/- The abstract machine is right, fifth part: 'pureOp', whole. -/
namespace Go.Proofs.Ytnajopkaepjncaa.Am
set_option linter.unusedVariables false
set_option linter.unusedSimpArgs false
open Go.RowKit

section
variable {P : Program} {M : Mem} {w : World} {env : List (Nat × AV)} {ρ : Operand → Value}

/-- What the operands hold is what the machine says. -/
def OpsRel (P : Program) (M : Mem) (env : List (Nat × AV)) (ρ : Operand → Value) (xs : List Operand) : Prop := ∀ x ∈ xs, ∀ y, evalO env x = some y → Rep P M y (ρ x)

theorem evalParts_rel : ∀ (ps : List (Nat × Operand)) (vs : List (Nat × AV)), evalParts env ps = some vs → OpsRel P M env ρ (ps.map (·.2)) → PartsRep P M vs (ps.map fun (i, x) => (i, ρ x)) := by
  intro ps
  induction ps with
  | nil => intro vs h _; simp only [evalParts, Option.some.injEq] at h; subst h; trivial
  | cons p r ih =>
    obtain ⟨i, x⟩ := p
    intro vs h hr
    simp only [evalParts] at h
    split at h
    · rename_i v vs' hv hvs
      injection h with h; subst h
      exact ⟨rfl, hr x (by simp) v hv, ih vs' hvs (fun y hy => hr y (by simp only [List.map_cons, List.mem_cons]; exact .inr hy))⟩
    · cases h
theorem evalL_rel : ∀ (xs : List Operand) (vs : List AV), evalL env xs = some vs → OpsRel P M env ρ xs → (xs.map ρ).length = vs.length ∧ ∀ i, i < vs.length → Rep P M (vs.getD i .undef) ((xs.map ρ).getD i undef) := by
  intro xs
  induction xs with
  | nil => intro vs h _; simp only [evalL, Option.some.injEq] at h; subst h; exact ⟨rfl, fun i hi => by simp at hi⟩
  | cons x r ih =>
    intro vs h hr
    simp only [evalL] at h
    split at h
    · rename_i v vs' hv hvs
      injection h with h; subst h
      obtain ⟨h1, h2⟩ := ih vs' hvs (fun y hy => hr y (by simp [hy]))
      refine ⟨by simpa using h1, fun i hi => ?_⟩
      cases i with
      | zero => exact hr x (by simp) v hv
      | succ i =>
        simp only [List.length_cons] at hi
        have := h2 i (by omega)
        simpa [List.getD_eq_getElem?_getD] using this
    · cases h

theorem optA_rel {x : Option Operand} {y : Option AV} (h : optA env x = some y) (hr : OpsRel P M env ρ x.toList) : optRep P M y (x.map ρ) := by
  cases x with
  | none => simp only [optA, Option.some.injEq] at h; subst h; trivial
  | some o =>
    simp only [optA] at h
    cases ho : evalO env o with
    | none => simp [ho] at h
    | some v =>
      simp only [ho, Option.map_some, Option.some.injEq] at h; subst h
      exact hr o (by simp) v ho

theorem slice_sound {t : TypeId} {x r : AV} {lo hi mx : Option AV} {v : Value} {lo' hi' mx' : Option Value} (h : sliceA P t x lo hi mx = some r) (rx : Rep P M x v) (rl : optRep P M lo lo') (rh : optRep P M hi hi') (rm : optRep P M mx mx') :
    ∃ z, (Instr.sliceAt t v lo' hi' mx').run P w = .ok z w ∧ Rep P M r z := by
  unfold sliceA at h
  split at h
  · rename_i hu
    split at h
    · rename_i s
      obtain rfl := str_inv rx
      have hmx : mx' = none := by cases mx' with
        | none => rfl
        | some _ => exact rm.elim
      subst hmx
      split at h
      · rename_i hh hhi
        split at h
        · rename_i l hl
          injection h with h; subst h
          obtain ⟨m', hb, h1, h2, h3, h4, h5⟩ := bounds_sound (w := w) (isS := false) rl rh rm (kn := s.length) (len := s.length) (cap := s.length) (m := s.length) rfl hhi hl (Nat.le_refl _) (Nat.le_refl _) (by simp)
          refine ⟨.string ⟨⟨(s.take hh).drop l⟩⟩, ?_, .str _⟩
          have hsz : ByteArray.size ⟨⟨s⟩⟩ = s.length := by simp [ByteArray.size]
          have he : (⟨⟨s⟩⟩ : ByteArray).extract l hh = ⟨⟨(s.take hh).drop l⟩⟩ := by
            apply ByteArray.ext
            rw [ByteArray.data_extract]
            apply Array.ext'
            simp [List.drop_take]
          simp only [Instr.sliceAt, Instr.slice, Sem.run_bind, run_underlying' hu, Result.andThen_ok, hsz, hb, Option.isSome_none, Bool.false_eq_true, if_false, he, Sem.run_pure]
        · cases h
      · cases h
    · cases h
  · rename_i elem hu
    split at h
    · cases h
    · rename_i hmh0
      have hmh : mx.isSome → hi.isSome := by
        intro hs
        cases hi with
        | some _ => rfl
        | none => simp [hs] at hmh0
      have key : ∀ (a : Option Addr) (len cap kn m hh l : Nat), v = .slice a len cap → boundA mx kn kn = some m → boundA hi len m = some hh → boundA lo 0 hh = some l → kn ≤ cap → len ≤ kn →
          ∀ sz, sizeT P elem = some sz → ∃ m', (Instr.sliceAt t v lo' hi' mx').run P w = .ok (.slice (if m' = l then a else a.map (·.add (l * sz))) (hh - l) (m' - l)) w ∧ l ≤ hh ∧ hh ≤ m ∧ m ≤ m' ∧ m' ≤ cap ∧ m ≤ kn := by
        intro a len cap kn m hh l hv hm hhi hl hk hlen sz hsz
        subst hv
        obtain ⟨m', hb, h1, h2, h3, h4, h5⟩ := bounds_sound (w := w) (isS := true) rl rh rm hm hhi hl hk hlen hmh
        refine ⟨m', ?_, h1, h2, h3, h4, h5⟩
        simp only [Instr.sliceAt, Instr.slice, Sem.run_bind, run_underlying' hu, Result.andThen_ok, hb, run_sizeT hsz, Sem.run_pure]
      split at h
      · cases rx
        split at h
        · rename_i m hm
          split at h
          · rename_i hh hhi
            split at h
            · rename_i l sz hl hsz
              injection h with h; subst h
              obtain ⟨m', hb, h1, h2, h3, h4, h5⟩ := key none 0 0 0 m hh l rfl hm hhi hl (Nat.le_refl 0) (Nat.le_refl 0) sz hsz
              obtain rfl : m' = 0 := by omega
              obtain rfl : l = 0 := by omega
              obtain rfl : hh = 0 := by omega
              exact ⟨_, hb, .nils⟩
            · cases h
          · cases h
        · cases h
      · rename_i e xs sp
        cases rx with
        | lst _ _ _ a cap sz b off c hsz hz hall hcap ha hc hr h1 =>
          split at h
          · rename_i m hm
            split at h
            · rename_i hh hhi
              split at h
              · rename_i l hl
                split at h
                · rename_i he
                  subst he
                  injection h with h; subst h
                  obtain ⟨m', hrun, q1, q2, q3, q4, q5⟩ := key a xs.length cap (xs.length + sp.length) m hh l rfl hm hhi hl hcap (by omega) sz hsz
                  refine ⟨_, hrun, lst_sub hsz hz hall hcap ha hc hr h1 l hh m m' q1 q2 q5 q3 _ ?_⟩
                  intro hlm
                  rw [if_neg (by omega)]
                  have hne : xs ++ sp ≠ [] := by
                    intro e0
                    have : (xs ++ sp).length = 0 := by rw [e0]; rfl
                    rw [List.length_append] at this
                    omega
                  rw [ha hne, Option.map_some, add_addr]
                · cases h
              · cases h
            · cases h
          · cases h
      · rename_i e id off len
        cases rx with
        | sl _ _ _ _ b cap sz hf hsz hz hb hlc =>
          split at h
          · rename_i m hm
            split at h
            · rename_i hh hhi
              split at h
              · rename_i l sz' hl hsz'
                obtain rfl : sz = sz' := by rw [hsz] at hsz'; exact Option.some.inj hsz'
                split at h
                · rename_i he
                  subst he
                  split at h
                  · rename_i hcond
                    injection h with h; subst h
                    obtain ⟨m', hrun, q1, q2, q3, q4, q5⟩ := key (some ⟨b, off, none⟩) len cap len m hh l rfl hm hhi hl hlc (Nat.le_refl _) sz hsz
                    refine ⟨_, hrun, ?_⟩
                    have hadr : (if m' = l then some (⟨b, off, none⟩ : Addr) else (some (⟨b, off, none⟩ : Addr)).map (·.add (l * sz))) = some ⟨b, off + l * sz, none⟩ := by
                      by_cases hml : m' = l
                      · rw [if_pos hml]
                        obtain rfl : l = 0 := by omega
                        simp
                      · rw [if_neg hml, Option.map_some, add_addr]
                    rw [hadr]
                    refine .sl e id _ _ b _ sz hf hsz hz ?_ (by omega)
                    have : l * sz + (m' - l) * sz = m' * sz := by rw [← Nat.add_mul]; congr 1; omega
                    have h2 : m' * sz ≤ cap * sz := Nat.mul_le_mul_right _ q4
                    omega
                  · cases h
                · cases h
              · cases h
            · cases h
          · cases h
      · cases h
  · cases h

theorem fieldPlace_sound {s : TypeId} {f o : Nat} (h : fieldOff P s f = some o) : ∃ fields fd n, P.underlying s = some (.struct fields) ∧ fields[f]? = some fd ∧ sizeT P fd.type = some n ∧ n ≠ 0 ∧ fd.offset = o := by
  unfold fieldOff at h
  split at h
  · rename_i fields hu
    split at h
    · rename_i fd hf
      split at h
      · cases h
      · rename_i n hne hn
        injection h with h
        exact ⟨fields, fd, n, hu, hf, hn, by rintro rfl; exact hne rfl, h⟩
      · cases h
    · cases h
  · cases h
theorem run_fieldAt {s : TypeId} {f o b off : Nat} (h : fieldOff P s f = some o) : (Instr.fieldAt s (.pointer (some ⟨b, off, none⟩)) f).run P w = .ok (.pointer (some ⟨b, off + o, none⟩)) w := by
  obtain ⟨fields, fd, n, hu, hf, hn, hne, rfl⟩ := fieldPlace_sound h
  simp only [Instr.fieldAt, Sem.run_bind, run_underlying' hu, Result.andThen_ok, hf, Instr.sureAddr, Sem.run_pure, fieldPlace, run_sizeT hn, if_neg hne, add_addr]

theorem inRange_spec {i : Int} {n : Nat} (h : inRange i n = true) : 0 ≤ i ∧ i < n := by
  simp [inRange] at h; exact h

theorem indexAddr_sound {t : TypeId} {x i r : AV} {v u : Value} (h : indexAddrA P t x i = some r) (rx : Rep P M x v) (ri : Rep P M i u) : ∃ z, (Instr.indexAt t v u).run P w = .ok z w ∧ Rep P M r z := by
  unfold indexAddrA at h
  split at h
  · rename_i elem k n hu
    obtain rfl := int_inv ri
    split at h
    · rename_i e xs sp
      split at h
      · rename_i hc
        simp only [Bool.and_eq_true, beq_iff_eq, decide_eq_true_eq] at hc
        obtain ⟨he, hr⟩ := hc
        subst he
        obtain ⟨h0, h1⟩ := inRange_spec hr
        cases hx : xs[n.toNat]? with
        | none => simp [hx] at h
        | some y =>
          simp only [hx, Option.map_some, Option.some.injEq] at h; subst h
          obtain ⟨b, off, cap, sz, hsz, hz, rfl, hrep, _⟩ := lst_elem rx n.toNat y (by rw [List.getElem?_append_left (by omega)]; exact hx)
          refine ⟨_, ?_, hrep⟩
          simp only [Instr.indexAt, Sem.run_bind, asIntOf, Sem.run_pure, Result.andThen_ok, run_underlying' hu]
          rw [if_pos ⟨h0, h1⟩]
          simp only [Sem.run_bind, run_sizeT hsz, Result.andThen_ok, Sem.run_pure, add_addr]
      · cases h
    · rename_i e id off len
      split at h
      · rename_i sz' hsz'
        split at h
        · rename_i hc
          simp only [Bool.and_eq_true, beq_iff_eq, decide_eq_true_eq] at hc
          obtain ⟨he, hr⟩ := hc
          subst he
          obtain ⟨h0, h1⟩ := inRange_spec hr
          injection h with h; subst h
          cases rx with
          | sl _ _ _ _ b cap sz hf hsz hz hb hlc =>
            refine ⟨_, ?_, .ptr id _ b hf⟩
            simp only [Instr.indexAt, Sem.run_bind, asIntOf, Sem.run_pure, Result.andThen_ok, run_underlying' hu]
            rw [if_pos ⟨h0, h1⟩]
            simp only [Sem.run_bind, run_sizeT hsz', Result.andThen_ok, Sem.run_pure, add_addr]
        · cases h
      · cases h
    · cases h
  · rename_i len elem k n hu
    obtain rfl := int_inv ri
    split at h
    · rename_i sz hsz
      split at h
      · rename_i hr
        obtain ⟨h0, h1⟩ := inRange_spec hr
        have key : ∀ b off, (Instr.indexAt t (.pointer (some ⟨b, off, none⟩)) (.int k n)).run P w = .ok (.pointer (some ⟨b, off + n.toNat * sz, none⟩)) w := by
          intro b off
          simp only [Instr.indexAt, Sem.run_bind, asIntOf, Sem.run_pure, Result.andThen_ok, run_underlying' hu, Instr.sureAddr]
          rw [if_pos ⟨h0, h1⟩]
          simp only [Sem.run_bind, run_sizeT hsz, Result.andThen_ok, Sem.run_pure, add_addr]
        split at h
        · rename_i id off
          injection h with h; subst h
          cases rx with
          | ptr _ _ b hf => exact ⟨_, key b off, .ptr id _ b hf⟩
        · rename_i cs off
          injection h with h; subst h
          cases rx with
          | ept _ _ b o c hc hr h1 =>
            refine ⟨_, key b (o + off), ?_⟩
            rw [Nat.add_assoc]
            exact .ept cs _ b o c hc hr h1
        · cases h
      · cases h
    · cases h
  · cases h

theorem index_sound {t : TypeId} {x i r : AV} {v u : Value} (h : indexA P t x i = some r) (rx : Rep P M x v) (ri : Rep P M i u) : ∃ z, (Instr.index t v u).run P w = .ok z w ∧ Rep P M r z := by
  unfold indexA at h
  split at h
  · rename_i len elem cs k n hu
    obtain rfl := int_inv ri
    obtain ⟨vs, rfl, hvs⟩ := agg_inv rx
    split at h
    · rename_i sz hsz
      split at h
      · rename_i hr
        obtain ⟨h0, h1⟩ := inRange_spec hr
        obtain ⟨z, hz, rz⟩ := part_sound (w := w) h hvs
        refine ⟨z, ?_, rz⟩
        simp only [Instr.index, Sem.run_bind, asIntOf, Sem.run_pure, Result.andThen_ok, run_underlying' hu]
        rw [if_pos ⟨h0, h1⟩]
        simp only [Sem.run_bind, run_sizeT hsz, Result.andThen_ok, hz]
      · cases h
    · cases h
  · rename_i s k n hu
    obtain rfl := int_inv ri
    obtain rfl := str_inv rx
    split at h
    · rename_i h0
      cases hs : s[n.toNat]? with
      | none => simp [hs] at h
      | some b =>
        simp only [hs, Option.map_some, Option.some.injEq] at h; subst h
        refine ⟨.int .u8 b.toNat, ?_, .int _ _⟩
        have hb : (⟨⟨s⟩⟩ : ByteArray)[n.toNat]? = some b := by
          have hlt : n.toNat < s.length := by
            rcases Nat.lt_or_ge n.toNat s.length with h | h
            · exact h
            · rw [List.getElem?_eq_none h] at hs; cases hs
          have hlt' : n.toNat < ByteArray.size ⟨⟨s⟩⟩ := by simpa [ByteArray.size] using hlt
          rw [getElem?_pos (⟨⟨s⟩⟩ : ByteArray) n.toNat hlt']
          rw [List.getElem?_eq_getElem hlt] at hs
          exact hs
        simp only [Instr.index, Sem.run_bind, asIntOf, Sem.run_pure, Result.andThen_ok, run_underlying' hu, if_pos h0, hb]
    · cases h
  · cases h

end
end Go.Proofs.Ytnajopkaepjncaa.Am

/- The abstract machine is right, sixth part: 'pureOp' against the model's own step. -/
namespace Go.Proofs.Ytnajopkaepjncaa.Am
set_option linter.unusedVariables false
set_option linter.unusedSimpArgs false
open Go.RowKit

section
variable {P : Program} {M : Mem} {w : World} {env : List (Nat × AV)} {ρ : Operand → Value}

theorem pureOp_sound {o : Oper} {r : AV} (h : pureOp P env o.op = some r) (hr : OpsRel P M env ρ o.op.operands.toList) :
    ∃ v, (execOp ρ o).run P w = .ok (.value v) w ∧ Rep P M r v := by
  obtain ⟨dst, op, ty, pos, after, guard⟩ := o
  simp only at h hr
  unfold pureOp at h
  split at h
  case h_1 x => exact ⟨ρ x, rfl, hr x (by simp [Op.operands]) r h⟩
  case h_2 x => exact ⟨ρ x, rfl, hr x (by simp [Op.operands]) r h⟩
  case h_3 c a b =>
    split at h
    · rename_i t hc
      have := bool_inv (hr c (by simp [Op.operands]) _ hc)
      cases t
      · exact ⟨ρ b, by simp [execOp, this, asBool], hr b (by simp [Op.operands]) r h⟩
      · exact ⟨ρ a, by simp [execOp, this, asBool], hr a (by simp [Op.operands]) r h⟩
    · cases h
  case h_4 t parts =>
    split at h
    · rename_i ps hps
      have hp := evalParts_rel parts.toList ps hps (fun x hx => hr x (by simpa [Op.operands] using hx))
      obtain ⟨v, hv, rv⟩ := build_sound (w := w) (qs := parts.map fun (i, x) => (i, ρ x)) h (by simpa using hp)
      exact ⟨v, by simp only [execOp, Sem.run_bind, hv, Result.andThen_ok, Sem.run_pure], rv⟩
    · cases h
  case h_5 x =>
    split at h
    · rename_i i o hx; injection h with h; subst h
      have r1 := hr x (by simp [Op.operands]) _ hx
      generalize hv : ρ x = v at r1
      cases r1 with
      | ptr _ _ b hf => exact ⟨_, by simp only [execOp, hv]; rfl, .ptr _ _ b hf⟩
    · rename_i c o hx; injection h with h; subst h
      have r1 := hr x (by simp [Op.operands]) _ hx
      generalize hv : ρ x = v at r1
      cases r1 with
      | ept _ _ b o' c' hc hrr h1 => exact ⟨_, by simp only [execOp, hv]; rfl, .ept _ _ b o' c' hc hrr h1⟩
    · rename_i t v' hx; injection h with h; subst h
      have r1 := hr x (by simp [Op.operands]) _ hx
      generalize hv : ρ x = v at r1
      cases r1 with
      | iface _ _ u hu => exact ⟨_, by simp only [execOp, hv]; rfl, .iface _ _ u hu⟩
    · rename_i f c hx; injection h with h; subst h
      have r1 := hr x (by simp [Op.operands]) _ hx
      generalize hv : ρ x = v at r1
      cases r1 with
      | fn _ _ vs hl hh => exact ⟨_, by simp only [execOp, hv]; rfl, .fn _ _ vs hl hh⟩
    · cases h
  case h_6 op t x y yt =>
    split at h
    · rename_i a b ha hb
      obtain ⟨z, hz, rz⟩ := binOp_sound (w := w) h (hr x (by simp [Op.operands]) _ ha) (hr y (by simp [Op.operands]) _ hb) (yt := yt)
      refine ⟨z, ?_, rz⟩
      simp only [Sem.run_bind] at hz
      simp only [execOp, Sem.run_bind, hz, Result.andThen_ok, Sem.run_pure]
    · cases h
  case h_7 op t x =>
    split at h
    · rename_i a ha
      obtain ⟨z, hz, rz⟩ := unOp_sound (w := w) h (hr x (by simp [Op.operands]) _ ha)
      exact ⟨z, by simp only [execOp, Sem.run_bind, hz, Result.andThen_ok, Sem.run_pure], rz⟩
    · cases h
  case h_8 src d x =>
    split at h
    · rename_i a ha
      obtain ⟨z, hz, rz⟩ := conv_sound (w := w) h (hr x (by simp [Op.operands]) _ ha)
      exact ⟨z, by simp only [execOp, Sem.run_bind, hz, Result.andThen_ok, Sem.run_pure], rz⟩
    · cases h
  case h_9 t x =>
    split at h
    · cases h
    · rename_i a d hni ha hd
      injection h with h; subst h
      refine ⟨.iface t (ρ x), ?_, .iface _ _ _ (hr x (by simp [Op.operands]) _ ha)⟩
      simp only [execOp, Instr.makeInterface, Sem.run_bind, run_underlying' hd, Result.andThen_ok]
      cases d <;> first | rfl | exact absurd rfl (hni _)
    · cases h
  case h_10 f first captured =>
    split at h
    · rename_i h0
      cases hc : evalL env captured.toList with
      | none => simp [hc] at h
      | some vs =>
        simp only [hc, Option.map_some, Option.some.injEq] at h; subst h
        obtain ⟨h1, h2⟩ := evalL_rel captured.toList vs hc (fun x hx => hr x (by simp only [Op.operands, Array.toList_append, List.mem_append]; exact .inr hx))
        have hf : first = #[] := Array.eq_empty_of_size_eq_zero h0
        subst hf
        refine ⟨.func (.func f) #[] (captured.map ρ), by simp [execOp, Instr.makeFunc], .fn f vs _ (by simpa using h1) ?_⟩
        intro i hi
        have := h2 i hi
        simpa [List.getD_eq_getElem?_getD, Array.getD_eq_getD_getElem?] using this
    · cases h
  case h_11 t x lo hi mx =>
    split at h
    · rename_i a l hh m ha hl hhi hm
      obtain ⟨z, hz, rz⟩ := slice_sound (w := w) h (hr x (by simp [Op.operands]) _ ha) (optA_rel hl fun y hy => hr y (by simp [Op.operands]; simp at hy; simp [hy])) (optA_rel hhi fun y hy => hr y (by simp [Op.operands]; simp at hy; simp [hy])) (optA_rel hm fun y hy => hr y (by simp [Op.operands]; simp at hy; simp [hy]))
      exact ⟨z, by simp only [execOp, Sem.run_bind, hz, Result.andThen_ok, Sem.run_pure], rz⟩
    · cases h
  case h_12 s x f =>
    split at h
    · rename_i id off o hx ho
      injection h with h; subst h
      have := hr x (by simp [Op.operands]) _ hx
      generalize hv : ρ x = v at this
      cases this with
      | ptr _ _ b hf => exact ⟨_, by simp only [execOp, hv, Sem.run_bind, run_fieldAt ho, Result.andThen_ok, Sem.run_pure], .ptr _ _ b hf⟩
    · rename_i cs off o hx ho
      injection h with h; subst h
      have := hr x (by simp [Op.operands]) _ hx
      generalize hv : ρ x = v at this
      cases this with
      | ept _ _ b o' c hc hrr h1 =>
        refine ⟨.pointer (some ⟨b, o' + off + o, none⟩), by simp only [execOp, hv, Sem.run_bind, run_fieldAt ho, Result.andThen_ok, Sem.run_pure], ?_⟩
        rw [Nat.add_assoc]
        exact .ept cs _ b o' c hc hrr h1
    · cases h
  case h_13 t x f =>
    split at h
    · rename_i cs fields hx hu
      split at h
      · rename_i fd hf
        obtain ⟨vs, hvs, cvs⟩ := agg_inv (hr x (by simp [Op.operands]) _ hx)
        obtain ⟨z, hz, rz⟩ := part_sound (w := w) h cvs
        refine ⟨z, ?_, rz⟩
        simp only [execOp, Instr.field, Sem.run_bind, run_underlying' hu, Result.andThen_ok, hf, hvs, asAgg, Sem.run_pure, hz]
      · cases h
    · cases h
  case h_14 t x i =>
    split at h
    · rename_i a b ha hb
      obtain ⟨z, hz, rz⟩ := indexAddr_sound (w := w) h (hr x (by simp [Op.operands]) _ ha) (hr i (by simp [Op.operands]) _ hb)
      exact ⟨z, by simp only [execOp, Sem.run_bind, hz, Result.andThen_ok, Sem.run_pure], rz⟩
    · cases h
  case h_15 t x i =>
    split at h
    · rename_i a b ha hb
      obtain ⟨z, hz, rz⟩ := index_sound (w := w) h (hr x (by simp [Op.operands]) _ ha) (hr i (by simp [Op.operands]) _ hb)
      exact ⟨z, by simp only [execOp, Sem.run_bind, hz, Result.andThen_ok, Sem.run_pure], rz⟩
    · cases h
  case h_16 t i =>
    split at h
    · rename_i vs ht
      have := hr t (by simp [Op.operands]) _ ht
      generalize hv : ρ t = v at this
      cases this with
      | tup _ us hl hh =>
        have hlt : i < vs.length := by
          rcases Nat.lt_or_ge i vs.length with hlt | hge
          · exact hlt
          · rw [List.getElem?_eq_none hge] at h; cases h
        have hlt' : i < us.size := by omega
        refine ⟨us.getD i undef, ?_, ?_⟩
        · simp only [execOp, hv, Instr.extract, Sem.run_bind, Array.getElem?_eq_getElem hlt', Sem.run_pure, Result.andThen_ok, Array.getD_eq_getD_getElem?, Option.getD_some]
        · have := hh i hlt
          rw [List.getD_eq_getElem?_getD, h, Option.getD_some] at this
          exact this
    · cases h
  case h_17 args argTypes =>
    split at h
    · rename_i x t hargs htys
      have ea : args = #[x] := by apply Array.ext'; simpa using hargs
      have et : argTypes = #[t] := by apply Array.ext'; simpa using htys
      subst ea; subst et
      have hx : ∀ y, evalO env x = some y → Rep P M y (ρ x) := hr x (by simp [Op.operands, Call.operands])
      have key : ∀ d v n, P.underlying t = some d → ρ x = v → (Builtin.len_ #[t] ty #[v]).run P w = .ok (.int .i64 n) w → (execOp ρ { dst := dst, op := .call { callee := .builtin .len, args := #[x], argTypes := #[t] }, type := ty, pos := pos, after := after, guard := guard }).run P w = .ok (.value (.int .i64 n)) w := by
        intro d v n hd hv hl
        simp only [execOp, resolve, Sem.run_bind, Sem.run_pure, Result.andThen_ok, invoke, builtin, List.map_toArray, List.map_cons, List.map_nil, hv, hl]
      split at h
      · rename_i s hu he
        have e := str_inv (hx _ he)
        injection h with h; subst h
        refine ⟨_, key _ _ s.length hu e ?_, .int _ _⟩
        simp only [Builtin.len_, List.getElem?_toArray, List.getElem?_cons_zero, Sem.run_bind, run_underlying' hu, Result.andThen_ok, Sem.run_pure]; rfl
      · rename_i el e xs sp hu he
        have r1 := hx _ he
        injection h with h; subst h
        generalize hv : ρ x = v at r1
        cases r1 with
        | lst _ _ _ a cap sz b off c hsz hz hall hcap ha hc hr h1 =>
          refine ⟨_, key _ _ xs.length hu hv ?_, .int _ _⟩
          simp only [Builtin.len_, List.getElem?_toArray, List.getElem?_cons_zero, Sem.run_bind, run_underlying' hu, Result.andThen_ok, Sem.run_pure]; rfl
      · rename_i el e id off n hu he
        have r1 := hx _ he
        injection h with h; subst h
        generalize hv : ρ x = v at r1
        cases r1 with
        | sl _ _ _ _ b cap sz hf hsz hz hb hl =>
          refine ⟨_, key _ _ n hu hv ?_, .int _ _⟩
          simp only [Builtin.len_, List.getElem?_toArray, List.getElem?_cons_zero, Sem.run_bind, run_underlying' hu, Result.andThen_ok, Sem.run_pure]; rfl
      · rename_i el hu he
        have r1 := hx _ he
        injection h with h; subst h
        generalize hv : ρ x = v at r1
        cases r1 with
        | nils =>
          refine ⟨_, key _ _ 0 hu hv ?_, .int _ _⟩
          simp only [Builtin.len_, List.getElem?_toArray, List.getElem?_cons_zero, Sem.run_bind, run_underlying' hu, Result.andThen_ok, Sem.run_pure]; rfl
      · rename_i n el y hu he
        injection h with h; subst h
        refine ⟨_, key _ _ n hu rfl ?_, .int _ _⟩
        simp only [Builtin.len_, List.getElem?_toArray, List.getElem?_cons_zero, Sem.run_bind, run_underlying' hu, Result.andThen_ok, Sem.run_pure]; rfl
      · rename_i k e hu he
        have r1 := hx _ he
        injection h with h; subst h
        generalize hv : ρ x = v at r1
        cases r1 with
        | nilm =>
          refine ⟨_, key _ _ 0 hu hv ?_, .int _ _⟩
          simp only [Builtin.len_, List.getElem?_toArray, List.getElem?_cons_zero, Sem.run_bind, run_underlying' hu, Result.andThen_ok, Sem.run_pure]; rfl
      · cases h
    · cases h
  case h_18 x xt t ok =>
    split at h
    · cases h
    · rename_i t' v d hne hx hu
      cases hb : Nat.beq t' t with
      | false => rw [hb] at h; cases h
      | true =>
        have ht : t' = t := Nat.eq_of_beq_eq_true hb
        subst ht
        rw [hb] at h
        have := hr x (by simp [Op.operands]) _ hx
        generalize hv : ρ x = u at this
        cases this with
        | iface _ _ u' ru =>
          have hrun : (Instr.typeAssert (.iface t' u') xt t' ok).run P w = .ok (if ok then .tuple #[u', .bool true] else u') w := by
            unfold Instr.typeAssert
            simp only [Sem.run_bind, run_underlying' hu, Result.andThen_ok]
            cases d <;> first
              | exact absurd rfl (hne _ _ _ rfl)
              | simp
          refine ⟨if ok then .tuple #[u', .bool true] else u', by simp only [execOp, hv, Sem.run_bind, hrun, Result.andThen_ok, Sem.run_pure], ?_⟩
          cases ok with
          | true =>
            injection h with h; subst h
            refine .tup _ _ rfl fun i hi => ?_
            match i, hi with
            | 0, _ => exact ru
            | 1, _ => exact .bool true
          | false =>
            injection h with h; subst h
            exact ru
    · cases h
  case h_19 => cases h

end
end Go.Proofs.Ytnajopkaepjncaa.Am

/- What the abstract machine's memory has to do with Go's: blocks, lists that may be written on, and what a step leaves as it was. -/
namespace Go.Proofs.Ytnajopkaepjncaa.Am
set_option linter.unusedVariables false
set_option linter.unusedSimpArgs false
open Go.RowKit

/-- What is held of memory beside the values: up to where a block is written no more, where the machine's blocks lie, how large they are, whose end a block's is. -/
structure Gh where
  lim : Nat → Nat
  f : Nat → Option Nat
  bs : Nat → Nat
  owner : Nat → Option Loc

def pmOf (w : World) (G : Gh) (b o : Nat) : Option Value := if o < G.lim b then w.cell? ⟨b, o, none⟩ else none
def Gh.mem (G : Gh) (w : World) : Mem := ⟨pmOf w G, G.f, G.bs⟩

structure GOk (G : Gh) (w : World) : Prop where
  fin : ∀ id b, G.f id = some b → b < w.heap.size ∧ G.owner b = none
  new : ∀ b, w.heap.size ≤ b → G.lim b = 0 ∧ G.owner b = none ∧ G.bs b = 0

/-- A block of the machine's, as it lies in memory. -/
def BlkAt (P : Program) (M : Mem) (w : World) (b : Nat) (k : Blk) : Prop :=
  ∃ cs, w.heap[b]? = some (.cells cs k.e (0, 0)) ∧ k.cs.length ≤ cs.size ∧ cs.size = M.bs b ∧ (∀ j, j < k.cs.length → Rep P M (k.cs.getD j .undef) (cs.getD j undef)) ∧ ∀ j, j < k.cs.length → (cs.getD j undef).oneCell' = true

/-- There is a block at this number. -/
def Live (H : List (Option Blk)) (id : Nat) : Prop := ∃ k, H[id]? = some (some k)
theorem Live.lt {H : List (Option Blk)} {id : Nat} (h : Live H id) : id < H.length := by
  obtain ⟨k, hk⟩ := h; exact (List.getElem?_eq_some_iff.1 hk).1
theorem Live.append {H : List (Option Blk)} {id : Nat} (h : Live H id) (E : List (Option Blk)) : Live (H ++ E) id := by
  obtain ⟨k, hk⟩ := h
  exact ⟨k, by rw [List.getElem?_append_left (Live.lt ⟨k, hk⟩)]; exact hk⟩
theorem Live.set {H : List (Option Blk)} {id : Nat} (h : Live H id) (j : Nat) (k : Blk) : Live (H.set j (some k)) id := by
  by_cases hj : j = id
  · subst hj; exact ⟨k, by rw [List.getElem?_set_self h.lt]⟩
  · obtain ⟨q, hq⟩ := h; exact ⟨q, by rw [List.getElem?_set_ne hj]; exact hq⟩

structure HeapRel (P : Program) (G : Gh) (H : List (Option Blk)) (w : World) : Prop where
  dom : ∀ id b, G.f id = some b → Live H id
  blk : ∀ id b k, G.f id = some b → H[id]? = some (some k) → BlkAt P (G.mem w) w b k
  inj : ∀ i j b k l, G.f i = some b → G.f j = some b → H[i]? = some (some k) → H[j]? = some (some l) → k.cs ≠ [] → l.cs ≠ [] → i = j
  lim : ∀ id b k, G.f id = some b → H[id]? = some (some k) → k.cs ≠ [] → G.lim b = 0

/-- A list whose end is one's own. -/
def OwnAt (P : Program) (G : Gh) (w : World) (l : Loc) (x : AV) (v : Value) : Prop :=
  ∀ e xs, x = .lst e xs [] → ∃ sz cells, sizeT P e = some sz ∧ 0 < sz ∧ w.ownsRow 0 e sz v xs.length cells ∧ ∀ g, v.ownBlock = some g → G.owner g = some l ∧ G.lim g = xs.length * sz

structure OwnRel (P : Program) (G : Gh) (st : St) (t : Nat → Value) (w : World) : Prop where
  slot : ∀ s, owns st.own (.slot s) = true → OwnAt P G w (.slot s) (look st.env s) (t s)
  cell : ∀ id off b k cs, owns st.own (.cell id off) = true → G.f id = some b → st.H[id]? = some (some k) → w.heap[b]? = some (.cells cs k.e (0, 0)) → OwnAt P G w (.cell id off) (k.cs.getD off .undef) (cs.getD off undef)

/-- The blocks that may be written. -/
def Foot (G : Gh) (b : Nat) : Prop := (∃ id, G.f id = some b) ∨ (G.owner b).isSome = true

structure Ext (G : Gh) (w : World) (G' : Gh) (w' : World) : Prop where
  os : w'.os = w.os
  tape : w'.tape = w.tape
  output : w'.output = w.output
  size : w.heap.size ≤ w'.heap.size
  prot : ∀ b o v, pmOf w G b o = some v → pmOf w' G' b o = some v
  f : ∀ id b, G.f id = some b → G'.f id = some b
  bs : ∀ b, G.bs b ≤ G'.bs b
  foreign : ∀ b, b < w.heap.size → ¬ Foot G b → w'.heap[b]? = w.heap[b]? ∧ G'.lim b = G.lim b ∧ ¬ Foot G' b

theorem Ext.refl (G : Gh) (w : World) : Ext G w G w := ⟨rfl, rfl, rfl, Nat.le_refl _, fun _ _ _ h => h, fun _ _ h => h, fun _ => Nat.le_refl _, fun _ _ h => ⟨rfl, rfl, h⟩⟩
theorem Ext.trans {G G' G'' : Gh} {w w' w'' : World} (h : Ext G w G' w') (k : Ext G' w' G'' w'') : Ext G w G'' w'' :=
  ⟨k.os.trans h.os, k.tape.trans h.tape, k.output.trans h.output, Nat.le_trans h.size k.size, fun b o v e => k.prot b o v (h.prot b o v e), fun i b e => k.f i b (h.f i b e), fun b => Nat.le_trans (h.bs b) (k.bs b),
    fun b hb hf => by
      obtain ⟨a1, a2, a3⟩ := h.foreign b hb hf
      obtain ⟨b1, b2, b3⟩ := k.foreign b (Nat.lt_of_lt_of_le hb h.size) a3
      exact ⟨b1.trans a1, b2.trans a2, b3⟩⟩
theorem Ext.mem {G G' : Gh} {w w' : World} (h : Ext G w G' w') : (G.mem w).le (G'.mem w') := ⟨h.prot, h.f, h.bs⟩
theorem Ext.rep {P : Program} {G G' : Gh} {w w' : World} (h : Ext G w G' w') {x : AV} {v : Value} (r : Rep P (G.mem w) x v) : Rep P (G'.mem w') x v := r.mono h.mem
theorem Ext.below {G G' : Gh} {w w' : World} (h : Ext G w G' w') {B : Nat} (hB : B ≤ w.heap.size) (hf : ∀ b, b < B → ¬ Foot G b) : Below B w w' :=
  ⟨h.os, h.tape, h.output, h.size, fun k hk => (h.foreign k (by omega) (hf k hk)).1⟩

/-- A step that only makes memory. -/
structure Grow (G : Gh) (w : World) (G' : Gh) (w' : World) : Prop where
  below : Below w.heap.size w w'
  lim : ∀ b, b < w.heap.size → G'.lim b = G.lim b
  owner : ∀ b, b < w.heap.size → G'.owner b = G.owner b
  bs : ∀ b, b < w.heap.size → G'.bs b = G.bs b
  f : ∀ id b, G.f id = some b → G'.f id = some b
  fnew : ∀ id b, G'.f id = some b → G.f id = some b ∨ (G.f id = none ∧ w.heap.size ≤ b)

theorem cell_below {B : Nat} {w w' : World} (h : Below B w w') {b o : Nat} (hb : b < B) : w'.cell? ⟨b, o, none⟩ = w.cell? ⟨b, o, none⟩ := by
  unfold World.cell?; rw [h.block b hb]

theorem Grow.ext {G G' : Gh} {w w' : World} (h : Grow G w G' w') (g : GOk G w) : Ext G w G' w' where
  os := h.below.os
  tape := h.below.tape
  output := h.below.output
  size := h.below.size
  prot := by
    intro b o v e
    have hb : b < w.heap.size := by
      rcases Nat.lt_or_ge b w.heap.size with hb | hb
      · exact hb
      · have := (g.new b hb).1; simp [pmOf, this] at e
    unfold pmOf at *
    rw [h.lim b hb, cell_below h.below hb]; exact e
  f := h.f
  bs := by
    intro b
    rcases Nat.lt_or_ge b w.heap.size with hb | hb
    · rw [h.bs b hb]; exact Nat.le_refl _
    · rw [(g.new b hb).2.2]; exact Nat.zero_le _
  foreign := by
    intro b hb hf
    refine ⟨h.below.block b hb, h.lim b hb, ?_⟩
    rintro (⟨id, hid⟩ | ho)
    · rcases h.fnew id b hid with h1 | ⟨_, h1⟩
      · exact hf (.inl ⟨id, h1⟩)
      · omega
    · rw [h.owner b hb] at ho; exact hf (.inr ho)

theorem Grow.refl (G : Gh) (w : World) : Grow G w G w := ⟨Below.refl _ _, fun _ _ => rfl, fun _ _ => rfl, fun _ _ => rfl, fun _ _ h => h, fun _ _ h => .inl h⟩

theorem BlkAt.grow {P : Program} {G G' : Gh} {w w' : World} (h : Grow G w G' w') (g : GOk G w) {b : Nat} {k : Blk} (hb : b < w.heap.size) (r : BlkAt P (G.mem w) w b k) : BlkAt P (G'.mem w') w' b k := by
  obtain ⟨cs, h1, h2, h3, h4, h5⟩ := r
  exact ⟨cs, by rw [h.below.block b hb]; exact h1, h2, by show cs.size = G'.bs b; rw [h.bs b hb]; exact h3, fun j hj => (h.ext g).rep (h4 j hj), h5⟩

theorem OwnAt.grow {P : Program} {G G' : Gh} {w w' : World} (h : Grow G w G' w') {l : Loc} {x : AV} {v : Value} (r : OwnAt P G w l x v) : OwnAt P G' w' l x v := by
  intro e xs hx
  obtain ⟨sz, cells, h1, h2, h3, h4⟩ := r e xs hx
  refine ⟨sz, cells, h1, h2, h3.kept ⟨h.below.os, h.below.tape, h.below.output, h.below.size, fun i hi _ => h.below.block i hi⟩ (row := none) (by cases v.ownBlock <;> simp), ?_⟩
  intro g hg
  have hlt : g < w.heap.size := by
    rcases h3.2 with ⟨rfl, _⟩ | ⟨g', cap, cur, rfl, _, hh, _⟩
    · simp [Value.ownBlock] at hg
    · have : g' = g := by simpa [Value.ownBlock] using hg
      subst this
      exact (Array.getElem?_eq_some_iff.1 hh).1
  rw [h.owner g hlt, h.lim g hlt]
  exact h4 g hg

/-- The heap's own relation behind a step that makes memory, and perhaps the machine's next block. -/
theorem HeapRel.grow {P : Program} {G G' : Gh} {w w' : World} {H : List (Option Blk)} (h : Grow G w G' w') (g : GOk G w) (hf : ∀ id b, G'.f id = some b → G.f id = some b) (r : HeapRel P G H w) : HeapRel P G' H w' where
  dom := fun id b e => r.dom id b (hf id b e)
  blk := fun id b k e hk => (r.blk id b k (hf id b e) hk).grow h g (g.fin id b (hf id b e)).1
  inj := fun i j b k l e1 e2 => r.inj i j b k l (hf i b e1) (hf j b e2)
  lim := fun id b k e hk hn => (h.lim b (g.fin id b (hf id b e)).1).trans (r.lim id b k (hf id b e) hk hn)

end Go.Proofs.Ytnajopkaepjncaa.Am

/- The abstract machine is right, seventh part: reading cells, and making memory. -/
namespace Go.Proofs.Ytnajopkaepjncaa.Am
set_option linter.unusedVariables false
set_option linter.unusedSimpArgs false
open Go.RowKit

section
variable {P : Program} {w : World}

def upd {α : Type} (g : Nat → α) (b : Nat) (v : α) : Nat → α := fun x => if x = b then v else g x
theorem upd_same {α : Type} (g : Nat → α) (b : Nat) (v : α) : upd g b v b = v := if_pos rfl
theorem upd_ne {α : Type} (g : Nat → α) {b x : Nat} (v : α) (h : x ≠ b) : upd g b v x = g x := if_neg h

/-! ### reading -/
theorem loadVar_sound {M : Mem} {t : TypeId} {b o n : Nat} {cs : List AV} {x : AV} (c : Nat → Value) (hs : sizeT P t = some n) (hl : cs.length = n) (h : ofCells P t cs = some x)
    (hc : ∀ j, j < n → w.cell? ⟨b, o + j, none⟩ = some (c j)) (hr : ∀ j, j < n → Rep P M (cs.getD j .undef) (c j)) (h1 : ∀ j, j < n → (c j).oneCell' = true) :
    ∃ u, (Instr.loadAt t (.pointer (some ⟨b, o, none⟩))).run P w = .ok u w ∧ Rep P M x u ∧ (cs.length = 1 → isAggT P t = some false → u = c 0) := by
  unfold ofCells at h
  have hcc : ∀ j, j < n → w.cell? ((⟨b, o, none⟩ : Addr).add j) = some (c j) := fun j hj => by rw [add_addr]; exact hc j hj
  split at h
  · rename_i hg
    injection h with h; subst h
    refine ⟨.agg ((List.range n).map c).toArray, ?_, .agg _ _ (by simp [hl]) ?_ ?_, ?_⟩
    · simp only [Instr.loadAt, Instr.sureAddr, loadVar, Sem.run_bind, Sem.run_pure, Result.andThen_ok, run_isAggT hg, if_true, run_sizeT hs, run_loadCells w _ n c hcc]
    · intro i hi; have := hr i (by omega); simpa [Array.getD_eq_getD_getElem?, hl ▸ hi] using this
    · intro i hi; have := h1 i (by omega); simpa [Array.getD_eq_getD_getElem?, hl ▸ hi] using this
    · intro _ hf; rw [hg] at hf; simp at hf
  · rename_i hg
    split at h
    · rename_i y
      split at h
      case isFalse => cases h
      injection h with h; subst h
      simp only [List.length_cons, List.length_nil] at hl
      subst hl
      have h0 := hc 0 (by omega)
      refine ⟨c 0, ?_, by simpa using hr 0 (by omega), fun _ _ => rfl⟩
      simp only [Nat.add_zero] at h0
      simp only [Instr.loadAt, Instr.sureAddr, loadVar, Sem.run_bind, Sem.run_pure, Result.andThen_ok, run_isAggT hg, Bool.false_eq_true, if_false, run_load, h0]
    · cases h
  · cases h

theorem pm_cell {G : Gh} {b o : Nat} {v : Value} (h : pmOf w G b o = some v) : w.cell? ⟨b, o, none⟩ = some v := by
  unfold pmOf at h; split at h; exact h; cases h

theorem blk_cell {M : Mem} {b : Nat} {k : Blk} (h : BlkAt P M w b k) : ∃ cs, w.heap[b]? = some (.cells cs k.e (0, 0)) ∧ (∀ j, j < k.cs.length → w.cell? ⟨b, j, none⟩ = some (cs.getD j undef)) ∧ k.cs.length ≤ cs.size ∧
    (∀ j, j < k.cs.length → Rep P M (k.cs.getD j .undef) (cs.getD j undef)) ∧ ∀ j, j < k.cs.length → (cs.getD j undef).oneCell' = true := by
  obtain ⟨cs, h1, h2, h3, h4, h5⟩ := h
  refine ⟨cs, h1, ?_, h2, h4, h5⟩
  intro j hj
  have : j < cs.size := by omega
  simp [World.cell?, h1, this]

/-- 'loadA' is what the model's load is, where the block (if it is one of the machine's) lies as it should. -/
theorem load_sound {G : Gh} {H : List (Option Blk)} {t : TypeId} {p x : AV} {v : Value} (h : loadA P H t p = some x) (rp : Rep P (G.mem w) p v)
    (hb : ∀ id off b k, p = .ptr id off → G.f id = some b → H[id]? = some (some k) → BlkAt P (G.mem w) w b k) :
    ∃ u, (Instr.loadAt t v).run P w = .ok u w ∧ Rep P (G.mem w) x u ∧ (∀ id off b, p = .ptr id off → G.f id = some b → sizeT P t = some 1 → isAggT P t = some false → w.cell? ⟨b, off, none⟩ = some u) := by
  unfold loadA at h
  split at h
  · rename_i n hs
    split at h
    · rename_i id off
      split at h
      · rename_i cs hcs
        unfold readCells at hcs
        split at hcs
        · rename_i k hk
          split at hcs
          · rename_i hle
            injection hcs with hcs; subst hcs
            cases rp with
            | ptr _ _ b hf =>
              obtain ⟨ds, hd, hcell, hsz, hrep, hone⟩ := blk_cell (hb id off b k rfl hf hk)
              have hl : ((k.cs.drop off).take n).length = n := by simp; omega
              obtain ⟨u, hu, ru, h1⟩ := loadVar_sound (w := w) (M := G.mem w) (b := b) (o := off) (fun j => ds.getD (off + j) undef) hs hl h (fun j hj => hcell _ (by omega))
                (fun j hj => by rw [getD_drop_take _ _ _ _ hj]; exact hrep _ (by omega)) (fun j hj => hone _ (by omega))
              refine ⟨u, hu, ru, ?_⟩
              intro id' off' b' e1 e2 e3 e4
              injection e1 with e1 e1'; subst e1; subst e1'
              change G.f id = some b at hf
              rw [hf] at e2; injection e2 with e2; subst e2
              rw [hs] at e3; injection e3 with e3
              rw [h1 (by omega) e4]
              exact hcell off (by omega)
          · cases hcs
        · cases hcs
      · cases h
    · rename_i cs off
      split at h
      · rename_i hle
        cases rp with
        | ept _ _ b o c hc hr h1 =>
          have hl : ((cs.drop off).take n).length = n := by simp; omega
          obtain ⟨u, hu, ru, _⟩ := loadVar_sound (w := w) (M := G.mem w) (b := b) (o := o + off) (fun j => c (off + j)) hs hl h
            (fun j hj => by have := pm_cell (hc (off + j) (by omega)); rw [← Nat.add_assoc] at this; exact this)
            (fun j hj => by rw [getD_drop_take _ _ _ _ hj]; exact hr _ (by omega)) (fun j hj => h1 _ (by omega))
          exact ⟨u, hu, ru, fun _ _ _ e => by cases e⟩
      · cases h
    · cases h
  · cases h

/-! ### a block of the machine's own -/
theorem alloc_heap_new (w : World) (o : Obj) : (w.alloc o).heap[w.heap.size]? = some o := heap_alloc_new w o

def Gh.map (G : Gh) (id b n : Nat) : Gh := { G with f := upd G.f id (some b), bs := upd G.bs b n }

theorem new_grow {G : Gh} (g : GOk G w) {id : Nat} (hid : G.f id = none) (cs : Array Value) (e : TypeId) : Grow G w (G.map id w.heap.size cs.size) (w.alloc (.cells cs e)) where
  below := (Below.refl _ _).alloc (Nat.le_refl _) _
  lim := fun _ _ => rfl
  owner := fun _ _ => rfl
  bs := fun b hb => upd_ne _ _ (by omega)
  f := fun i b h => by
    show upd G.f id _ i = _
    rw [upd_ne _ _ (by rintro rfl; rw [hid] at h; cases h)]; exact h
  fnew := fun i b h => by
    change upd G.f id (some w.heap.size) i = some b at h
    by_cases hi : i = id
    · subst hi; rw [upd_same] at h; injection h with h; exact .inr ⟨hid, by omega⟩
    · rw [upd_ne _ _ hi] at h; exact .inl h
theorem new_gok {G : Gh} (g : GOk G w) (id : Nat) (cs : Array Value) (e : TypeId) : GOk (G.map id w.heap.size cs.size) (w.alloc (.cells cs e)) where
  fin := fun i b h => by
    change upd G.f id (some w.heap.size) i = some b at h
    by_cases hi : i = id
    · subst hi; rw [upd_same] at h; injection h with h; subst h
      obtain ⟨h1, h2, h3⟩ := g.new w.heap.size (Nat.le_refl _)
      exact ⟨by simp, h2⟩
    · rw [upd_ne _ _ hi] at h
      obtain ⟨h1, h2⟩ := g.fin i b h
      exact ⟨by simp; omega, h2⟩
  new := fun b hb => by
    simp only [World.size_alloc] at hb
    obtain ⟨h1, h2, h3⟩ := g.new b (by omega)
    exact ⟨h1, h2, by show upd _ _ _ b = 0; rw [upd_ne _ _ (by omega)]; exact h3⟩
theorem new_blk {G : Gh} (g : GOk G w) {id : Nat} (hid : G.f id = none) {xs : List AV} {cs : Array Value} {e : TypeId} (hc : CellsRep P (G.mem w) xs cs) :
    BlkAt P ((G.map id w.heap.size cs.size).mem (w.alloc (.cells cs e))) (w.alloc (.cells cs e)) w.heap.size ⟨e, xs⟩ :=
  ⟨cs, alloc_heap_new w _, by rw [hc.size]; exact Nat.le_refl _, (by show cs.size = upd G.bs w.heap.size cs.size w.heap.size; rw [upd_same]), fun j hj => ((new_grow g hid cs e).ext g).rep (hc.at_ j hj), hc.one⟩

/-- The machine's heap behind a new block of its own: H1 is the heap with the block at place id. -/
theorem new_heap {G : Gh} (g : GOk G w) {id : Nat} (hid : G.f id = none) {xs : List AV} {cs : Array Value} {e : TypeId} (hc : CellsRep P (G.mem w) xs cs) {H : List (Option Blk)} (r : HeapRel P G H w) (hH : H[id]? = some (some ⟨e, xs⟩)) :
    HeapRel P (G.map id w.heap.size cs.size) H (w.alloc (.cells cs e)) := by
  have split_ : ∀ i b, (G.map id w.heap.size cs.size).f i = some b → (i = id ∧ b = w.heap.size) ∨ (i ≠ id ∧ G.f i = some b) := by
    intro i b h
    change upd G.f id (some w.heap.size) i = some b at h
    by_cases hi : i = id
    · subst hi; rw [upd_same] at h; injection h with h; exact .inl ⟨rfl, h.symm⟩
    · rw [upd_ne _ _ hi] at h; exact .inr ⟨hi, h⟩
  refine ⟨?_, ?_, ?_, ?_⟩
  · intro i b h
    rcases split_ i b h with ⟨rfl, rfl⟩ | ⟨_, h⟩
    · exact ⟨_, hH⟩
    · exact r.dom i b h
  · intro i b k h hk
    rcases split_ i b h with ⟨rfl, rfl⟩ | ⟨_, h⟩
    · rw [hH] at hk; injection hk with hk; injection hk with hk; subst hk
      exact new_blk g hid hc
    · exact (r.blk i b k h hk).grow (new_grow g hid cs e) g (g.fin i b h).1
  · intro i j b k l h1 h2 hk hl n1 n2
    rcases split_ i b h1 with ⟨q1, q2⟩ | ⟨_, q1⟩ <;> rcases split_ j b h2 with ⟨q3, q4⟩ | ⟨_, q3⟩
    · rw [q1, q3]
    · have := (g.fin j _ q3).1; omega
    · have := (g.fin i _ q1).1; omega
    · exact r.inj i j b k l q1 q3 hk hl n1 n2
  · intro i b k h hk hn
    rcases split_ i b h with ⟨_, rfl⟩ | ⟨_, h⟩
    · exact (g.new _ (Nat.le_refl _)).1
    · exact r.lim i b k h hk hn

/-! ### a list in a new block -/
def Gh.list (G : Gh) (b n : Nat) (o : Option Loc) : Gh := { G with lim := upd G.lim b n, owner := upd G.owner b o }

theorem list_grow {G : Gh} (g : GOk G w) {w' : World} (hb : Below w.heap.size w w') (n : Nat) (o : Option Loc) : Grow G w (G.list w.heap.size n o) w' where
  below := hb
  lim := fun b hb => upd_ne _ _ (by omega)
  owner := fun b hb => upd_ne _ _ (by omega)
  bs := fun _ _ => rfl
  f := fun _ _ h => h
  fnew := fun _ _ h => .inl h
theorem list_gok {G : Gh} (g : GOk G w) {w' : World} (hb : w.heap.size < w'.heap.size) (n : Nat) (o : Option Loc) : GOk (G.list w.heap.size n o) w' where
  fin := fun i b h => by
    obtain ⟨h1, h3⟩ := g.fin i b h
    exact ⟨by omega, by show upd _ _ _ b = none; rw [upd_ne _ _ (by omega)]; exact h3⟩
  new := fun b hb' => by
    obtain ⟨h1, h2, h3⟩ := g.new b (by omega)
    exact ⟨by show upd _ _ _ b = 0; rw [upd_ne _ _ (by omega)]; exact h1, by show upd _ _ _ b = none; rw [upd_ne _ _ (by omega)]; exact h2, h3⟩

theorem list_rep {G : Gh} (g : GOk G w) {w' : World} (hb : Below w.heap.size w w') {cs : Array Value} {e0 : TypeId} {fr : Nat × Nat} (hn : w'.heap[w.heap.size]? = some (.cells cs e0 fr)) {e : TypeId} {xs : List AV} {sz cap : Nat} (o : Option Loc)
    (hsz : sizeT P e = some sz) (hz : 0 < sz) (hall : ∀ x ∈ xs, x.cells.length = sz) (hcap : xs.length ≤ cap)
    (hr : ∀ j, j < (flat xs).length → j < cs.size ∧ Rep P (G.mem w) ((flat xs).getD j .undef) (cs.getD j undef) ∧ (cs.getD j undef).oneCell' = true) :
    Rep P ((G.list w.heap.size (xs.length * sz) o).mem w') (.lst e xs []) (.slice (some ⟨w.heap.size, 0, none⟩) xs.length cap) := by
  have hfl := flat_len xs hall
  refine .lst e xs [] _ cap sz w.heap.size 0 (fun j => cs.getD j undef) hsz hz (by simpa using hall) (by simpa using hcap) (fun _ => rfl) ?_ ?_ ?_
  · intro j hj
    simp only [List.append_nil] at hj
    obtain ⟨h1, _, _⟩ := hr j hj
    show pmOf w' _ _ _ = _
    unfold pmOf
    have : (G.list w.heap.size (xs.length * sz) o).lim w.heap.size = xs.length * sz := upd_same _ _ _
    rw [this, if_pos (by omega)]
    simp [World.cell?, hn, h1]
  · intro j hj
    simp only [List.append_nil] at hj ⊢
    exact ((list_grow g hb _ o).ext g).rep (hr j hj).2.1
  · intro j hj
    simp only [List.append_nil] at hj
    exact (hr j hj).2.2

end
end Go.Proofs.Ytnajopkaepjncaa.Am

/- The abstract machine is right, eighth part: lists that are made. -/
namespace Go.Proofs.Ytnajopkaepjncaa.Am
set_option linter.unusedVariables false
set_option linter.unusedSimpArgs false
open Go.RowKit

section
variable {P : Program} {w : World}

theorem ofCells_cells {t : TypeId} {cs : List AV} {x : AV} (h : ofCells P t cs = some x) : x.cells = cs := by
  unfold ofCells at h
  split at h
  · injection h with h; subst h; rfl
  · split at h
    · rename_i y
      split at h
      · rename_i hy; injection h with h; subst h; cases y <;> simp [AV.isOne] at hy <;> rfl
      · cases h
    · cases h
  · cases h

theorem chop_spec {e : TypeId} {sz : Nat} : ∀ (n : Nat) (cs xs : List AV), chop P e sz n cs = some xs → cs.length = n * sz → xs.length = n ∧ (∀ x ∈ xs, x.cells.length = sz) ∧ flat xs = cs := by
  intro n
  induction n with
  | zero => intro cs xs h hl; simp only [chop, Option.some.injEq] at h; subst h; refine ⟨rfl, by simp, ?_⟩; rw [Nat.zero_mul] at hl; rw [List.eq_nil_of_length_eq_zero hl]; rfl
  | succ n ih =>
    intro cs xs h hl
    simp only [chop] at h
    rw [Nat.add_mul, Nat.one_mul] at hl
    split at h
    · rename_i x r hx hr
      injection h with h; subst h
      obtain ⟨h1, h2, h3⟩ := ih (cs.drop sz) r hr (by simp; omega)
      have hc := ofCells_cells hx
      refine ⟨by simp [h1], ?_, ?_⟩
      · intro y hy
        rcases List.mem_cons.1 hy with rfl | hy
        · rw [hc]; simp; omega
        · exact h2 y hy
      · simp only [flat, List.flatMap_cons] at h3 ⊢
        rw [h3, hc, List.take_append_drop]
    · cases h

theorem own_new {G : Gh} (g : GOk G w) {w' : World} (hb : Below w.heap.size w w') {cs : Array Value} {e : TypeId} (hn : w'.heap[w.heap.size]? = some (.cells cs e (0, 0))) {xs : List AV} {sz cap : Nat} {l : Loc}
    (hsz : sizeT P e = some sz) (hz : 0 < sz) (hcap : xs.length ≤ cap) (hm : cap ≤ maxLen) (hcs : cs.size = cap * sz) :
    OwnAt P (G.list w.heap.size (xs.length * sz) (some l)) w' l (.lst e xs []) (.slice (some ⟨w.heap.size, 0, none⟩) xs.length cap) := by
  intro e' xs' hx
  injection hx with h1 h2 h3
  subst h1; subst h2
  refine ⟨sz, cs.toList.take (xs.length * sz), hsz, hz, ⟨?_, .inr ⟨w.heap.size, cap, cs, rfl, Nat.zero_le _, hn, hcap, hm, hcs, rfl⟩⟩, ?_⟩
  · have hlt : cs.toList.length = cap * sz := by rw [Array.length_toList, hcs]
    have := Nat.mul_le_mul_right sz hcap
    rw [List.length_take, hlt]
    exact Nat.min_eq_left this
  · intro b hbk
    have : w.heap.size = b := by simpa [Value.ownBlock] using hbk
    subst this
    exact ⟨upd_same _ _ _, upd_same _ _ _⟩

theorem getD_list_arr (cs : Array Value) (j : Nat) : cs.toList.getD j undef = cs.getD j undef := by simp [List.getD_eq_getElem?_getD, Array.getD_eq_getD_getElem?]

theorem rep_getD {z : List AV} {sz : Nat} (hz : z.length = sz) (hp : 0 < sz) : ∀ (n j : Nat), j < n * sz → (rep n z).getD j .undef = z.getD (j % sz) .undef := by
  intro n
  induction n with
  | zero => intro j hj; omega
  | succ n ih =>
    intro j hj
    rw [Nat.add_mul, Nat.one_mul] at hj
    simp only [rep, List.replicate_succ, List.flatten_cons, List.getD_eq_getElem?_getD]
    by_cases h : j < sz
    · rw [List.getElem?_append_left (by omega), Nat.mod_eq_of_lt h]
    · rw [List.getElem?_append_right (by omega), hz]
      have := ih (j - sz) (by omega)
      simp only [rep, List.getD_eq_getElem?_getD] at this
      rw [this, Nat.mod_eq_sub_mod (by omega : j ≥ sz)]
theorem rep_length {z : List AV} {sz : Nat} (hz : z.length = sz) (n : Nat) : (rep n z).length = n * sz := by
  simp [rep, hz]

theorem made_getD {z : Array Value} {sz : Nat} (hz : z.size = sz) (hp : 0 < sz) (n j : Nat) (hj : j < n) : (madeCells z n).getD j undef = z.getD (j % sz) undef := by
  have : j % sz < z.size := by rw [hz]; exact Nat.mod_lt _ hp
  have e1 : (madeCells z n).getD j undef = z[j % sz]! := by
    simp [madeCells, Array.getD_eq_getD_getElem?, hj, hz]
  rw [e1, getElem!_pos z (j % sz) this, Array.getD_eq_getD_getElem?, Array.getElem?_eq_getElem this]
  rfl

theorem made_rep {M : Mem} {z : List AV} {zv : Array Value} (h : CellsRep P M z zv) {sz : Nat} (hz : z.length = sz) (hp : 0 < sz) (n : Nat) : CellsRep P M (rep n z) (madeCells zv (n * sz)) := by
  refine ⟨by rw [size_madeCells, rep_length hz], ?_, ?_⟩ <;> intro i hi <;> rw [rep_length hz] at hi
  · rw [rep_getD hz hp n i hi, made_getD (by rw [h.size, hz]) hp _ _ hi]
    exact h.at_ _ (by rw [hz]; exact Nat.mod_lt _ hp)
  · rw [made_getD (by rw [h.size, hz]) hp _ _ hi]
    exact h.one _ (by rw [hz]; exact Nat.mod_lt _ hp)

/-- What making a list leaves. -/
structure Made (P : Program) (G : Gh) (w : World) (x : AV) (v : Value) (w' : World) (G' : Gh) (l : Loc) : Prop where
  grow : Grow G w G' w'
  ok : GOk G' w'
  rep : Rep P (G'.mem w') x v
  f : G'.f = G.f
  own : OwnAt P G' w' l x v

theorem buildSlice_sound {G : Gh} (g : GOk G w) {t e : TypeId} {len sz : Nat} {ps : List (Nat × AV)} {qs : Array (Nat × Value)} {z cs xs : List AV} {l : Loc} (hu : P.underlying t = some (.slice e)) (hs : sizeT P e = some sz) (hz : zeroT P e = some z)
    (h1 : len * sz ≤ 16777216) (hp : 0 < sz) (hzl : z.length = sz) (hf : fillA (fun i => some (i * sz, sz)) (rep len z) ps = some cs) (hx : chop P e sz len cs = some xs) (hq : PartsRep P (G.mem w) ps qs.toList) :
    ∃ v w' G', (Instr.buildSlice t len qs).run P w = .ok v w' ∧ Made P G w (.lst e xs []) v w' G' l := by
  obtain ⟨zv, hzr, hzc⟩ := zero_sound (M := G.mem w) (w := w) hz
  have hmr := made_rep hzc hzl hp len
  obtain ⟨us, hus, hcu⟩ := fill_sound ps qs.toList _ cs _ hf hq hmr
  have hcl : cs.length = len * sz := by
    have h2 : us.size = (madeCells zv.cells (len * sz)).size := by
      have : ∀ (qs : List (Nat × Value)) (a b : Array Value), Instr.fill (fun i => some (i * sz, sz)) a qs = some b → b.size = a.size := by
        intro qs
        induction qs with
        | nil => intro a b h; simp only [Instr.fill, Option.some.injEq] at h; rw [h]
        | cons q r ih =>
          obtain ⟨i, v⟩ := q
          intro a b h
          simp only [Instr.fill] at h
          split at h
          · cases h
          · rw [ih _ _ h]
            have : ∀ (l : List (Value × Nat)) (a : Array Value), (l.foldl (fun cs (x : Value × Nat) => cs.setIfInBounds (i * sz + x.2) x.1) a).size = a.size := by
              intro l
              induction l with
              | nil => intro a; rfl
              | cons y l ih => intro a; rw [List.foldl_cons, ih, Array.size_setIfInBounds]
            rw [← Array.foldl_toList]
            exact this _ _
      exact this _ _ _ hus
    rw [← hcu.size, h2, size_madeCells]
  obtain ⟨q1, q2, q3⟩ := chop_spec len cs xs hx hcl
  subst q1
  have hbel : Below w.heap.size w (w.alloc (.cells us e)) := (Below.refl _ _).alloc (Nat.le_refl _) _
  refine ⟨.slice (some ⟨w.heap.size, 0, none⟩) xs.length xs.length, w.alloc (.cells us e), G.list w.heap.size (xs.length * sz) (some l), ?_, ?_⟩
  · have hng : ¬ xs.length * sz > 2 ^ 24 := by omega
    by_cases h0 : xs.length * sz = 0
    · have hmade : madeCells zv.cells (xs.length * sz) = (Array.range (xs.length * sz)).map fun x => (#[] : Array Value)[x % (#[] : Array Value).size]! := by
        rw [h0]; simp [madeCells, Array.range_zero']
      rw [hmade] at hus
      simp only [Instr.buildSlice, Sem.run_bind, run_underlying' hu, Result.andThen_ok, run_sizeT hs, if_neg hng, if_pos h0, Sem.run_pure, hus, newRow, run_newObj]
      rfl
    · simp only [madeCells] at hus
      simp only [Instr.buildSlice, Sem.run_bind, run_underlying' hu, Result.andThen_ok, run_sizeT hs, if_neg hng, if_neg h0, hzr, Sem.run_pure, hus, newRow, run_newObj]
      rfl
  · refine ⟨list_grow g hbel _ _, list_gok g (by simp) _ _, ?_, rfl, ?_⟩
    · refine list_rep g hbel (alloc_heap_new w _) _ hs hp q2 (Nat.le_refl _) ?_
      intro j hj
      rw [q3] at hj ⊢
      exact ⟨by rw [hcu.size]; exact hj, hcu.at_ j hj, hcu.one j hj⟩
    · refine own_new g hbel (alloc_heap_new w _) hs hp (Nat.le_refl _) ?_ (by rw [hcu.size, hcl])
      have : xs.length ≤ xs.length * sz := Nat.le_mul_of_pos_right _ hp
      unfold maxLen; omega

theorem makeSlice_sound {G : Gh} (g : GOk G w) {t e : TypeId} {n c : Nat} {k1 k2 : IntKind} {i : TypeInfo} {z : List AV} {x : AV} {l : Loc} (hu : P.underlying t = some (.slice e)) (hi : P.info? e = some i) (hz : zeroT P e = some z)
    (hnc : n ≤ c) (hby : c * i.bytes ≤ 140737488355328) (hc : c ≤ 140737488355328) (hp : 0 < i.size) (hzl : z.length = i.size) (hx : ofCells P e z = some x) :
    ∃ v w' G', (Instr.makeSlice t (.int k1 n) (.int k2 c)).run P w = .ok v w' ∧ Made P G w (.lst e (List.replicate n x) []) v w' G' l := by
  have hs : sizeT P e = some i.size := by simp [sizeT, hi]
  obtain ⟨zv, hzr, hzc⟩ := zero_sound (M := G.mem w) (w := w) hz
  have hzz : i.zero = some zv := by
    unfold zeroT at hz
    simp only [zeroValue, Sem.run_bind, run_typeInfo' hi, Result.andThen_ok] at hzr
    cases hiz : i.zero with
    | none => rw [hiz] at hzr; simp at hzr
    | some q => rw [hiz] at hzr; simp at hzr; rw [hzr]
  have hrun := run_make (P := P) w t e i zv hu hi hzz k1 k2 n c (by omega) (by omega) (by
    have : ((i.bytes * c : Nat) : Int) ≤ 281474976710656 := by rw [Nat.mul_comm]; omega
    rwa [Int.natCast_mul] at this) (by omega)
  simp only [Int.toNat_natCast] at hrun
  have hmr := made_rep hzc hzl hp c
  have hbel : Below w.heap.size w (w.alloc (.cells (madeCells zv.cells (c * i.size)) e)) := (Below.refl _ _).alloc (Nat.le_refl _) _
  have hxc := ofCells_cells hx
  have hall : ∀ y ∈ List.replicate n x, y.cells.length = i.size := by intro y hy; rw [List.eq_of_mem_replicate hy, hxc, hzl]
  have hfl := flat_len _ hall
  rw [List.length_replicate] at hfl
  have hflat : flat (List.replicate n x) = rep n z := by
    simp only [flat, rep, List.flatMap_def, List.map_replicate, hxc]
  have hle : n * i.size ≤ c * i.size := Nat.mul_le_mul_right _ hnc
  have hrr : ∀ j, j < n * i.size → (rep n z).getD j .undef = (rep c z).getD j .undef := by
    intro j hj
    rw [rep_getD hzl hp n j hj, rep_getD hzl hp c j (by omega)]
  have hG : (G.list w.heap.size ((List.replicate n x).length * i.size) (some l)) = G.list w.heap.size (n * i.size) (some l) := by rw [List.length_replicate]
  refine ⟨_, _, G.list w.heap.size (n * i.size) (some l), hrun, ?_⟩
  refine ⟨list_grow g hbel _ _, list_gok g (by simp) _ _, ?_, rfl, ?_⟩
  · have := list_rep g hbel (alloc_heap_new w _) (some l) hs hp hall (cap := c) (by rw [List.length_replicate]; exact hnc) (by
      intro j hj
      rw [hflat] at hj ⊢
      rw [rep_length hzl] at hj
      refine ⟨by rw [size_madeCells]; omega, ?_, hmr.one j (by rw [rep_length hzl]; omega)⟩
      rw [hrr j hj]
      exact hmr.at_ j (by rw [rep_length hzl]; omega))
    rw [hG, List.length_replicate] at this
    exact this
  · have := own_new (P := P) (l := l) g hbel (alloc_heap_new w _) (xs := List.replicate n x) hs hp (cap := c) (by rw [List.length_replicate]; exact hnc) (by unfold maxLen; omega) (by rw [size_madeCells])
    rw [hG, List.length_replicate] at this
    exact this

end
end Go.Proofs.Ytnajopkaepjncaa.Am

/- The abstract machine is right, ninth part: whose an end is; what an operation leaves. -/
namespace Go.Proofs.Ytnajopkaepjncaa.Am
set_option linter.unusedVariables false
set_option linter.unusedSimpArgs false
open Go.RowKit

section
variable {P : Program} {w : World}

theorem beq_loc {a b : Loc} : Loc.beq a b = true ↔ a = b := by
  cases a <;> cases b <;> simp [Loc.beq]
theorem owns_iff {own : List Loc} {l : Loc} : owns own l = true ↔ l ∈ own := by
  simp only [owns, List.any_eq_true]
  constructor
  · rintro ⟨x, hx, hb⟩; rw [beq_loc] at hb; subst hb; exact hx
  · intro h; exact ⟨l, h, by rw [beq_loc]⟩
theorem mem_drop {own : List Loc} {l m : Loc} : m ∈ drop own l ↔ m ∈ own ∧ m ≠ l := by
  simp only [drop, List.mem_filter, Bool.not_eq_true', and_congr_right_iff]
  intro _
  constructor
  · intro h e; subst e; have : Loc.beq m m = true := beq_loc.2 rfl; rw [this] at h; cases h
  · intro h
    cases hb : Loc.beq l m with
    | false => rfl
    | true => rw [beq_loc] at hb; exact absurd hb.symm h
theorem mem_give {own : List Loc} {l m : Loc} : m ∈ give own l ↔ m = l ∨ (m ∈ own ∧ m ≠ l) := by simp only [give, List.mem_cons, mem_drop]

/-! ### an end that changes hands -/
def Gh.ren (G : Gh) (l l' : Loc) : Gh := { G with owner := fun b => if G.owner b = some l then some l' else G.owner b }
theorem ren_mem (G : Gh) (l l' : Loc) (w : World) : (G.ren l l').mem w = G.mem w := rfl
theorem ren_gok {G : Gh} (g : GOk G w) (l l' : Loc) : GOk (G.ren l l') w where
  fin := fun i b h => by
    obtain ⟨h1, h3⟩ := g.fin i b h
    exact ⟨h1, by show (if G.owner b = some l then some l' else G.owner b) = none; rw [h3]; rfl⟩
  new := fun b hb => by
    obtain ⟨h1, h2, h3⟩ := g.new b hb
    exact ⟨h1, by show (if G.owner b = some l then some l' else G.owner b) = none; rw [h2]; rfl, h3⟩
theorem ren_heap {G : Gh} {H : List (Option Blk)} (r : HeapRel P G H w) (l l' : Loc) : HeapRel P (G.ren l l') H w := ⟨r.dom, r.blk, r.inj, r.lim⟩
theorem ren_ext (G : Gh) (l l' : Loc) : Ext G w (G.ren l l') w where
  os := rfl
  tape := rfl
  output := rfl
  size := Nat.le_refl _
  prot := fun _ _ _ h => h
  f := fun _ _ h => h
  bs := fun _ => Nat.le_refl _
  foreign := fun b _ hf => ⟨rfl, rfl, by
    rintro (h | h)
    · exact hf (.inl h)
    · refine hf (.inr ?_)
      change (if G.owner b = some l then some l' else G.owner b).isSome = true at h
      split at h
      · rename_i e; rw [e]; rfl
      · exact h⟩
theorem ren_own {G : Gh} {l : Loc} {x : AV} {v : Value} (r : OwnAt P G w l x v) (l' : Loc) : OwnAt P (G.ren l l') w l' x v := by
  intro e xs hx
  obtain ⟨sz, cells, h1, h2, h3, h4⟩ := r e xs hx
  refine ⟨sz, cells, h1, h2, h3, fun g hg => ⟨?_, (h4 g hg).2⟩⟩
  show (if G.owner g = some l then some l' else G.owner g) = some l'
  rw [(h4 g hg).1, if_pos rfl]
theorem ren_own_ne {G : Gh} {l m : Loc} {x : AV} {v : Value} (r : OwnAt P G w m x v) (h : m ≠ l) (l' : Loc) : OwnAt P (G.ren l l') w m x v := by
  intro e xs hx
  obtain ⟨sz, cells, h1, h2, h3, h4⟩ := r e xs hx
  refine ⟨sz, cells, h1, h2, h3, fun g hg => ⟨?_, (h4 g hg).2⟩⟩
  show (if G.owner g = some l then some l' else G.owner g) = some m
  rw [(h4 g hg).1, if_neg (by intro e; injection e with e; exact h e)]

/-- What an operation that is no call leaves, its value not yet put into slot d. -/
structure Done (P : Program) (G : Gh) (w : World) (env : List (Nat × AV)) (t : Nat → Value) (r : Res) (d : Nat) (v : Value) (w' : World) (G' : Gh) : Prop where
  ext : Ext G w G' w'
  ok : GOk G' w'
  heap : HeapRel P G' r.H w'
  rep : Rep P (G'.mem w') r.val v
  slot : ∀ s, s ≠ d → Loc.slot s ∈ r.own → OwnAt P G' w' (.slot s) (look env s) (t s)
  cell : ∀ id off b k cs, Loc.cell id off ∈ r.own → G'.f id = some b → r.H[id]? = some (some k) → w'.heap[b]? = some (.cells cs k.e (0, 0)) → OwnAt P G' w' (.cell id off) (k.cs.getD off .undef) (cs.getD off undef)
  gives : r.gives = true → OwnAt P G' w' (.slot d) r.val v
  dom : ∀ id off, Loc.cell id off ∈ r.own → Live r.H id

/-- Whose the ends are, with the slots' contents told by 't'. -/
structure Owns (P : Program) (G : Gh) (env : List (Nat × AV)) (H : List (Option Blk)) (own : List Loc) (t : Nat → Value) (w : World) : Prop where
  slot : ∀ s, Loc.slot s ∈ own → OwnAt P G w (.slot s) (look env s) (t s)
  cell : ∀ id off b k cs, Loc.cell id off ∈ own → G.f id = some b → H[id]? = some (some k) → w.heap[b]? = some (.cells cs k.e (0, 0)) → OwnAt P G w (.cell id off) (k.cs.getD off .undef) (cs.getD off undef)
  dom : ∀ id off, Loc.cell id off ∈ own → Live H id

theorem done_same {G : Gh} {env : List (Nat × AV)} {H : List (Option Blk)} {own : List Loc} {t : Nat → Value} (g : GOk G w) (h : HeapRel P G H w) (o : Owns P G env H own t w) {x : AV} {v : Value} (d : Nat) (r : Rep P (G.mem w) x v) :
    Done P G w env t ⟨x, H, own, false⟩ d v w G := ⟨Ext.refl _ _, g, h, r, fun s _ hs => o.slot s hs, o.cell, fun h => (by cases h), o.dom⟩

/-- The end of a slot's list goes on to another slot. -/
theorem done_slot {G : Gh} {env : List (Nat × AV)} {H : List (Option Blk)} {own : List Loc} {t : Nat → Value} (g : GOk G w) (h : HeapRel P G H w) (o : Owns P G env H own t w) (s d : Nat) (hs : Loc.slot s ∈ own) (r : Rep P (G.mem w) (look env s) (t s)) :
    Done P G w env t ⟨look env s, H, drop own (.slot s), true⟩ d (t s) w (G.ren (.slot s) (.slot d)) where
  ext := ren_ext _ _ _
  ok := ren_gok g _ _
  heap := ren_heap h _ _
  rep := r
  slot := fun s' _ hs' => by
    rw [mem_drop] at hs'
    exact ren_own_ne (o.slot s' hs'.1) hs'.2 _
  cell := fun id off b k cs hc hf hk hb => by
    rw [mem_drop] at hc
    exact ren_own_ne (o.cell id off b k cs hc.1 hf hk hb) hc.2 _
  gives := fun _ => ren_own (o.slot s hs) _
  dom := fun id off hm => o.dom id off (mem_drop.1 hm).1
theorem done_cell {G : Gh} {env : List (Nat × AV)} {H : List (Option Blk)} {own : List Loc} {t : Nat → Value} (g : GOk G w) (h : HeapRel P G H w) (o : Owns P G env H own t w) (id off d : Nat) {b : Nat} {k : Blk} {cs : Array Value} {x : AV} {v : Value}
    (hs : Loc.cell id off ∈ own) (hf : G.f id = some b) (hk : H[id]? = some (some k)) (hb : w.heap[b]? = some (.cells cs k.e (0, 0))) (hx : k.cs.getD off .undef = x) (hv : cs.getD off undef = v) (r : Rep P (G.mem w) x v) :
    Done P G w env t ⟨x, H, drop own (.cell id off), true⟩ d v w (G.ren (.cell id off) (.slot d)) where
  ext := ren_ext _ _ _
  ok := ren_gok g _ _
  heap := ren_heap h _ _
  rep := r
  slot := fun s' _ hs' => by
    rw [mem_drop] at hs'
    exact ren_own_ne (o.slot s' hs'.1) hs'.2 _
  cell := fun id' off' b' k' cs' hc hf' hk' hb' => by
    rw [mem_drop] at hc
    exact ren_own_ne (o.cell id' off' b' k' cs' hc.1 hf' hk' hb') hc.2 _
  gives := fun _ => by
    have := ren_own (o.cell id off b k cs hs hf hk hb) (.slot d)
    rw [hx, hv] at this
    exact this
  dom := fun id off hm => o.dom id off (mem_drop.1 hm).1

/-- A step that makes memory leaves all ends where they were. -/
theorem owns_grow {G G' : Gh} {w' : World} {env : List (Nat × AV)} {H : List (Option Blk)} {own : List Loc} {t : Nat → Value} (gr : Grow G w G' w') (g : GOk G w) (hf : ∀ id b, G'.f id = some b → G.f id = some b) (o : Owns P G env H own t w) : Owns P G' env H own t w' where
  slot := fun s hs => (o.slot s hs).grow gr
  cell := fun id off b k cs hc h hk hb => by
    have h0 := hf id b h
    have hlt := (g.fin id b h0).1
    rw [gr.below.block b hlt] at hb
    exact (o.cell id off b k cs hc h0 hk hb).grow gr
  dom := o.dom

theorem done_made {G G' : Gh} {w' : World} {env : List (Nat × AV)} {H : List (Option Blk)} {own : List Loc} {t : Nat → Value} (g : GOk G w) (h : HeapRel P G H w) (o : Owns P G env H own t w) {x : AV} {v : Value} {d : Nat} (m : Made P G w x v w' G' (.slot d)) (gv : Bool) :
    Done P G w env t ⟨x, H, own, gv⟩ d v w' G' := by
  have hf : ∀ id b, G'.f id = some b → G.f id = some b := fun id b e => by rw [m.f] at e; exact e
  have o' := owns_grow m.grow g hf o
  exact ⟨m.grow.ext g, m.ok, h.grow m.grow g hf, m.rep, fun s _ hs => o'.slot s hs, o'.cell, fun _ => m.own, o'.dom⟩

/-- A new block of the machine's own. -/
theorem done_new {G : Gh} {env : List (Nat × AV)} {H1 : List (Option Blk)} {own : List Loc} {t : Nat → Value} (g : GOk G w) (h : HeapRel P G H1 w) (o : Owns P G env H1 own t w) {id : Nat} (hid : G.f id = none) {xs : List AV} {cs : Array Value} {e : TypeId} (hc : CellsRep P (G.mem w) xs cs)
    (hH : H1[id]? = some (some ⟨e, xs⟩)) (hnc : ∀ off, Loc.cell id off ∉ own) (d : Nat) :
    Done P G w env t ⟨.ptr id 0, H1, own, false⟩ d (.pointer (some ⟨w.heap.size, 0, none⟩)) (w.alloc (.cells cs e)) (G.map id w.heap.size cs.size) where
  ext := (new_grow g hid cs e).ext g
  ok := new_gok g id cs e
  heap := new_heap g hid hc h hH
  rep := .ptr id 0 _ (upd_same _ _ _)
  slot := fun s _ hs => (o.slot s hs).grow (new_grow g hid cs e)
  cell := fun id' off b k cs' hcell hf hk hb => by
    by_cases hi : id' = id
    · subst hi; exact absurd hcell (hnc off)
    · change upd G.f id (some w.heap.size) id' = some b at hf
      rw [upd_ne _ _ hi] at hf
      have hlt := (g.fin id' b hf).1
      rw [(new_grow g hid cs e).below.block b hlt] at hb
      exact (o.cell id' off b k cs' hcell hf hk hb).grow (new_grow g hid cs e)
  gives := fun h => by cases h
  dom := o.dom

end
end Go.Proofs.Ytnajopkaepjncaa.Am

/- The abstract machine is right, tenth part: 'append'. -/
namespace Go.Proofs.Ytnajopkaepjncaa.Am
set_option linter.unusedVariables false
set_option linter.unusedSimpArgs false
open Go.RowKit

section
variable {P : Program} {w : World}

/-- A slice or a string. -/
def SlStr (d : TypeDesc) : Prop := (∃ e, d = .slice e) ∨ d = .string

/-- Room: the new cells come behind the old ones, in place. -/
theorem app_room {t u ty e : TypeId} {i : TypeInfo} {du : TypeDesc} (ht : P.underlying t = some (.slice e)) (hu : P.underlying u = some du) (hdu : SlStr du) (hi : P.info? e = some i)
    {g n cap m : Nat} {cur : Array Value} (hg : w.heap[g]? = some (.cells cur e (0, 0))) {y : Value} {news : List Value} (hl : (Builtin.lenOf y).run P w = .ok m w) (hf : (Builtin.firstCells i.size m y).run P w = .ok news.toArray w)
    (h1 : ∀ u ∈ news, u.oneCell' = true) (hroom : n + m ≤ cap) (hfit : n * i.size + news.length ≤ cur.size) :
    (Builtin.append_ #[t, u] ty #[.slice (some ⟨g, 0, none⟩) n cap, y]).run P w =
      .ok (.slice (some ⟨g, 0, none⟩) (n + m) cap) (w.setRow g (cur.toList.take (n * i.size) ++ news ++ cur.toList.drop (n * i.size + news.length)).toArray) := by
  have hst := run_storeCells_at P g (n * i.size) e news 0 cur w hg (by simpa using hfit) h1
  simp only [Nat.add_zero] at hst
  have ha : (⟨g, 0, none⟩ : Addr).add (n * i.size) = ⟨g, n * i.size, none⟩ := by rw [add_addr, Nat.zero_add]
  have hs : sizeT P e = some i.size := by simp [sizeT, hi]
  obtain ⟨q, rfl⟩ | rfl := hdu
  all_goals simp only [Builtin.append_, List.getElem?_toArray, List.getElem?_cons_zero, List.getElem?_cons_succ, Sem.run_bind, run_underlying' ht, run_underlying' hu, Result.andThen_ok, run_sizeT hs, Sem.run_pure, Bool.false_eq_true, if_false, hl,
    Bool.not_false, if_true, if_pos hroom, hf, ha, hst]

/-- No room: all is laid anew. -/
theorem app_grow {t u ty e : TypeId} {i : TypeInfo} {z : Value} {du : TypeDesc} (ht : P.underlying t = some (.slice e)) (hu : P.underlying u = some du) (hdu : SlStr du) (hi : P.info? e = some i) (hz : i.zero = some z)
    {a : Option Addr} {n cap m : Nat} {y : Value} {olds news : List Value} (hl : (Builtin.lenOf y).run P w = .ok m w) (hf : (Builtin.firstCells i.size m y).run P w.drew = .ok news.toArray w.drew)
    (hfo : (Builtin.firstCells i.size n (.slice a n cap)).run P w.drew = .ok olds.toArray w.drew)
    (hg : cap < n + m) (h63 : n + m ≤ 140737488355328) (hby : (n + m) * i.bytes ≤ 140737488355328) :
    (Builtin.append_ #[t, u] ty #[.slice a n cap, y]).run P w =
      .ok (.slice (some ⟨w.heap.size, 0, none⟩) (n + m) (grownCap w (n + m) cap e)) (w.drew.alloc (.cells (olds ++ news ++ (Builtin.zeroCells z.cells (grownCap w (n + m) cap e - (n + m))).toList).toArray e)) := by
  have hn : ¬ (n + m ≤ cap) := by omega
  have hfit := growslice_fits (bytes := i.bytes) hg hby
  have hs : sizeT P e = some i.size := by simp [sizeT, hi]
  have harr : olds.toArray ++ news.toArray ++ Builtin.zeroCells z.cells (grownCap w (n + m) cap e - (n + m)) = (olds ++ news ++ (Builtin.zeroCells z.cells (grownCap w (n + m) cap e - (n + m))).toList).toArray := by
    apply Array.ext'; simp
  rw [← harr]
  have h63' : ¬ ((((n + m : Nat) : Int) > IntKind.i64.max) ∧ ((false = true) ∨ i.bytes = 0)) := by
    have : IntKind.i64.max = 9223372036854775807 := by decide
    rw [this]; omega
  have h48' : ¬ (Builtin.nextslicecap (n + m) cap * i.bytes > 2 ^ 48) := by omega
  have hzv : ∀ w : World, (zeroValue e).run P w = .ok z w := by
    intro w
    simp only [zeroValue, Sem.run_bind, run_typeInfo' hi, Result.andThen_ok, hz, Sem.run_pure]
  have hch : (choose (.appendCap (n + m) cap e)).run P w = .ok (grownCap w (n + m) cap e) w.drew := by
    rw [run_choose]
    simp only [Question.forced, Bool.false_eq_true, if_false]
    rfl
  obtain ⟨q, rfl⟩ | rfl := hdu
  all_goals simp only [Builtin.append_, List.getElem?_toArray, List.getElem?_cons_zero, List.getElem?_cons_succ, Sem.run_bind, run_underlying' ht, run_underlying' hu, Result.andThen_ok, run_sizeT hs, Sem.run_pure, Bool.false_eq_true, if_false, hl,
    Bool.not_false, if_true, if_neg hn]
  all_goals have hti : (typeInfo e).run P w = .ok i w := run_typeInfo' hi
  all_goals simp only [Sem.run_bind, hti, Result.andThen_ok, Sem.run_ite, Sem.run_pure, if_neg h48']
  all_goals simp only [false_or, Bool.false_eq_true] at h63' ⊢
  all_goals rw [if_neg h63']
  all_goals simp only [Result.andThen_ok, hch, run_askRoom, hfo, hf, hzv, newRow, Sem.run_bind, run_newObj, Sem.run_pure, run_typeInfo' hi]
  all_goals rfl

theorem app_none {t u ty e : TypeId} {i : TypeInfo} {du : TypeDesc} (ht : P.underlying t = some (.slice e)) (hu : P.underlying u = some du) (hdu : SlStr du) (hi : P.info? e = some i)
    {y : Value} {news : List Value} (hl : (Builtin.lenOf y).run P w = .ok 0 w) (hf : (Builtin.firstCells i.size 0 y).run P w = .ok news.toArray w) :
    (Builtin.append_ #[t, u] ty #[.slice none 0 0, y]).run P w = .ok (.slice none 0 0) w := by
  have hs : sizeT P e = some i.size := by simp [sizeT, hi]
  obtain ⟨q, rfl⟩ | rfl := hdu
  all_goals simp only [Builtin.append_, List.getElem?_toArray, List.getElem?_cons_zero, List.getElem?_cons_succ, Sem.run_bind, run_underlying' ht, run_underlying' hu, Result.andThen_ok, run_sizeT hs, Sem.run_pure, Bool.false_eq_true, if_false, hl,
    Bool.not_false, if_true, Nat.add_zero, if_pos (Nat.le_refl 0), hf]

/-- What is appended, as cells. -/
theorem tail_cells {M : Mem} {G : Gh} (hM : M = G.mem w) {e ts t : TypeId} {y : AV} {v : Value} {ys : List AV} {sz : Nat} (h : tailA P e ts t y = some ys) (r : Rep P M y v) (hts : P.underlying ts = some (.slice e)) (hs : sizeT P e = some sz) (hz : 0 < sz) :
    ∃ (du : TypeDesc) (news : List Value), P.underlying t = some du ∧ SlStr du ∧ (Builtin.lenOf v).run P w = .ok ys.length w ∧ (∀ w2 : World, w2.heap = w.heap → (Builtin.firstCells sz ys.length v).run P w2 = .ok news.toArray w2) ∧
      news.length = ys.length * sz ∧ (∀ x ∈ ys, x.cells.length = sz) ∧ (∀ j, j < news.length → Rep P M ((flat ys).getD j .undef) (news.getD j undef) ∧ (news.getD j undef).oneCell' = true) := by
  subst hM
  unfold tailA at h
  split at h
  · rename_i e' e'' ys' sp hu
    split at h
    · rename_i hc
      obtain ⟨rfl, rfl⟩ := hc
      injection h with h; subst h
      cases r with
      | lst _ _ _ a cap sz' b off c hsz hz' hall hcap ha hc hr h1 =>
        obtain rfl : sz = sz' := by rw [hs] at hsz; exact Option.some.inj hsz
        have hall' : ∀ x ∈ ys', x.cells.length = sz := fun x hx => hall x (by simp [hx])
        have hfl := flat_len _ hall'
        have hfl2 := flat_len _ hall
        have hlt : ∀ j, j < ys'.length * sz → j < (flat (ys' ++ sp)).length := by
          intro j hj
          rw [hfl2, List.length_append, Nat.add_mul]; omega
        have hget : ∀ j, j < ys'.length * sz → (flat (ys' ++ sp)).getD j .undef = (flat ys').getD j .undef := by
          intro j hj
          rw [flat_append]
          simp only [List.getD_eq_getElem?_getD]
          rw [List.getElem?_append_left (by omega)]
        refine ⟨_, (List.range (ys'.length * sz)).map c, hts, .inl ⟨_, rfl⟩, rfl, ?_, by simp, hall', ?_⟩
        · intro w2 hw2
          by_cases h0 : ys' ++ sp = []
          · have h0' : ys' = [] := (List.append_eq_nil_iff.1 h0).1
            subst h0'
            cases a <;> simp [Builtin.firstCells, loadCells, loadCellsFrom]
          · obtain rfl := ha h0
            simp only [Builtin.firstCells]
            have := run_loadCells (P := P) w2 ⟨b, off, none⟩ (ys'.length * sz) c (fun j hj => by
              rw [add_addr]
              have := pm_cell (hc j (hlt j hj))
              unfold World.cell? at this ⊢
              rw [hw2]; exact this)
            rw [this]
        · intro j hj
          simp only [List.length_map, List.length_range] at hj
          have e1 : ((List.range (ys'.length * sz)).map c).getD j undef = c j := by simp [List.getD_eq_getElem?_getD, hj]
          rw [e1, ← hget j hj]
          exact ⟨hr j (hlt j hj), h1 j (hlt j hj)⟩
    · cases h
  · rename_i e' hu
    split at h
    · rename_i hc
      subst hc
      injection h with h; subst h
      cases r
      exact ⟨_, [], hu, .inl ⟨_, rfl⟩, rfl, fun w2 _ => rfl, by simp, by simp, fun j hj => by simp at hj⟩
    · cases h
  · rename_i s hu
    split at h
    · rename_i he hs1
      injection h with h; subst h
      obtain rfl := str_inv r
      obtain rfl : sz = 1 := by rw [hs] at hs1; exact Option.some.inj hs1
      have hfl : ∀ l : List UInt8, flat (l.map fun b => AV.int .u8 b.toNat) = l.map fun b => AV.int .u8 b.toNat := by
        intro l
        induction l with
        | nil => rfl
        | cons b r ih => simp only [flat, List.map_cons, List.flatMap_cons] at ih ⊢; rw [ih]; rfl
      refine ⟨.string, Lib.strCells ⟨⟨s⟩⟩, hu, .inr rfl, ?_, ?_, ?_, ?_, ?_⟩
      · simp [Builtin.lenOf, ByteArray.size]
      · intro w2 _
        have := Lib.run_firstCells_string (P := P) w2 1 ⟨⟨s⟩⟩
        simpa [ByteArray.size] using this
      · simp [Lib.strCells]
      · intro x hx
        obtain ⟨b, _, rfl⟩ := List.mem_map.1 hx
        rfl
      · intro j hj
        have hj' : j < s.length := by simpa [Lib.strCells] using hj
        rw [hfl]
        simp only [Lib.strCells, List.getD_eq_getElem?_getD, List.getElem?_map, List.getElem?_eq_getElem hj', Option.map_some, Option.getD_some]
        exact ⟨.int _ _, rfl⟩
    · cases h
  · cases h

theorem take_getD (cur : Array Value) (k j : Nat) (cells : List Value) (h : cur.toList.take k = cells) (hj : j < k) (hk : k ≤ cur.size) : cells.getD j undef = cur.getD j undef := by
  subst h
  simp only [List.getD_eq_getElem?_getD, List.getElem?_take, if_pos hj, Array.getElem?_toList, Array.getD_eq_getD_getElem?]

def Gh.put (G : Gh) (b n : Nat) (l : Loc) : Gh := { G with lim := upd G.lim b n, owner := upd G.owner b (some l) }

/-- 'append': whatever arm Go takes, the new list is the old one and what came behind it; nothing that is read has turned. -/
theorem append_sound {G : Gh} (g : GOk G w) {ts tx ty e : TypeId} {y : AV} {v u : Value} {xs ys : List AV} {i : TypeInfo} {z : List AV} {l : Loc} (hts : P.underlying ts = some (.slice e)) (hi : P.info? e = some i) (hz0 : zeroT P e = some z) (hzl : z.length = i.size)
    (ht : tailA P e ts tx y = some ys) (ry : Rep P (G.mem w) y u) (hp : 0 < i.size) (h63 : xs.length + ys.length ≤ 140737488355328) (hby : (xs.length + ys.length) * i.bytes ≤ 140737488355328)
    {cells : List Value} (hown : w.ownsRow 0 e i.size v xs.length cells) (hol : ∀ b, v.ownBlock = some b → G.owner b = some l ∧ G.lim b = xs.length * i.size)
    (hall : ∀ x ∈ xs, x.cells.length = i.size) (hrep : ∀ j, j < cells.length → Rep P (G.mem w) ((flat xs).getD j .undef) (cells.getD j undef) ∧ (cells.getD j undef).oneCell' = true) :
    ∃ v' w' G', (Builtin.append_ #[ts, tx] ty #[v, u]).run P w = .ok v' w' ∧ Ext G w G' w' ∧ GOk G' w' ∧ Rep P (G'.mem w') (.lst e (xs ++ ys) []) v' ∧ OwnAt P G' w' l (.lst e (xs ++ ys) []) v' ∧
      (∀ b, b < w.heap.size → some b ≠ v.ownBlock → w'.heap[b]? = w.heap[b]?) ∧ G'.f = G.f ∧ G'.bs = G.bs ∧ (∀ b, G.owner b ≠ some l → b < w.heap.size → G'.owner b = G.owner b ∧ G'.lim b = G.lim b) := by
  have hs : sizeT P e = some i.size := by simp [sizeT, hi]
  obtain ⟨du, news, hu, hdu, hlen, hfc, hnl, hally, hnr⟩ := tail_cells rfl ht ry hts hs hp
  obtain ⟨zv, hzr, hzc⟩ := zero_sound (M := G.mem w) (w := w) hz0
  have hzz : i.zero = some zv := by
    simp only [zeroValue, Sem.run_bind, run_typeInfo' hi, Result.andThen_ok] at hzr
    cases hiz : i.zero with
    | none => rw [hiz] at hzr; simp at hzr
    | some q => rw [hiz] at hzr; simp at hzr; rw [hzr]
  have hall2 : ∀ x ∈ xs ++ ys, x.cells.length = i.size := by
    intro x hx; rcases List.mem_append.1 hx with h | h; exact hall x h; exact hally x h
  have hcl : cells.length = xs.length * i.size := hown.1
  have hfx := flat_len _ hall
  have hfy := flat_len _ hally
  have hone : ∀ u ∈ news, u.oneCell' = true := by
    intro q hq
    obtain ⟨j, hj, rfl⟩ := List.mem_iff_getElem.1 hq
    have := (hnr j hj).2
    simpa [List.getD_eq_getElem?_getD, List.getElem?_eq_getElem hj] using this
  -- the cells of the whole
  have hcat : ∀ j, j < (xs.length + ys.length) * i.size → Rep P (G.mem w) ((flat (xs ++ ys)).getD j .undef) ((cells ++ news).getD j undef) ∧ ((cells ++ news).getD j undef).oneCell' = true := by
    intro j hj
    rw [flat_append]
    simp only [List.getD_eq_getElem?_getD] at *
    rw [Nat.add_mul] at hj
    by_cases hlt : j < xs.length * i.size
    · rw [List.getElem?_append_left (by omega), List.getElem?_append_left (by omega)]
      exact hrep j (by omega)
    · rw [List.getElem?_append_right (by omega), List.getElem?_append_right (by omega), hfx, hcl]
      exact hnr (j - xs.length * i.size) (by omega)
  have newDone : ∀ (cs : Array Value) (cap : Nat) (w' : World), w' = w.drew.alloc (.cells cs e) → xs.length + ys.length ≤ cap → cap ≤ maxLen → cs.size = cap * i.size → (∀ j, j < (xs.length + ys.length) * i.size → cs.getD j undef = (cells ++ news).getD j undef) →
      Ext G w (G.list w.heap.size ((xs ++ ys).length * i.size) (some l)) w' ∧ GOk (G.list w.heap.size ((xs ++ ys).length * i.size) (some l)) w' ∧ Rep P ((G.list w.heap.size ((xs ++ ys).length * i.size) (some l)).mem w') (.lst e (xs ++ ys) []) (.slice (some ⟨w.heap.size, 0, none⟩) (xs ++ ys).length cap) ∧
      OwnAt P (G.list w.heap.size ((xs ++ ys).length * i.size) (some l)) w' l (.lst e (xs ++ ys) []) (.slice (some ⟨w.heap.size, 0, none⟩) (xs ++ ys).length cap) ∧
      (∀ b, b < w.heap.size → some b ≠ v.ownBlock → w'.heap[b]? = w.heap[b]?) := by
    intro cs cap w' hw' hc1 hc2 hcs hget
    have hbel : Below w.heap.size w w' := by rw [hw']; exact ((Below.refl _ _).drew).alloc (Nat.le_refl _) _
    have hnew : w'.heap[w.heap.size]? = some (.cells cs e (0, 0)) := by rw [hw']; exact heap_alloc_new w.drew _
    have hsz' : w.heap.size < w'.heap.size := by rw [hw']; simp
    refine ⟨(list_grow g hbel _ _).ext g, list_gok g hsz' _ _, ?_, ?_, fun b hb _ => hbel.block b hb⟩
    · refine list_rep g hbel hnew _ hs hp hall2 (by rw [List.length_append]; exact hc1) ?_
      intro j hj
      rw [flat_len _ hall2, List.length_append] at hj
      have h1 := Nat.mul_le_mul_right i.size hc1
      rw [hget j hj]
      exact ⟨by omega, (hcat j hj).1, (hcat j hj).2⟩
    · exact own_new g hbel hnew hs hp (by rw [List.length_append]; exact hc1) hc2 hcs
  have big1 : ∀ C, xs.length + ys.length ≤ C → (cells ++ news ++ (Builtin.zeroCells zv.cells (C - (xs.length + ys.length))).toList).toArray.size = C * i.size := by
    intro C hC
    have hzs : zv.cells.size = i.size := by rw [hzc.size, hzl]
    simp only [List.size_toArray, List.length_append, Array.length_toList, size_zeroCells, hzs, hcl, hnl, ← Nat.add_mul]
    congr 1; omega
  have big2 : ∀ C j, j < (xs.length + ys.length) * i.size → (cells ++ news ++ (Builtin.zeroCells zv.cells (C - (xs.length + ys.length))).toList).toArray.getD j undef = (cells ++ news).getD j undef := by
    intro C j hj
    have : j < (cells ++ news).length := by rw [List.length_append, hcl, hnl, ← Nat.add_mul]; exact hj
    simp only [Array.getD_eq_getD_getElem?, List.getElem?_toArray, List.getD_eq_getElem?_getD]
    rw [List.getElem?_append_left this]
  rcases hown.2 with ⟨hv, hn0⟩ | ⟨b, cap, cur, hv, _, hb, hnc, hcm, hcs, htake⟩
  · -- nil
    obtain rfl : xs = [] := List.eq_nil_of_length_eq_zero hn0
    subst hv
    by_cases h0 : ys = []
    · subst h0
      refine ⟨.slice none 0 0, w, G, app_none hts hu hdu hi hlen (hfc w rfl), Ext.refl _ _, g, ?_, ?_, fun _ _ _ => rfl, rfl, rfl, fun _ _ _ => ⟨rfl, rfl⟩⟩
      · exact .lst e [] [] none 0 i.size 0 0 (fun _ => undef) hs hp (by simp) (by simp) (fun h => absurd rfl h) (fun j hj => by simp [flat] at hj) (fun j hj => by simp [flat] at hj) (fun j hj => by simp [flat] at hj)
      · intro e' xs' hx
        injection hx with q1 q2 _
        subst q1; subst q2
        exact ⟨i.size, [], hs, hp, World.ownsRow_nil w 0 _ i.size, fun b hb => by simp [Value.ownBlock] at hb⟩
    · have hpos : 0 < ys.length := by cases ys with
        | nil => exact absurd rfl h0
        | cons _ _ => simp
      have hc0 : cells = [] := List.eq_nil_of_length_eq_zero (by simpa using hcl)
      have hrun := app_grow (ty := ty) hts hu hdu hi hzz (a := none) (n := ([] : List AV).length) (cap := 0) (olds := cells) hlen (hfc w.drew rfl) (by rw [hc0]; rfl) (by simpa using hpos) h63 hby
      have hge := grownCap_ge w (([] : List AV).length + ys.length) 0 e
      have hcm := grownCap_le_maxLen w (([] : List AV).length + ys.length) 0 e (by unfold maxLen; omega)
      obtain ⟨d1, d2, d3, d4, d5⟩ := newDone _ (grownCap w (([] : List AV).length + ys.length) 0 e) _ rfl hge hcm (big1 _ hge) (big2 _)
      rw [List.length_append] at d1 d2 d3 d4
      exact ⟨_, _, _, hrun, d1, d2, d3, d4, d5, rfl, rfl, fun b ho hb => ⟨upd_ne _ _ (by omega), upd_ne _ _ (by omega)⟩⟩
  · subst hv
    obtain ⟨ho, hl⟩ := hol b rfl
    have hblt : b < w.heap.size := (Array.getElem?_eq_some_iff.1 hb).1
    have hfo : ∀ w2 : World, w2.heap = w.heap → (Builtin.firstCells i.size xs.length (.slice (some ⟨b, 0, none⟩) xs.length cap)).run P w2 = .ok cells.toArray w2 := by
      intro w2 hw2
      refine run_firstCells_some w2 i.size xs.length _ _ _ cells hcl ?_
      intro j q hq
      have := hown.cells (g := b) rfl j q hq
      unfold World.cell? at this ⊢
      rw [hw2]; exact this
    by_cases hroom : xs.length + ys.length ≤ cap
    · have hle : (xs.length + ys.length) * i.size ≤ cap * i.size := Nat.mul_le_mul_right _ hroom
      have hfit : xs.length * i.size + news.length ≤ cur.size := by rw [hnl, ← Nat.add_mul, hcs]; exact hle
      have hrun := app_room (ty := ty) hts hu hdu hi (n := xs.length) hb hlen (hfc w rfl) hone hroom hfit
      obtain ⟨cs', hcs'⟩ : ∃ cs', cs' = (cur.toList.take (xs.length * i.size) ++ news ++ cur.toList.drop (xs.length * i.size + news.length)).toArray := ⟨_, rfl⟩
      rw [← hcs'] at hrun
      have hsz' : cs'.size = cap * i.size := by
        rw [hcs']
        simp only [List.size_toArray, List.length_append, List.length_take, List.length_drop, Array.length_toList, hcs] at hfit ⊢
        omega
      have hget : ∀ j, j < (xs.length + ys.length) * i.size → cs'[j]? = some ((cells ++ news).getD j undef) := by
        intro j hj
        have hj' : j < (cells ++ news).length := by rw [List.length_append, hcl, hnl, ← Nat.add_mul]; exact hj
        rw [hcs', htake]
        rw [List.getElem?_toArray, List.getElem?_append_left hj', List.getD_eq_getElem?_getD, List.getElem?_eq_getElem hj']; rfl
      have hnew := setRow_heap w b cur cs' e (0, 0) hb
      have hoth : ∀ k, k ≠ b → (w.setRow b cs').heap[k]? = w.heap[k]? := fun k hk => setRow_other w b k cs' hk
      have hext : Ext G w (G.put b ((xs.length + ys.length) * i.size) l) (w.setRow b cs') := by
        refine ⟨rfl, rfl, rfl, by simp, ?_, fun _ _ h => h, fun _ => Nat.le_refl _, ?_⟩
        · intro k o q hq
          by_cases hk : k = b
          · subst hk
            have hlo : o < xs.length * i.size := by
              unfold pmOf at hq; split at hq
              · rename_i h; rw [hl] at h; exact h
              · cases hq
            have hold := pm_cell hq
            have hlo' : o < cur.size := by omega
            have e1 : w.cell? ⟨k, o, none⟩ = some cur[o] := by simp [World.cell?, hb, hlo']
            rw [e1] at hold; injection hold with hold
            unfold pmOf
            have hlim : (G.put k ((xs.length + ys.length) * i.size) l).lim k = (xs.length + ys.length) * i.size := upd_same _ _ _
            rw [hlim, if_pos (by rw [Nat.add_mul]; omega)]
            have e2 : (w.setRow k cs').cell? ⟨k, o, none⟩ = cs'[o]? := by simp [World.cell?, hnew]
            rw [e2, hget o (by rw [Nat.add_mul]; omega), ← hold]
            have e3 := take_getD cur (xs.length * i.size) o cells htake hlo (by omega)
            simp only [List.getD_eq_getElem?_getD] at e3 ⊢
            rw [List.getElem?_append_left (by omega), e3]
            simp [Array.getD_eq_getD_getElem?, hlo']
          · unfold pmOf at hq ⊢
            have hlim : (G.put b ((xs.length + ys.length) * i.size) l).lim k = G.lim k := upd_ne _ _ hk
            rw [hlim]
            split at hq
            · rename_i h
              rw [if_pos h, World.cell?_of_block (hoth k hk)]; exact hq
            · cases hq
        · intro k hk hf
          have hkb : k ≠ b := by rintro rfl; exact hf (.inr (by rw [ho]; rfl))
          refine ⟨hoth k hkb, upd_ne _ _ hkb, ?_⟩
          rintro (h | h)
          · exact hf (.inl h)
          · refine hf (.inr ?_)
            change (upd G.owner b (some l) k).isSome = true at h
            rw [upd_ne _ _ hkb] at h; exact h
      have hgok : GOk (G.put b ((xs.length + ys.length) * i.size) l) (w.setRow b cs') := by
        refine ⟨?_, ?_⟩
        · intro id k hid
          obtain ⟨q1, q3⟩ := g.fin id k hid
          have hkb : k ≠ b := by rintro rfl; rw [ho] at q3; cases q3
          exact ⟨by simpa using q1, (upd_ne _ _ hkb).trans q3⟩
        · intro k hk
          simp only [setRow_size] at hk
          obtain ⟨q1, q2, q3⟩ := g.new k hk
          have hkb : k ≠ b := by omega
          exact ⟨(upd_ne _ _ hkb).trans q1, (upd_ne _ _ hkb).trans q2, q3⟩
      refine ⟨_, _, G.put b ((xs.length + ys.length) * i.size) l, hrun, hext, hgok, ?_, ?_, ?_, rfl, rfl, ?_⟩
      · have := Rep.lst (P := P) (M := (G.put b ((xs.length + ys.length) * i.size) l).mem (w.setRow b cs')) e (xs ++ ys) [] (some ⟨b, 0, none⟩) cap i.size b 0 (fun j => (cells ++ news).getD j undef) hs hp (by simpa using hall2) (by simpa using hroom) (fun _ => rfl)
          (by
            intro j hj
            rw [List.append_nil, flat_len _ hall2, List.length_append] at hj
            show pmOf _ _ _ _ = _
            unfold pmOf
            have hlim : (G.put b ((xs.length + ys.length) * i.size) l).lim b = (xs.length + ys.length) * i.size := upd_same _ _ _
            rw [hlim, Nat.zero_add, if_pos hj]
            have e2 : (w.setRow b cs').cell? ⟨b, j, none⟩ = cs'[j]? := by simp [World.cell?, hnew]
            rw [e2, hget j hj])
          (by
            intro j hj
            rw [List.append_nil, flat_len _ hall2, List.length_append] at hj
            rw [List.append_nil]
            exact hext.rep (hcat j hj).1)
          (by
            intro j hj
            rw [List.append_nil, flat_len _ hall2, List.length_append] at hj
            exact (hcat j hj).2)
        rw [List.length_append] at this
        exact this
      · intro e' xs' hx
        injection hx with q1 q2 _
        subst q1; subst q2
        refine ⟨i.size, cells ++ news, hs, hp, ⟨by rw [List.length_append, hcl, hnl, List.length_append, Nat.add_mul], .inr ⟨b, cap, cs', by rw [List.length_append], Nat.zero_le _, hnew, by rw [List.length_append]; exact hroom, hcm, hsz', ?_⟩⟩, ?_⟩
        · rw [hcs', htake, List.length_append, Nat.add_mul, ← hcl, ← hnl, ← List.length_append]
          exact List.take_left
        · intro k hk
          have : b = k := by simpa [Value.ownBlock] using hk
          subst this
          rw [List.length_append]
          exact ⟨upd_same _ _ _, upd_same _ _ _⟩
      · intro k hk hne
        exact hoth k (by rintro rfl; exact hne rfl)
      · intro k hk hlt
        have hkb : k ≠ b := by rintro rfl; exact hk ho
        exact ⟨upd_ne _ _ hkb, upd_ne _ _ hkb⟩
    · have hrun := app_grow (ty := ty) hts hu hdu hi hzz (a := some ⟨b, 0, none⟩) (n := xs.length) (cap := cap) (olds := cells) hlen (hfc w.drew rfl) (hfo w.drew rfl) (by omega) h63 hby
      have hge := grownCap_ge w (xs.length + ys.length) cap e
      have hcm' := grownCap_le_maxLen w (xs.length + ys.length) cap e (by unfold maxLen; omega)
      obtain ⟨d1, d2, d3, d4, d5⟩ := newDone _ (grownCap w (xs.length + ys.length) cap e) _ rfl hge hcm' (big1 _ hge) (big2 _)
      rw [List.length_append] at d1 d2 d3 d4
      exact ⟨_, _, _, hrun, d1, d2, d3, d4, d5, rfl, rfl, fun k ho' hk => ⟨upd_ne _ _ (by omega), upd_ne _ _ (by omega)⟩⟩

/-- Another's end, behind a step that turned nothing but one row. -/
theorem own_other {G G' : Gh} {w' : World} {l m : Loc} {vb : Option Nat} (hm : m ≠ l) (hvb : ∀ b, vb = some b → G.owner b = some l) (hext : Ext G w G' w') (hblk : ∀ b, b < w.heap.size → some b ≠ vb → w'.heap[b]? = w.heap[b]?)
    (hoo : ∀ b, G.owner b ≠ some l → b < w.heap.size → G'.owner b = G.owner b ∧ G'.lim b = G.lim b) {x : AV} {v : Value} (r : OwnAt P G w m x v) : OwnAt P G' w' m x v := by
  intro e xs hx
  obtain ⟨sz, cells, h1, h2, h3, h4⟩ := r e xs hx
  have hne : ∀ q, v.ownBlock = some q → some q ≠ vb := by
    intro q hq e
    have e1 := (h4 q hq).1
    rw [hvb q e.symm] at e1
    injection e1 with e1
    exact hm e1.symm
  refine ⟨sz, cells, h1, h2, h3.kept ⟨hext.os, hext.tape, hext.output, hext.size, hblk⟩ (row := vb) ?_, ?_⟩
  · cases hv : v.ownBlock with
    | none => exact .inl rfl
    | some q => exact .inr (hne q hv)
  · intro q hq
    have hlt : q < w.heap.size := by
      rcases h3.2 with ⟨rfl, _⟩ | ⟨g', cap, cur, rfl, _, hh, _⟩
      · simp [Value.ownBlock] at hq
      · have : g' = q := by simpa [Value.ownBlock] using hq
        subst this
        exact (Array.getElem?_eq_some_iff.1 hh).1
    have h5 := h4 q hq
    obtain ⟨a1, a2⟩ := hoo q (by rw [h5.1]; intro e; injection e with e; exact hm e) hlt
    exact ⟨a1.trans h5.1, a2.trans h5.2⟩
theorem heap_other {G G' : Gh} {w' : World} {l : Loc} {vb : Option Nat} {H : List (Option Blk)} (g : GOk G w) (hvb : ∀ b, vb = some b → G.owner b = some l) (hext : Ext G w G' w') (hblk : ∀ b, b < w.heap.size → some b ≠ vb → w'.heap[b]? = w.heap[b]?)
    (hf : G'.f = G.f) (hbs : G'.bs = G.bs) (hoo : ∀ b, G.owner b ≠ some l → b < w.heap.size → G'.owner b = G.owner b ∧ G'.lim b = G.lim b) (r : HeapRel P G H w) : HeapRel P G' H w' where
  dom := fun id b e => r.dom id b (by rw [← hf]; exact e)
  blk := fun id b k e hk => by
    rw [hf] at e
    obtain ⟨q1, q3⟩ := g.fin id b e
    obtain ⟨ds, d1, d2, d3, d4, d5⟩ := r.blk id b k e hk
    have hne : some b ≠ vb := by intro e'; have := hvb b e'.symm; rw [q3] at this; cases this
    exact ⟨ds, by rw [hblk b q1 hne]; exact d1, d2, by show ds.size = G'.bs b; rw [hbs]; exact d3, fun j hj => hext.rep (d4 j hj), d5⟩
  inj := fun i j b k l' h1 h2 => r.inj i j b k l' (by rw [← hf]; exact h1) (by rw [← hf]; exact h2)
  lim := fun id b k e hk hn => by
    rw [hf] at e
    obtain ⟨q1, q3⟩ := g.fin id b e
    rw [(hoo b (by rw [q3]; intro e; cases e) q1).2]
    exact r.lim id b k e hk hn

/-- 'append' as an operation: what it leaves. -/
theorem done_append {G G' : Gh} {w' : World} {env : List (Nat × AV)} {H : List (Option Blk)} {own : List Loc} {tt : Nat → Value} {d : Nat} {vb : Option Nat} (g : GOk G w) (hH : HeapRel P G H w) (hvb : ∀ b, vb = some b → G.owner b = some (.slot d)) (hext : Ext G w G' w') (hgok : GOk G' w')
    (hblk : ∀ b, b < w.heap.size → some b ≠ vb → w'.heap[b]? = w.heap[b]?) (hf : G'.f = G.f) (hbs : G'.bs = G.bs) (hoo : ∀ b, G.owner b ≠ some (.slot d) → b < w.heap.size → G'.owner b = G.owner b ∧ G'.lim b = G.lim b) {x : AV} {v : Value} (hrep : Rep P (G'.mem w') x v) (hown : OwnAt P G' w' (.slot d) x v)
    (hs : ∀ s, s ≠ d → Loc.slot s ∈ own → OwnAt P G w (.slot s) (look env s) (tt s))
    (hc : ∀ id off b k cs, Loc.cell id off ∈ own → G.f id = some b → H[id]? = some (some k) → w.heap[b]? = some (.cells cs k.e (0, 0)) → OwnAt P G w (.cell id off) (k.cs.getD off .undef) (cs.getD off undef))
    (hdom : ∀ id off, Loc.cell id off ∈ own → Live H id) : Done P G w env tt ⟨x, H, own, true⟩ d v w' G' where
  ext := hext
  ok := hgok
  heap := heap_other g hvb hext hblk hf hbs hoo hH
  rep := hrep
  slot := fun s hsd hm => own_other (by intro e; injection e with e; exact hsd e) hvb hext hblk hoo (hs s hsd hm)
  cell := fun id off b k cs hm hf' hk hb => by
    rw [hf] at hf'
    obtain ⟨q1, q3⟩ := g.fin id b hf'
    have hne : some b ≠ vb := by intro e'; have := hvb b e'.symm; rw [q3] at this; cases this
    rw [hblk b q1 hne] at hb
    exact own_other (by intro e; cases e) hvb hext hblk hoo (hc id off b k cs hm hf' hk hb)
  gives := fun _ => hown
  dom := hdom

end
end Go.Proofs.Ytnajopkaepjncaa.Am
