/- The abstract machine: Go's translated operations over values without addresses. Definitions alone: what it computes, for every program. -/
import Derived.WalkKit
import Derived.KernelRfl
namespace Go.Proofs.Ytnajopkaepjncaa.Am
set_option linter.unusedVariables false

/-- A value without addresses: a slice that nobody writes into is its elements (and those that lie behind them). -/
inductive AV where
  | undef
  | bool (b : Bool)
  | int (k : IntKind) (n : Int)
  | str (s : List UInt8)
  | agg (cs : List AV)
  | tup (cs : List AV)
  | nils
  | lst (e : TypeId) (xs sp : List AV)
  | sl (e : TypeId) (id off len : Nat)
  | nilp
  | ptr (id off : Nat)
  | ept (cs : List AV) (off : Nat)
  | nilfn
  | fn (f : FuncId) (cap : List AV)
  | nili
  | iface (t : TypeId) (v : AV)
  | nilm
  | map (id : Nat)
  deriving Inhabited

def AV.cells : AV → List AV
  | .agg cs => cs
  | .undef => []
  | .tup _ => []
  | x => [x]

/-- One cell. -/
def AV.isOne : AV → Bool
  | .agg _ => false
  | .undef => false
  | .tup _ => false
  | _ => true

/-- Where a list's end may be written on: a slot, a cell. -/
inductive Loc where
  | slot (s : Nat)
  | cell (id off : Nat)
  deriving DecidableEq

structure Blk where
  e : TypeId
  cs : List AV

structure St where
  env : List (Nat × AV)
  H : List (Option Blk)
  own : List Loc

def look : List (Nat × AV) → Nat → AV
  | [], _ => .undef
  | (s, x) :: r, t => cond (Nat.beq s t) x (look r t)

def constAV : Value → Option AV
  | .bool b => some (.bool b)
  | .int k n => some (.int k n)
  | .string s => some (.str s.data.toList)
  | .pointer none => some .nilp
  | .slice none 0 0 => some .nils
  | .map none => some .nilm
  | .nilFunc => some .nilfn
  | .nilIface => some .nili
  | _ => none

def evalO (env : List (Nat × AV)) : Operand → Option AV
  | .tmp t => some (look env t)
  | .const v => constAV v
  | .global _ => none
  | .func f => some (.fn f [])

/-! ### types -/
def isAggT (P : Program) (t : TypeId) : Option Bool :=
  match P.underlying t with
  | some (.struct _) => some true
  | some (.array _ _) => some true
  | some _ => some false
  | none => none
def sizeT (P : Program) (t : TypeId) : Option Nat := (P.info? t).map (·.size)
def zeroT (P : Program) (t : TypeId) : Option (List AV) :=
  match P.info? t with
  | some i => match i.zero with
    | some z => z.cells.toList.mapM constAV
    | none => none
  | none => none
/-- Cells as a value of a type. -/
def ofCells (P : Program) (t : TypeId) (cs : List AV) : Option AV :=
  match isAggT P t with
  | some true => some (.agg cs)
  | some false => match cs with
    | [x] => if x.isOne then some x else none
    | _ => none
  | none => none
def partA (P : Program) (t : TypeId) (cs : List AV) (off : Nat) : Option AV :=
  match isAggT P t, sizeT P t with
  | some true, some n => if off + n ≤ cs.length then some (.agg ((cs.drop off).take n)) else none
  | some false, some _ => cs[off]?
  | _, _ => none

/-! ### numbers and strings -/
def bitsA (k : IntKind) (r : BitVec k.bits) : AV := .int k (k.wrap r.toNat)
def intOp (op : BinOp) (k : IntKind) (x y : Int) : Option AV :=
  match op with
  | .add => some (.int k (k.wrap (x + y)))
  | .sub => some (.int k (k.wrap (x - y)))
  | .mul => some (.int k (k.wrap (x * y)))
  | .quo => if y = 0 then none else some (.int k (k.wrap (x.tdiv y)))
  | .rem => if y = 0 then none else some (.int k (x.tmod y))
  | .and => some (bitsA k (BitVec.ofInt k.bits x &&& BitVec.ofInt k.bits y))
  | .or => some (bitsA k (BitVec.ofInt k.bits x ||| BitVec.ofInt k.bits y))
  | .xor => some (bitsA k (BitVec.ofInt k.bits x ^^^ BitVec.ofInt k.bits y))
  | .andNot => some (bitsA k (BitVec.ofInt k.bits x &&& ~~~ BitVec.ofInt k.bits y))
  | .eql => some (.bool (x == y))
  | .neq => some (.bool (x != y))
  | .lss => some (.bool (decide (x < y)))
  | .leq => some (.bool (decide (x ≤ y)))
  | .gtr => some (.bool (decide (x > y)))
  | .geq => some (.bool (decide (x ≥ y)))
  | .shl => none
  | .shr => none
def shiftOp (op : BinOp) (k : IntKind) (x y : Int) : Option AV :=
  if y < 0 then none else
  match op with
  | .shl => some (.int k (k.wrap (x * 2 ^ (min y.toNat k.bits))))
  | .shr => some (.int k (x.fdiv (2 ^ (min y.toNat k.bits))))
  | _ => none
def strOp (op : BinOp) (x y : List UInt8) : Option AV :=
  match op with
  | .add => if x.length + y.length ≤ 9223372036854775807 then some (.str (x ++ y)) else none
  | .eql => some (.bool (x == y))
  | .neq => some (.bool !(x == y))
  | .lss => some (.bool (Op.bytesLess x y))
  | .leq => some (.bool (Op.bytesLess x y || x == y))
  | .gtr => some (.bool !(Op.bytesLess x y || x == y))
  | .geq => some (.bool !(Op.bytesLess x y))
  | _ => none

/-! ### equality -/
def eqFields (f : TypeId → AV → AV → Option Bool) (P : Program) : List Field → List AV → List AV → Option Bool
  | [], _, _ => some true
  | fd :: r, xs, ys =>
    if fd.name = "_" then eqFields f P r xs ys else
    match partA P fd.type xs fd.offset, partA P fd.type ys fd.offset with
    | some x, some y => match f fd.type x y with
      | some true => eqFields f P r xs ys
      | some false => some false
      | none => none
    | _, _ => none
def eqIn (P : Program) : Nat → TypeId → AV → AV → Option Bool
  | 0, _, _, _ => none
  | d + 1, t, x, y =>
    match P.underlying t with
    | some .bool => match x, y with
      | .bool a, .bool b => some (a == b)
      | _, _ => none
    | some (.int _) => match x, y with
      | .int k a, .int k' b => if k = k' then some (a == b) else none
      | _, _ => none
    | some .string => match x, y with
      | .str a, .str b => some (a == b)
      | _, _ => none
    | some (.pointer e) => match x, y with
      | .nilp, .nilp => some true
      | .nilp, .ptr _ _ => some false
      | .ptr _ _, .nilp => some false
      | _, _ => none
    | some (.slice _) => match x, y with
      | .nils, .nils => some true
      | .lst _ (_ :: _) _, .nils => some false
      | .nils, .lst _ (_ :: _) _ => some false
      | _, _ => none
    | some (.map _ _) => match x, y with
      | .nilm, .nilm => some true
      | .map _, .nilm => some false
      | .nilm, .map _ => some false
      | _, _ => none
    | some (.func _ _ _) => match x, y with
      | .nilfn, .nilfn => some true
      | .fn _ _, .nilfn => some false
      | .nilfn, .fn _ _ => some false
      | _, _ => none
    | some (.interface _) => match x, y with
      | .nili, .nili => some true
      | .iface _ _, .nili => some false
      | .nili, .iface _ _ => some false
      | _, _ => none
    | some (.struct fields) => match x, y with
      | .agg xs, .agg ys => if P.stoodInHeld t then none else eqFields (eqIn P d) P fields.toList xs ys
      | _, _ => none
    | _ => none
def isConst : Operand → Bool
  | .const _ => true
  | _ => false
/-- What the model asks ahead of '==': nothing of two values that are not both nil interfaces, or structs that hold some. -/
def eqGuardA (P : Program) (t : TypeId) (x y : Operand) (a b : AV) : Bool :=
  match a, b with
  | .nili, .nili => isConst x || isConst y
  | .agg _, .agg _ => !(P.eqGuardType P.depth t)
  | _, _ => true
/-- Neither a number nor a string. -/
def plainA : AV → Bool
  | .undef => false
  | .int _ _ => false
  | .str _ => false
  | .tup _ => false
  | _ => true
def binOpA (P : Program) (op : BinOp) (t : TypeId) (x y : Operand) (a b : AV) : Option AV :=
  match a, b with
  | .int k m, .int k' n => match op with
    | .shl => shiftOp .shl k m n
    | .shr => shiftOp .shr k m n
    | _ => if k = k' then intOp op k m n else none
  | .str m, .str n => strOp op m n
  | _, _ => match op with
    | .eql => if plainA a && eqGuardA P t x y a b then (eqIn P 10000 t a b).map .bool else none
    | .neq => if plainA a && eqGuardA P t x y a b then (eqIn P 10000 t a b).map (fun r => .bool !r) else none
    | _ => none
def unOpA (op : UnOp) (x : AV) : Option AV :=
  match op, x with
  | .neg, .int k n => some (.int k (k.wrap (0 - n)))
  | .xor, .int k n => intOp .xor k (if k.signed then -1 else k.max) n
  | .not, .bool b => some (.bool !b)
  | _, _ => none
def convA (P : Program) (src dst : TypeId) (x : AV) : Option AV :=
  match P.underlying src, P.underlying dst, x with
  | some _, some (.int k), .int _ n => some (.int k (k.wrap n))
  | some _, some .string, .str s => some (.str s)
  | _, _, _ => none

/-! ### parts -/
def splice (cs : List AV) (off : Nat) (vs : List AV) : List AV := cs.take off ++ vs ++ cs.drop (off + vs.length)
def fillA (place : Nat → Option (Nat × Nat)) (cs : List AV) : List (Nat × AV) → Option (List AV)
  | [] => some cs
  | (i, v) :: r => match place i with
    | some (off, size) => if v.cells.length = size ∧ 0 < size ∧ off + v.cells.length ≤ cs.length then fillA place (splice cs off v.cells) r else none
    | none => none
def evalParts (env : List (Nat × AV)) : List (Nat × Operand) → Option (List (Nat × AV))
  | [] => some []
  | (i, x) :: r => match evalO env x, evalParts env r with
    | some v, some vs => some ((i, v) :: vs)
    | _, _ => none
def evalL (env : List (Nat × AV)) : List Operand → Option (List AV)
  | [] => some []
  | x :: r => match evalO env x, evalL env r with
    | some v, some vs => some (v :: vs)
    | _, _ => none
def places (P : Program) (fields : Array Field) (i : Nat) : Option (Nat × Nat) :=
  match fields[i]? with
  | some f => (sizeT P f.type).map fun n => (f.offset, n)
  | none => none
def buildA (P : Program) (t : TypeId) (parts : List (Nat × AV)) : Option AV :=
  match zeroT P t, P.underlying t with
  | some z, some (.struct fields) => if fields.all fun f => (sizeT P f.type).isSome then (fillA (places P fields) z parts).map .agg else none
  | some z, some (.array _ elem) => match sizeT P elem with
    | some size => (fillA (fun i => some (i * size, size)) z parts).map .agg
    | none => none
  | _, _ => none
/-- Cells cut into elements. -/
def chop (P : Program) (e : TypeId) (sz : Nat) : Nat → List AV → Option (List AV)
  | 0, _ => some []
  | n + 1, cs => match ofCells P e (cs.take sz), chop P e sz n (cs.drop sz) with
    | some x, some r => some (x :: r)
    | _, _ => none
def rep (n : Nat) (cs : List AV) : List AV := (List.replicate n cs).flatten
def fieldOff (P : Program) (s : TypeId) (f : Nat) : Option Nat :=
  match P.underlying s with
  | some (.struct fields) => match fields[f]? with
    | some fd => match sizeT P fd.type with
      | some 0 => none
      | some _ => some fd.offset
      | none => none
    | none => none
  | _ => none
def inRange (i : Int) (n : Nat) : Bool := decide (0 ≤ i) && decide (i < n)
def indexAddrA (P : Program) (t : TypeId) (x i : AV) : Option AV :=
  match P.underlying t, i with
  | some (.slice elem), .int _ n => match x with
    | .lst e xs _ => if e = elem && inRange n xs.length then (xs[n.toNat]?).map fun v => .ept v.cells 0 else none
    | .sl e id off len => match sizeT P elem with
      | some sz => if e = elem && inRange n len then some (.ptr id (off + n.toNat * sz)) else none
      | none => none
    | _ => none
  | some (.array len elem), .int _ n => match sizeT P elem with
    | some sz => if inRange n len then (match x with
        | .ptr id off => some (.ptr id (off + n.toNat * sz))
        | .ept cs off => some (.ept cs (off + n.toNat * sz))
        | _ => none) else none
    | none => none
  | _, _ => none
def indexA (P : Program) (t : TypeId) (x i : AV) : Option AV :=
  match P.underlying t, x, i with
  | some (.array len elem), .agg cs, .int _ n => match sizeT P elem with
    | some sz => if inRange n len then partA P elem cs (n.toNat * sz) else none
    | none => none
  | some .string, .str s, .int _ n => if 0 ≤ n then (s[n.toNat]?).map fun b => .int .u8 b.toNat else none
  | _, _, _ => none
/-- A bound of a cut. -/
def boundA (x : Option AV) (dflt top : Nat) : Option Nat :=
  match x with
  | none => some dflt
  | some (.int _ i) => if 0 ≤ i ∧ i ≤ top then some i.toNat else none
  | some _ => none
def sliceA (P : Program) (t : TypeId) (x : AV) (lo hi mx : Option AV) : Option AV :=
  match P.underlying t with
  | some .string => match x, mx with
    | .str s, none => match boundA hi s.length s.length with
      | some h => match boundA lo 0 h with
        | some l => some (.str ((s.take h).drop l))
        | none => none
      | none => none
    | _, _ => none
  | some (.slice elem) => if mx.isSome && !hi.isSome then none else
    match x with
    | .nils => match boundA mx 0 0 with
      | some m => match boundA hi 0 m with
        | some h => match boundA lo 0 h, sizeT P elem with
          | some _, some _ => some .nils
          | _, _ => none
        | none => none
      | none => none
    | .lst e xs sp => match boundA mx (xs.length + sp.length) (xs.length + sp.length) with
      | some m => match boundA hi xs.length m with
        | some h => match boundA lo 0 h with
          | some l => if e = elem then some (.lst e (((xs ++ sp).take h).drop l) (((xs ++ sp).take m).drop h)) else none
          | none => none
        | none => none
      | none => none
    | .sl e id off len => match boundA mx len len with
      | some m => match boundA hi len m with
        | some h => match boundA lo 0 h, sizeT P e with
          | some l, some sz => if e = elem then (if l = 0 ∨ 0 < h - l then some (.sl e id (off + l * sz) (h - l)) else none) else none
          | _, _ => none
        | none => none
      | none => none
    | _ => none
  | _ => none
def optA (env : List (Nat × AV)) : Option Operand → Option (Option AV)
  | none => some none
  | some x => (evalO env x).map some

/-! ### operations that neither read nor write cells -/
def pureOp (P : Program) (env : List (Nat × AV)) (op : Op) : Option AV :=
  match op with
  | .move x => evalO env x
  | .assign x => evalO env x
  | .pick c a b => match evalO env c with
    | some (.bool t) => cond t (evalO env a) (evalO env b)
    | _ => none
  | .build t parts => match evalParts env parts.toList with
    | some ps => buildA P t ps
    | none => none
  | .nilCheck x => match evalO env x with
    | some (.ptr i o) => some (.ptr i o)
    | some (.ept c o) => some (.ept c o)
    | some (.iface t v) => some (.iface t v)
    | some (.fn f c) => some (.fn f c)
    | _ => none
  | .binOp op t x y _ => match evalO env x, evalO env y with
    | some a, some b => binOpA P op t x y a b
    | _, _ => none
  | .unOp op _ x => match evalO env x with
    | some a => unOpA op a
    | none => none
  | .convert src dst x => match evalO env x with
    | some a => convA P src dst a
    | none => none
  | .makeInterface t x => match evalO env x, P.underlying t with
    | some a, some (.interface _) => none
    | some a, some _ => some (.iface t a)
    | _, _ => none
  | .makeFunc (.func f) first captured => if first.size = 0 then (evalL env captured.toList).map (.fn f) else none
  | .slice t x lo hi mx => match evalO env x, optA env lo, optA env hi, optA env mx with
    | some a, some l, some h, some m => sliceA P t a l h m
    | _, _, _, _ => none
  | .fieldAddr s x f => match evalO env x, fieldOff P s f with
    | some (.ptr id off), some o => some (.ptr id (off + o))
    | some (.ept cs off), some o => some (.ept cs (off + o))
    | _, _ => none
  | .field t x f => match evalO env x, P.underlying t with
    | some (.agg cs), some (.struct fields) => match fields[f]? with
      | some fd => partA P fd.type cs fd.offset
      | none => none
    | _, _ => none
  | .indexAddr t x i => match evalO env x, evalO env i with
    | some a, some b => indexAddrA P t a b
    | _, _ => none
  | .index t x i => match evalO env x, evalO env i with
    | some a, some b => indexA P t a b
    | _, _ => none
  | .extract t i => match evalO env t with
    | some (.tup vs) => vs[i]?
    | _ => none
  | .call { callee := .builtin .len, args, argTypes } => match args.toList, argTypes.toList with
    | [x], [t] => match P.underlying t, evalO env x with
      | some .string, some (.str s) => some (.int .i64 s.length)
      | some (.slice _), some (.lst _ xs _) => some (.int .i64 xs.length)
      | some (.slice _), some (.sl _ _ _ n) => some (.int .i64 n)
      | some (.slice _), some .nils => some (.int .i64 0)
      | some (.array n _), some _ => some (.int .i64 n)
      | some (.map _ _), some .nilm => some (.int .i64 0)
      | _, _ => none
    | _, _ => none
  | _ => none

/-! ### operations on cells -/
def readCells (H : List (Option Blk)) (id off n : Nat) : Option (List AV) :=
  match H[id]? with
  | some (some b) => if off + n ≤ b.cs.length then some ((b.cs.drop off).take n) else none
  | _ => none
def loadA (P : Program) (H : List (Option Blk)) (t : TypeId) (p : AV) : Option AV :=
  match sizeT P t with
  | some n => match p with
    | .ptr id off => match readCells H id off n with
      | some cs => ofCells P t cs
      | none => none
    | .ept cs off => if off + n ≤ cs.length then ofCells P t ((cs.drop off).take n) else none
    | _ => none
  | none => none
def storeA (P : Program) (H : List (Option Blk)) (t : TypeId) (p x : AV) : Option (List (Option Blk)) :=
  match p, sizeT P t with
  | .ptr id off, some n => match H[id]? with
    | some (some b) => if x.cells.length = n ∧ 0 < n ∧ off + n ≤ b.cs.length then some (H.set id (some ⟨b.e, splice b.cs off x.cells⟩)) else none
    | _ => none
  | _, _ => none

end Go.Proofs.Ytnajopkaepjncaa.Am
