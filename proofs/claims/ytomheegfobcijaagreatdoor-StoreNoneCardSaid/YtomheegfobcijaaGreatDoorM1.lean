/- The abstract machine: Go's translated operations over values without addresses. Definitions alone: what it computes, for every program. -/
import Derived.WalkKit
import Derived.KernelRfl
import Derived.ChangeKeysEq
import Derived.MapKept
import Derived.Laws.CopyRow
import Derived.Lib.AtoiErrMem
/- The abstract machine: Go's translated operations over values without addresses. Definitions alone: what it computes, for every program. -/
namespace Go.Proofs.YtomheegfobcijaaGreatDoor.Am
set_option linter.unusedVariables false

/-- A value without addresses: a slice that nobody writes into is its elements (and those that lie behind them). -/
inductive AV where
  | undef
  | bool (b : Bool)
  | int (k : IntKind) (n : Int)
  | str (s : List UInt8)
  | agg (cs : List AV)
  | tup (cs : List AV)
  | nils
  | lst (e : TypeId) (xs sp : List AV)
  | sl (e : TypeId) (id off len : Nat)
  | vw (e : TypeId) (id off len : Nat)
  | nilp
  | ptr (id off : Nat)
  | ept (cs : List AV) (off : Nat)
  | nilfn
  | fn (f : FuncId) (cap : List AV)
  | mfn (f : FuncId) (first cap : List AV)
  | nili
  | iface (t : TypeId) (v : AV)
  | nilm
  | map (id : Nat)
  | yld (id : Nat)
  | rcd (vars : Nat → List Nat) (nt : Nat) (env : List (Nat × AV)) (ps : List Nat) (assign body : Code)
  deriving Inhabited

def AV.cells : AV → List AV
  | .agg cs => cs
  | .undef => []
  | .tup _ => []
  | .rcd _ _ _ _ _ _ => []
  | x => [x]

/-- The kind of a block that is a loop's record. -/
def LOOP : TypeId := 4294967295
/-- The slot that no program has: what a frame has deferred. -/
def DEF : Nat := 4294967290
/-- One cell. -/
def AV.isOne : AV → Bool
  | .agg _ => false
  | .undef => false
  | .tup _ => false
  | .rcd _ _ _ _ _ _ => false
  | _ => true

/-- Where a list's end may be written on: a slot, a cell. -/
inductive Loc where
  | slot (s : Nat)
  | cell (id off : Nat)
  deriving DecidableEq

structure Blk where
  e : TypeId
  cs : List AV

structure St where
  env : List (Nat × AV)
  H : List (Option Blk)
  own : List Loc

def look : List (Nat × AV) → Nat → AV
  | [], _ => .undef
  | (s, x) :: r, t => cond (Nat.beq s t) x (look r t)

def constAV : Value → Option AV
  | .bool b => some (.bool b)
  | .int k n => some (.int k n)
  | .string s => some (.str s.data.toList)
  | .pointer none => some .nilp
  | .slice none 0 0 => some .nils
  | .map none => some .nilm
  | .nilFunc => some .nilfn
  | .nilIface => some .nili
  | _ => none

def evalO (env : List (Nat × AV)) : Operand → Option AV
  | .tmp t => some (look env t)
  | .const v => constAV v
  | .global _ => none
  | .func f => some (.fn f [])

/-! ### types -/
def isAggT (P : Program) (t : TypeId) : Option Bool :=
  match P.underlying t with
  | some (.struct _) => some true
  | some (.array _ _) => some true
  | some _ => some false
  | none => none
def sizeT (P : Program) (t : TypeId) : Option Nat := (P.info? t).map (·.size)
def zeroT (P : Program) (t : TypeId) : Option (List AV) :=
  match P.info? t with
  | some i => match i.zero with
    | some z => z.cells.toList.mapM constAV
    | none => none
  | none => none
/-- Cells as a value of a type. -/
def ofCells (P : Program) (t : TypeId) (cs : List AV) : Option AV :=
  match isAggT P t with
  | some true => some (.agg cs)
  | some false => match cs with
    | [x] => if x.isOne then some x else none
    | _ => none
  | none => none
def partA (P : Program) (t : TypeId) (cs : List AV) (off : Nat) : Option AV :=
  match isAggT P t, sizeT P t with
  | some true, some n => if off + n ≤ cs.length then some (.agg ((cs.drop off).take n)) else none
  | some false, some _ => cs[off]?
  | _, _ => none

/-! ### numbers and strings -/
def bitsA (k : IntKind) (r : BitVec k.bits) : AV := .int k (k.wrap r.toNat)
def intOp (op : BinOp) (k : IntKind) (x y : Int) : Option AV :=
  match op with
  | .add => some (.int k (k.wrap (x + y)))
  | .sub => some (.int k (k.wrap (x - y)))
  | .mul => some (.int k (k.wrap (x * y)))
  | .quo => if y = 0 then none else some (.int k (k.wrap (x.tdiv y)))
  | .rem => if y = 0 then none else some (.int k (x.tmod y))
  | .and => some (bitsA k (BitVec.ofInt k.bits x &&& BitVec.ofInt k.bits y))
  | .or => some (bitsA k (BitVec.ofInt k.bits x ||| BitVec.ofInt k.bits y))
  | .xor => some (bitsA k (BitVec.ofInt k.bits x ^^^ BitVec.ofInt k.bits y))
  | .andNot => some (bitsA k (BitVec.ofInt k.bits x &&& ~~~ BitVec.ofInt k.bits y))
  | .eql => some (.bool (x == y))
  | .neq => some (.bool (x != y))
  | .lss => some (.bool (decide (x < y)))
  | .leq => some (.bool (decide (x ≤ y)))
  | .gtr => some (.bool (decide (x > y)))
  | .geq => some (.bool (decide (x ≥ y)))
  | .shl => none
  | .shr => none
def shiftOp (op : BinOp) (k : IntKind) (x y : Int) : Option AV :=
  if y < 0 then none else
  match op with
  | .shl => some (.int k (k.wrap (x * 2 ^ (min y.toNat k.bits))))
  | .shr => some (.int k (x.fdiv (2 ^ (min y.toNat k.bits))))
  | _ => none
def strOp (op : BinOp) (x y : List UInt8) : Option AV :=
  match op with
  | .add => if x.length + y.length ≤ 9223372036854775807 then some (.str (x ++ y)) else none
  | .eql => some (.bool (x == y))
  | .neq => some (.bool !(x == y))
  | .lss => some (.bool (Op.bytesLess x y))
  | .leq => some (.bool (Op.bytesLess x y || x == y))
  | .gtr => some (.bool !(Op.bytesLess x y || x == y))
  | .geq => some (.bool !(Op.bytesLess x y))
  | _ => none

/-! ### equality -/
def eqFields (f : TypeId → AV → AV → Option Bool) (P : Program) : List Field → List AV → List AV → Option Bool
  | [], _, _ => some true
  | fd :: r, xs, ys =>
    if fd.name = "_" then eqFields f P r xs ys else
    match partA P fd.type xs fd.offset, partA P fd.type ys fd.offset with
    | some x, some y => match f fd.type x y with
      | some true => eqFields f P r xs ys
      | some false => some false
      | none => none
    | _, _ => none
def eqElems (f : TypeId → AV → AV → Option Bool) (P : Program) (e : TypeId) (n : Nat) (xs ys : List AV) : Nat → Nat → Option Bool
  | _, 0 => some true
  | i, k + 1 => match partA P e xs (i * n), partA P e ys (i * n) with
    | some x, some y => match f e x y with
      | some true => eqElems f P e n xs ys (i + 1) k
      | some false => some false
      | none => none
    | _, _ => none
def eqIn (P : Program) : Nat → TypeId → AV → AV → Option Bool
  | 0, _, _, _ => none
  | d + 1, t, x, y =>
    match P.underlying t with
    | some .bool => match x, y with
      | .bool a, .bool b => some (a == b)
      | _, _ => none
    | some (.int _) => match x, y with
      | .int k a, .int k' b => if k = k' then some (a == b) else none
      | _, _ => none
    | some .string => match x, y with
      | .str a, .str b => some (a == b)
      | _, _ => none
    | some (.pointer e) => match x, y with
      | .nilp, .nilp => some true
      | .nilp, .ptr _ _ => some false
      | .ptr _ _, .nilp => some false
      | _, _ => none
    | some (.slice _) => match x, y with
      | .nils, .nils => some true
      | .lst _ (_ :: _) _, .nils => some false
      | .nils, .lst _ (_ :: _) _ => some false
      | _, _ => none
    | some (.map _ _) => match x, y with
      | .nilm, .nilm => some true
      | .map _, .nilm => some false
      | .nilm, .map _ => some false
      | _, _ => none
    | some (.func _ _ _) => match x, y with
      | .nilfn, .nilfn => some true
      | .fn _ _, .nilfn => some false
      | .nilfn, .fn _ _ => some false
      | .mfn _ _ _, .nilfn => some false
      | .nilfn, .mfn _ _ _ => some false
      | _, _ => none
    | some (.interface _) => match x, y with
      | .nili, .nili => some true
      | .iface _ _, .nili => some false
      | .nili, .iface _ _ => some false
      | .iface t' a, .iface t'' b => cond (Nat.beq t' t'') (match P.info? t' with
        | some i => cond i.comparable (eqIn P d t' a b) none
        | none => none) (some false)
      | _, _ => none
    | some (.struct fields) => match x, y with
      | .agg xs, .agg ys => if P.stoodInHeld t then none else eqFields (eqIn P d) P fields.toList xs ys
      | _, _ => none
    | some (.array len elem) => match x, y with
      | .agg xs, .agg ys => match sizeT P elem with
        | some n => eqElems (eqIn P d) P elem n xs ys 0 len
        | none => none
      | _, _ => none
    | _ => none
def isConst : Operand → Bool
  | .const _ => true
  | _ => false
/-- What the model asks ahead of '==': nothing of two values that are not both nil interfaces, or structs that hold some. -/
def eqGuardA (P : Program) (t : TypeId) (x y : Operand) (a b : AV) : Bool :=
  match a, b with
  | .nili, .nili => isConst x || isConst y
  | .agg _, .agg _ => !(P.eqGuardType P.depth t)
  | _, _ => true
/-- Neither a number nor a string. -/
def plainA : AV → Bool
  | .undef => false
  | .int _ _ => false
  | .str _ => false
  | .tup _ => false
  | .rcd _ _ _ _ _ _ => false
  | _ => true
def binOpA (P : Program) (op : BinOp) (t : TypeId) (x y : Operand) (a b : AV) : Option AV :=
  match a, b with
  | .int k m, .int k' n => match op with
    | .shl => shiftOp .shl k m n
    | .shr => shiftOp .shr k m n
    | _ => if k = k' then intOp op k m n else none
  | .str m, .str n => strOp op m n
  | _, _ => match op with
    | .eql => if plainA a && eqGuardA P t x y a b then (eqIn P 10000 t a b).map .bool else none
    | .neq => if plainA a && eqGuardA P t x y a b then (eqIn P 10000 t a b).map (fun r => .bool !r) else none
    | _ => none
def unOpA (op : UnOp) (x : AV) : Option AV :=
  match op, x with
  | .neg, .int k n => some (.int k (k.wrap (0 - n)))
  | .xor, .int k n => intOp .xor k (if k.signed then -1 else k.max) n
  | .not, .bool b => some (.bool !b)
  | _, _ => none
def convA (P : Program) (src dst : TypeId) (x : AV) : Option AV :=
  match P.underlying src, P.underlying dst, x with
  | some _, some (.int k), .int _ n => some (.int k (k.wrap n))
  | some _, some .string, .str s => some (.str s)
  | _, _, _ => none

/-! ### parts -/
def splice (cs : List AV) (off : Nat) (vs : List AV) : List AV := cs.take off ++ vs ++ cs.drop (off + vs.length)
def fillA (place : Nat → Option (Nat × Nat)) (cs : List AV) : List (Nat × AV) → Option (List AV)
  | [] => some cs
  | (i, v) :: r => match place i with
    | some (off, size) => if v.cells.length = size ∧ 0 < size ∧ off + v.cells.length ≤ cs.length then fillA place (splice cs off v.cells) r else none
    | none => none
def evalParts (env : List (Nat × AV)) : List (Nat × Operand) → Option (List (Nat × AV))
  | [] => some []
  | (i, x) :: r => match evalO env x, evalParts env r with
    | some v, some vs => some ((i, v) :: vs)
    | _, _ => none
def evalL (env : List (Nat × AV)) : List Operand → Option (List AV)
  | [] => some []
  | x :: r => match evalO env x, evalL env r with
    | some v, some vs => some (v :: vs)
    | _, _ => none
def places (P : Program) (fields : Array Field) (i : Nat) : Option (Nat × Nat) :=
  match fields[i]? with
  | some f => (sizeT P f.type).map fun n => (f.offset, n)
  | none => none
def buildA (P : Program) (t : TypeId) (parts : List (Nat × AV)) : Option AV :=
  match zeroT P t, P.underlying t with
  | some z, some (.struct fields) => if fields.all fun f => (sizeT P f.type).isSome then (fillA (places P fields) z parts).map .agg else none
  | some z, some (.array _ elem) => match sizeT P elem with
    | some size => (fillA (fun i => some (i * size, size)) z parts).map .agg
    | none => none
  | _, _ => none
/-- Cells cut into elements. -/
def chop (P : Program) (e : TypeId) (sz : Nat) : Nat → List AV → Option (List AV)
  | 0, _ => some []
  | n + 1, cs => match ofCells P e (cs.take sz), chop P e sz n (cs.drop sz) with
    | some x, some r => some (x :: r)
    | _, _ => none
def rep (n : Nat) (cs : List AV) : List AV := (List.replicate n cs).flatten
def fieldOff (P : Program) (s : TypeId) (f : Nat) : Option Nat :=
  match P.underlying s with
  | some (.struct fields) => match fields[f]? with
    | some fd => match sizeT P fd.type with
      | some 0 => none
      | some _ => some fd.offset
      | none => none
    | none => none
  | _ => none
def inRange (i : Int) (n : Nat) : Bool := decide (0 ≤ i) && decide (i < n)
def indexAddrA (P : Program) (t : TypeId) (x i : AV) : Option AV :=
  match P.underlying t, i with
  | some (.slice elem), .int _ n => match x with
    | .lst e xs _ => if e = elem && inRange n xs.length then (xs[n.toNat]?).map fun v => .ept v.cells 0 else none
    | .sl e id off len => match sizeT P elem with
      | some sz => if e = elem && inRange n len then some (.ptr id (off + n.toNat * sz)) else none
      | none => none
    | .vw e id off len => match sizeT P elem with
      | some sz => if e = elem && inRange n len then some (.ptr id (off + n.toNat * sz)) else none
      | none => none
    | _ => none
  | some (.array len elem), .int _ n => match sizeT P elem with
    | some sz => if inRange n len then (match x with
        | .ptr id off => some (.ptr id (off + n.toNat * sz))
        | .ept cs off => some (.ept cs (off + n.toNat * sz))
        | _ => none) else none
    | none => none
  | _, _ => none
def indexA (P : Program) (t : TypeId) (x i : AV) : Option AV :=
  match P.underlying t, x, i with
  | some (.array len elem), .agg cs, .int _ n => match sizeT P elem with
    | some sz => if inRange n len then partA P elem cs (n.toNat * sz) else none
    | none => none
  | some .string, .str s, .int _ n => if 0 ≤ n then (s[n.toNat]?).map fun b => .int .u8 b.toNat else none
  | _, _, _ => none
/-- A bound of a cut. -/
def boundA (x : Option AV) (dflt top : Nat) : Option Nat :=
  match x with
  | none => some dflt
  | some (.int _ i) => if 0 ≤ i ∧ i ≤ top then some i.toNat else none
  | some _ => none
def sliceA (P : Program) (t : TypeId) (x : AV) (lo hi mx : Option AV) : Option AV :=
  match P.underlying t with
  | some .string => match x, mx with
    | .str s, none => match boundA hi s.length s.length with
      | some h => match boundA lo 0 h with
        | some l => some (.str ((s.take h).drop l))
        | none => none
      | none => none
    | _, _ => none
  | some (.slice elem) => if mx.isSome && !hi.isSome then none else
    match x with
    | .nils => match boundA mx 0 0 with
      | some m => match boundA hi 0 m with
        | some h => match boundA lo 0 h, sizeT P elem with
          | some _, some _ => some .nils
          | _, _ => none
        | none => none
      | none => none
    | .lst e xs sp => match boundA mx (xs.length + sp.length) (xs.length + sp.length) with
      | some m => match boundA hi xs.length m with
        | some h => match boundA lo 0 h with
          | some l => if e = elem then some (.lst e (((xs ++ sp).take h).drop l) (((xs ++ sp).take m).drop h)) else none
          | none => none
        | none => none
      | none => none
    | .sl e id off len => match boundA mx len len with
      | some m => match boundA hi len m with
        | some h => match boundA lo 0 h, sizeT P e with
          | some l, some sz => if e = elem then (if l = 0 ∨ 0 < h - l then some (.sl e id (off + l * sz) (h - l)) else none) else none
          | _, _ => none
        | none => none
      | none => none
    | _ => none
  | some (.array n elem) => match x, lo, hi, mx with
    | .ptr id off, none, none, none => match sizeT P elem with
      | some sz => some (.vw elem id off n)
      | none => none
    | _, _, _, _ => none
  | _ => none
def optA (env : List (Nat × AV)) : Option Operand → Option (Option AV)
  | none => some none
  | some x => (evalO env x).map some

/-- The greatest, or the least. -/
def mostA (mx : Bool) : AV → List AV → Option AV
  | x, [] => some x
  | .int k a, .int _ b :: r => mostA mx (.int k (cond mx (if b > a then b else a) (if b < a then b else a))) r
  | .str a, .str b :: r => mostA mx (.str (cond mx (cond (Op.bytesLess a b) b a) (cond (Op.bytesLess a b || a == b) a b))) r
  | _, _ => none
/-! ### operations that neither read nor write cells -/
def pureOp (P : Program) (env : List (Nat × AV)) (op : Op) : Option AV :=
  match op with
  | .move x => evalO env x
  | .assign x => evalO env x
  | .pick c a b => match evalO env c with
    | some (.bool t) => cond t (evalO env a) (evalO env b)
    | _ => none
  | .build t parts => match evalParts env parts.toList with
    | some ps => buildA P t ps
    | none => none
  | .nilCheck x => match evalO env x with
    | some (.ptr i o) => some (.ptr i o)
    | some (.ept c o) => some (.ept c o)
    | some (.iface t v) => some (.iface t v)
    | some (.fn f c) => some (.fn f c)
    | some (.mfn f b c) => some (.mfn f b c)
    | _ => none
  | .binOp op t x y _ => match evalO env x, evalO env y with
    | some a, some b => binOpA P op t x y a b
    | _, _ => none
  | .unOp op _ x => match evalO env x with
    | some a => unOpA op a
    | none => none
  | .convert src dst x => match evalO env x with
    | some a => convA P src dst a
    | none => none
  | .makeInterface t x => match evalO env x, P.underlying t with
    | some a, some (.interface _) => none
    | some a, some _ => some (.iface t a)
    | _, _ => none
  | .makeFunc (.func f) first captured => if first.size = 0 then (evalL env captured.toList).map (.fn f) else match evalL env first.toList, evalL env captured.toList with
    | some bs, some cs => some (.mfn f bs cs)
    | _, _ => none
  | .slice t x lo hi mx => match evalO env x, optA env lo, optA env hi, optA env mx with
    | some a, some l, some h, some m => sliceA P t a l h m
    | _, _, _, _ => none
  | .fieldAddr s x f => match evalO env x, fieldOff P s f with
    | some (.ptr id off), some o => some (.ptr id (off + o))
    | some (.ept cs off), some o => some (.ept cs (off + o))
    | _, _ => none
  | .field t x f => match evalO env x, P.underlying t with
    | some (.agg cs), some (.struct fields) => match fields[f]? with
      | some fd => partA P fd.type cs fd.offset
      | none => none
    | _, _ => none
  | .indexAddr t x i => match evalO env x, evalO env i with
    | some a, some b => indexAddrA P t a b
    | _, _ => none
  | .index t x i => match evalO env x, evalO env i with
    | some a, some b => indexA P t a b
    | _, _ => none
  | .extract t i => match evalO env t with
    | some (.tup vs) => vs[i]?
    | _ => none
  | .call { callee := .builtin .len, args, argTypes } => match args.toList, argTypes.toList with
    | [x], [t] => match P.underlying t, evalO env x with
      | some .string, some (.str s) => some (.int .i64 s.length)
      | some (.slice _), some (.lst _ xs _) => some (.int .i64 xs.length)
      | some (.slice _), some (.sl _ _ _ n) => some (.int .i64 n)
      | some (.slice _), some (.vw _ _ _ n) => some (.int .i64 n)
      | some (.slice _), some .nils => some (.int .i64 0)
      | some (.array n _), some _ => some (.int .i64 n)
      | some (.map _ _), some .nilm => some (.int .i64 0)
      | _, _ => none
    | _, _ => none
  | .call { callee := .builtin .max, args, .. } => match evalL env args.toList with
    | some (x :: r) => mostA true x r
    | _ => none
  | .call { callee := .builtin .min, args, .. } => match evalL env args.toList with
    | some (x :: r) => mostA false x r
    | _ => none
  | .typeAssert x _ t ok => match evalO env x, P.underlying t with
    | some (.iface _ _), some (.interface _) => none
    | some (.iface t' v), some _ => cond (Nat.beq t' t) (cond ok (some (.tup [v, .bool true])) (some v)) none
    | _, _ => none
  | _ => none

/-! ### operations on cells -/
def readCells (H : List (Option Blk)) (id off n : Nat) : Option (List AV) :=
  match H[id]? with
  | some (some b) => if Nat.beq b.e LOOP = false ∧ off + n ≤ b.cs.length then some ((b.cs.drop off).take n) else none
  | _ => none
def loadA (P : Program) (H : List (Option Blk)) (t : TypeId) (p : AV) : Option AV :=
  match sizeT P t with
  | some n => match p with
    | .ptr id off => match readCells H id off n with
      | some cs => ofCells P t cs
      | none => none
    | .ept cs off => if off + n ≤ cs.length then ofCells P t ((cs.drop off).take n) else none
    | _ => none
  | none => none
def storeA (P : Program) (H : List (Option Blk)) (t : TypeId) (p x : AV) : Option (List (Option Blk)) :=
  match p, sizeT P t with
  | .ptr id off, some n => match H[id]? with
    | some (some b) => if Nat.beq b.e LOOP = false ∧ x.cells.length = n ∧ 0 < n ∧ off + n ≤ b.cs.length then some (H.set id (some ⟨b.e, splice b.cs off x.cells⟩)) else none
    | _ => none
  | _, _ => none

end Go.Proofs.YtomheegfobcijaaGreatDoor.Am

/- The abstract machine, second part: regions, statements, calls. Definitions alone. -/
namespace Go.Proofs.YtomheegfobcijaaGreatDoor.Am
set_option linter.unusedVariables false

def flat (xs : List AV) : List AV := xs.flatMap AV.cells

def Loc.beq : Loc → Loc → Bool
  | .slot a, .slot b => Nat.beq a b
  | .cell a b, .cell c d => Nat.beq a c && Nat.beq b d
  | _, _ => false
def Loc.lt : Loc → Loc → Bool
  | .slot a, .slot b => Nat.blt a b
  | .slot _, .cell _ _ => true
  | .cell _ _, .slot _ => false
  | .cell a b, .cell c d => Nat.blt a c || (Nat.beq a c && Nat.blt b d)
/-- In order, each once. -/
def insL (x : Loc) : List Loc → List Loc
  | [] => [x]
  | y :: r => cond (Loc.lt x y) (x :: y :: r) (cond (Loc.beq x y) (y :: r) (y :: insL x r))
def canon (l : List Loc) : List Loc := l.foldr insL []
def owns (own : List Loc) (l : Loc) : Bool := own.any (Loc.beq l)
def drop (own : List Loc) (l : Loc) : List Loc := own.filter fun m => !(Loc.beq l m)
def give (own : List Loc) (l : Loc) : List Loc := l :: drop own l
def Loc.isCell : Loc → Bool
  | .cell _ _ => true
  | .slot _ => false
/-- No cell of a piece of a block is one's own any more. -/
def dropCells (own : List Loc) (id off n : Nat) : List Loc :=
  own.filter fun
    | .cell i o => !(Nat.beq i id && Nat.ble off o && Nat.blt o (off + n))
    | .slot _ => true

/-- What the outside of a function tells its body: how calls end. -/
abbrev Out := AV × List (Option Blk) × List Loc
/-- 'lo': blocks below are not written. -/
structure CallA where
  run : FuncId → List AV → List (Option Blk) → List Loc → Option Out
  lo : Nat
instance : CoeFun CallA (fun _ => FuncId → List AV → List (Option Blk) → List Loc → Option Out) := ⟨CallA.run⟩
def storeL (lo : Nat) (P : Program) (H : List (Option Blk)) (t : TypeId) (p x : AV) : Option (List (Option Blk)) :=
  match p with
  | .ptr id off => cond (Nat.ble lo id) (storeA P H t (.ptr id off) x) none
  | _ => none

/-- The end of a list that is nil is anybody's. -/
def isNils : AV → Bool
  | .nils => true
  | _ => false
def dropO (own : List Loc) (x : Operand) : List Loc :=
  match x with
  | .tmp t => drop own (.slot t)
  | _ => own
/-- What an operation comes to: its value, the heap, whose ends are whose; does the end of the value go with it? -/
structure Res where
  val : AV
  H : List (Option Blk)
  own : List Loc
  gives : Bool

theorem storeL_some {lo : Nat} {P : Program} {H H' : List (Option Blk)} {t : TypeId} {id off : Nat} {v : AV} (h : storeL lo P H t (.ptr id off) v = some H') : Nat.ble lo id = true ∧ storeA P H t (.ptr id off) v = some H' := by
  unfold storeL at h
  simp only at h
  cases hb : Nat.ble lo id with
  | true => rw [hb] at h; exact ⟨rfl, h⟩
  | false => rw [hb] at h; cases h
def isTmp (t : Nat) : Operand → Bool
  | .tmp s => Nat.beq s t
  | _ => false
/-- Is a slot what some 'append' of the region appends to? -/
def appSrc (ops : List Oper) (t : Nat) : Bool :=
  ops.any fun o => match o.op with
    | .call { callee := .builtin .append, args, .. } => match args.toList with
      | [s, _] => isTmp t s
      | _ => false
    | _ => false
def appDst (ops : List Oper) : Option Nat → Bool
  | some d => appSrc ops d
  | none => false

/-- The elements that are appended. -/
def tailA (P : Program) (e : TypeId) (ts t : TypeId) (y : AV) : Option (List AV) :=
  match P.underlying t, y with
  | some (.slice e'), .lst e'' ys _ => if ts = t ∧ e'' = e then some ys else none
  | some (.slice e'), .nils => if ts = t then some [] else none
  | some .string, .str s => match P.underlying e, sizeT P e with
    | some (.int .u8), some 1 => some (s.map fun b => .int .u8 b.toNat)
    | _, _ => none
  | _, _ => none
def appendA (P : Program) (env : List (Nat × AV)) (H : List (Option Blk)) (own : List Loc) (s x : Operand) (ts tx : TypeId) : Option Res :=
  match P.underlying ts, evalO env s, evalO env x with
  | some (.slice e), some a, some b => match tailA P e ts tx b, P.info? e, zeroT P e with
    | some ys, some i, some z => match a with
      | .nils => if ys.length * i.bytes ≤ 140737488355328 ∧ ys.length ≤ 140737488355328 ∧ 0 < i.size ∧ z.length = i.size then some ⟨.lst e ys [], H, dropO own s, true⟩ else none
      | .lst e' xs [] => match s with
        | .tmp t => if owns own (.slot t) = true ∧ e' = e ∧ (xs.length + ys.length) * i.bytes ≤ 140737488355328 ∧ xs.length + ys.length ≤ 140737488355328 ∧ 0 < i.size ∧ z.length = i.size then
            some ⟨.lst e (xs ++ ys) [], H, drop own (.slot t), true⟩ else none
        | _ => none
      | _ => none
    | _, _, _ => none
  | _, _, _ => none

def byteA : AV → Option UInt8
  | .int .u8 n => some (UInt8.ofNat n.toNat)
  | _ => none
def natA (x : AV) : Option Nat :=
  match x with
  | .int _ n => if 0 ≤ n then some n.toNat else none
  | _ => none

/-- The method of a value behind an interface: its function, and the receiver that it takes. -/
def methodA (P : Program) (H : List (Option Blk)) (t : TypeId) (v : AV) (name : String) : Option (FuncId × AV) :=
  match P.info? t with
  | some i => match i.methods.find? (·.name == name) with
    | some m => if m.path.size = 0 then (match m.func, P.underlying t with
      | some (f, true), some (.pointer _) => some (f, v)
      | some (f, false), some (.pointer e) => match v with
        | .ptr _ _ => (loadA P H e v).map fun x => (f, x)
        | _ => none
      | some (f, false), some (.slice _) => some (f, v)
      | some (f, false), some (.struct _) => some (f, v)
      | some (f, false), some (.int _) => some (f, v)
      | _, _ => none) else none
    | none => none
  | none => none

def hasBody (P : Program) (f : FuncId) : Bool :=
  match P.funcs[f]? with
  | some fn => fn.body.isSome
  | none => false
def callA (call : CallA) (P : Program) (H : List (Option Blk)) (own : List Loc) (f : FuncId) (args : List AV) : Option Res :=
  cond (hasBody P f) (match call f args H (canon (own.filter Loc.isCell)) with
    | some (x, H', own') => some ⟨x, H', own.filter (fun l => !l.isCell) ++ own'.filter Loc.isCell, false⟩
    | none => none) none
def plainRes (H : List (Option Blk)) (own : List Loc) (x : Option AV) : Option Res := x.map fun v => ⟨v, H, own, false⟩

def core (call : CallA) (P : Program) (ops : List Oper) (o : Oper) (env : List (Nat × AV)) (H : List (Option Blk)) (own : List Loc) : Option Res :=
  match o.op with
  | .move (.tmp v) => some (cond (owns own (.slot v) && appDst ops o.dst) ⟨look env v, H, drop own (.slot v), true⟩ ⟨look env v, H, own, false⟩)
  | .load t a => match evalO env a with
    | some p => match loadA P H t p with
      | some x => match p with
        | .ptr id off => some (cond (owns own (.cell id off) && appDst ops o.dst && (sizeT P t == some 1) && (isAggT P t == some false)) ⟨x, H, drop own (.cell id off), true⟩ ⟨x, H, own, false⟩)
        | _ => some ⟨x, H, own, false⟩
      | none => none
    | none => none
  | .alloc e => match zeroT P e with
    | some z => if Nat.beq e LOOP = false then some ⟨.ptr H.length 0, H ++ [some ⟨e, z⟩], own, false⟩ else none
    | none => none
  | .box e x => match evalO env x with
    | some v => if Nat.beq e LOOP = false ∧ 0 < v.cells.length then some ⟨.ptr H.length 0, H ++ [some ⟨e, v.cells⟩], own, false⟩ else none
    | none => none
  | .store t a x => match evalO env a, evalO env x with
    | some (.ptr id off), some v => match storeL call.lo P H t (.ptr id off) v with
      | some H' => some ⟨.tup [], H',
          (match x with
           | .tmp s => cond (owns own (.slot s) && v.isOne) (give (drop (dropCells own id off v.cells.length) (.slot s)) (.cell id off)) (dropCells own id off v.cells.length)
           | _ => dropCells own id off v.cells.length), false⟩
      | _ => none
    | _, _ => none
  | .assign x => match evalO env x with
    | some v => match x with
      | .tmp s => some (cond (owns own (.slot s)) ⟨v, H, drop own (.slot s), true⟩ ⟨v, H, own, false⟩)
      | _ => some ⟨v, H, own, isNils v⟩
    | none => none
  | .buildSlice t len parts => match P.underlying t, evalParts env parts.toList with
    | some (.slice e), some ps => match sizeT P e, zeroT P e with
      | some sz, some z => if len * sz ≤ 16777216 ∧ 0 < sz ∧ z.length = sz then
          (match fillA (fun i => some (i * sz, sz)) (rep len z) ps with
           | some cs => match chop P e sz len cs with
             | some xs => some ⟨.lst e xs [], H, own, true⟩
             | none => none
           | none => none) else none
      | _, _ => none
    | _, _ => none
  | .makeSlice t len cap => match P.underlying t, evalO env len, evalO env cap with
    | some (.slice e), some n, some c => match natA n, natA c, P.info? e, zeroT P e with
      | some n, some c, some i, some z => if n ≤ c ∧ c * i.bytes ≤ 140737488355328 ∧ c ≤ 140737488355328 ∧ 0 < i.size ∧ z.length = i.size then
          (match ofCells P e z with
           | some x => some ⟨.lst e (List.replicate n x) [], H, own, true⟩
           | none => none) else none
      | _, _, _, _ => none
    | _, _, _ => none
  | .convert src dst x => match P.underlying src, P.underlying dst, evalO env x with
    | some .string, some (.slice e), some (.str s) => match P.underlying e, sizeT P e with
      | some (.int .u8), some 1 => some ⟨.lst e (s.map fun b => .int .u8 b.toNat) [], H, own, Nat.ble s.length 140737488355328⟩
      | _, _ => none
    | some (.slice e), some .string, some (.lst e' xs _) => match P.underlying e with
      | some (.int .u8) => if e = e' then plainRes H own ((xs.mapM byteA).map .str) else none
      | _ => none
    | some (.slice e), some .string, some .nils => match P.underlying e with
      | some (.int .u8) => some ⟨.str [], H, own, false⟩
      | _ => none
    | _, _, some a => plainRes H own (convA P src dst a)
    | _, _, none => none
  | .call { callee := .value f, args, .. } => match evalO env f, evalL env args.toList with
    | some (.fn g cap), some vs => callA call P H own g (vs ++ cap)
    | some (.mfn g bs cap), some vs => callA call P H own g (bs ++ vs ++ cap)
    | _, _ => none
  | .call { callee := .invoke r name, args, .. } => match evalO env r, evalL env args.toList with
    | some (.iface t v), some vs => match methodA P H t v name with
      | some (f, x) => callA call P H own f (x :: vs)
      | none => none
    | _, _ => none
  | .call { callee := .builtin .append, args, argTypes } => match args.toList, argTypes.toList with
    | [s, x], [ts, tx] => appendA P env H own s x ts tx
    | _, _ => none
  | op => plainRes H own (pureOp P env op)

def Res.put (r : Res) (nt : Nat) (env : List (Nat × AV)) (dst : Option Nat) : Option St :=
  match dst with
  | none => some ⟨env, r.H, r.own⟩
  | some d => if d < nt then some ⟨(d, r.val) :: env, r.H, cond r.gives (give r.own (.slot d)) (drop r.own (.slot d))⟩ else none
/-- A map: its entries, in the order in which they came. -/
def mapBlk (l : List (AV × AV)) : Blk := ⟨LOOP, .nilm :: l.map fun p => .tup [p.1, p.2]⟩
def allocOp (o : Oper) : Bool :=
  match o.op with
  | .alloc _ => true
  | .box _ _ => true
  | .makeMap _ none => true
  | _ => false
/-- The how-manyth of the region's operations that make blocks puts its value into this slot? -/
def rank : List Oper → Nat → Option Nat
  | [], _ => none
  | o :: r, d => cond (allocOp o) (cond (o.dst == some d) (some 0) ((rank r d).map (· + 1))) (rank r d)
def allocs (ops : List Oper) : Nat := (ops.filter allocOp).length
/-- A block is made at a place that was kept for it. -/
def newAt (P : Program) (o : Oper) (env : List (Nat × AV)) (H : List (Option Blk)) (own : List Loc) (id : Nat) : Option Res :=
  match H[id]? with
  | some none => match o.op with
    | .alloc e => match zeroT P e with
      | some z => if Nat.beq e LOOP = false then some ⟨.ptr id 0, H.set id (some ⟨e, z⟩), own, false⟩ else none
      | none => none
    | .box e x => match evalO env x with
      | some v => if Nat.beq e LOOP = false ∧ 0 < v.cells.length then some ⟨.ptr id 0, H.set id (some ⟨e, v.cells⟩), own, false⟩ else none
      | none => none
    | .makeMap _ none => some ⟨.map id, H.set id (some (mapBlk [])), own, false⟩
    | _ => none
  | _ => none
/-- Which operations stand ahead of each, by the edges: their numbers' bits. -/
def ahead (acc : List Nat) (l : List Edge) (m : Nat) : Nat :=
  match l with
  | [] => m
  | e :: r => ahead acc r (cond (Region.binds .any e) (m ||| (1 <<< e.on) ||| acc.getD e.on 0) m)
def befores : List Oper → List Nat → List Nat
  | [], acc => acc
  | o :: r, acc => befores r (acc ++ [ahead acc o.after.toList 0])
def isStore (o : Oper) : Bool :=
  match o.op with
  | .store _ _ _ => true
  | _ => false
def isLoad (o : Oper) : Bool :=
  match o.op with
  | .load _ _ => true
  | .lookup _ _ _ _ => true
  | _ => false
/-- Are there loads and stores that no edge orders in all orders? -/
def late (ops : List Oper) : Bool := (ops.any fun o => o.after.toList.any fun e => !(Region.binds .any e)) &&
  ((ops.zipIdx.any fun (y, j) => ops.zipIdx.any fun (x, i) => Nat.blt i j && !(((befores ops []).getD j 0).testBit i) && ((isStore x && isLoad y) || (isLoad x && isStore y))))
/-- Blocks that stores write: the slot of the address, the block. -/
abbrev WS := List (Nat × Nat)
def stSlot (o : Oper) : Option Nat :=
  match o.op with
  | .store _ (.tmp s) _ => some s
  | _ => none
/-- Does a load partake in that? -/
def lateD (ops : List Oper) (dst : Option Nat) : Bool :=
  match dst with
  | some d => ops.zipIdx.any fun (y, j) => ops.zipIdx.any fun (x, i) => Nat.blt i j && !(((befores ops []).getD j 0).testBit i) && ((x.dst == some d && (isLoad x && isStore y)) || (y.dst == some d && (isStore x && isLoad y)))
  | none => true
/-- With a store to what a slot leads to? -/
def lateP (ops : List Oper) (dst : Option Nat) (s : Nat) : Bool :=
  match dst with
  | some d => ops.zipIdx.any fun (y, j) => ops.zipIdx.any fun (x, i) => Nat.blt i j && !(((befores ops []).getD j 0).testBit i) && ((x.dst == some d && (isLoad x && (isStore y && stSlot y == some s))) || (y.dst == some d && (isStore x && (stSlot x == some s && isLoad y))))
  | none => true
def loadOk (ops : List Oper) (base : Nat) (ws : WS) (dst : Option Nat) (id : Nat) : Bool :=
  !(lateD ops dst) || (Nat.blt id base && !(ws.any fun p => lateP ops dst p.1 && Nat.beq id p.2))
/-- There, blocks of the region's own, and those that are known ahead, are written; others are read. -/
def lateOk (ops : List Oper) (base : Nat) (ws : WS) (o : Oper) (env : List (Nat × AV)) : Bool :=
  match o.op with
  | .load _ a => match evalO env a with
    | some (.ptr id _) => loadOk ops base ws o.dst id
    | _ => true
  | .lookup _ x _ _ => match evalO env x with
    | some (.map id) => loadOk ops base ws o.dst id
    | _ => true
  | .store _ a _ => match evalO env a with
    | some (.ptr id _) => Nat.ble base id || ws.any fun p => stSlot o == some p.1 && Nat.beq id p.2
    | _ => true
  | _ => true
def lateNo (base : Nat) (lt : Option WS) (ops : List Oper) (o : Oper) (env : List (Nat × AV)) : Bool :=
  match lt with
  | some ws => !(lateOk ops base ws o env)
  | none => false
/-- The blocks that are written there, as far as it is known ahead. -/
def storeIds (env : List (Nat × AV)) (all : List Oper) : List Oper → WS
  | [] => []
  | o :: r => match o.op with
    | .store _ (.tmp s) _ => cond (all.any fun p => p.dst == some s) (storeIds env all r) (match look env s with
      | .ptr id _ => (s, id) :: storeIds env all r
      | _ => storeIds env all r)
    | _ => storeIds env all r
def opSlots (o : Oper) : List Nat := o.op.operands.toList.filterMap fun
  | .tmp t => some t
  | _ => none
/-- Slots that hang on what is loaded in the region. -/
def taint : List Oper → List Nat → List Nat
  | [], acc => acc
  | o :: r, acc => taint r (match o.dst with
    | some d => cond (isLoad o || (opSlots o).any fun s => acc.any (Nat.beq s)) (d :: acc) acc
    | none => acc)
/-- Is it an address that is told in the region? -/
def farA (ops : List Oper) (s : Nat) : Bool := ops.any fun p => p.dst == some s && match p.op with
  | .fieldAddr _ _ _ => true
  | .indexAddr _ _ _ => true
  | .nilCheck _ => true
  | .move _ => true
  | _ => false
def tainted (ops : List Oper) : Bool := ops.any fun o => match o.op with
  | .store _ (.tmp s) _ => (taint ops []).any (Nat.beq s) || farA ops s
  | _ => false
/-- Lists of these types (or those that are put into these slots) are written into: they lie in blocks of the machine's own. -/
def mutT (t : TypeId) (dst : Option Nat) : Bool := [176, 293].any (Nat.beq t) || match dst with
  | some d => ([(268, 8), (268, 33)] : List (Nat × Nat)).any fun p => Nat.beq p.1 t && Nat.beq p.2 d
  | none => false
def slTy (o : Oper) : Option TypeId :=
  match o.op with
  | .makeSlice t _ _ => some t
  | .call { callee := .builtin .append, argTypes, .. } => match argTypes.toList with
    | t :: _ => some t
    | [] => none
  | _ => none
/-- Does an operation make a list that is written into? -/
def slOp (o : Oper) : Bool :=
  match slTy o with
  | some t => mutT t o.dst
  | none => false
def slElem (P : Program) (o : Oper) : Option TypeId :=
  match slTy o with
  | some t => cond (mutT t o.dst) (match P.underlying t with
    | some (.slice e) => some e
    | _ => none) none
  | none => none
/-- Such lists, made. What is appended to is dead behind it. -/
def newSl (P : Program) (e : TypeId) (op : Op) (env : List (Nat × AV)) (H : List (Option Blk)) (own : List Loc) : Option Res :=
  match op with
  | .makeSlice t len cap => match P.underlying t, evalO env len, evalO env cap with
    | some (.slice e'), some n, some c => match natA n, natA c, P.info? e, zeroT P e with
      | some n, some c, some i, some z => if Nat.beq e LOOP = false ∧ e' = e ∧ n ≤ c ∧ c * i.bytes ≤ 140737488355328 ∧ c ≤ 140737488355328 ∧ 0 < i.size ∧ z.length = i.size then
          some ⟨.sl e H.length 0 n, H ++ [some ⟨e, rep c z⟩], own, false⟩ else none
      | _, _, _, _ => none
    | _, _, _ => none
  | .call { callee := .builtin .append, args, argTypes } => match args.toList, argTypes.toList with
    | [s, x], [ts, tx] => match P.underlying ts, evalO env s, evalO env x with
      | some (.slice e'), some a, some b => match tailA P e ts tx b, P.info? e, zeroT P e with
        | some ys, some i, some z => match a with
          | .nils => if Nat.beq e LOOP = false ∧ e' = e ∧ 0 < ys.length ∧ ys.length * i.bytes ≤ 140737488355328 ∧ ys.length ≤ 140737488355328 ∧ 0 < i.size ∧ z.length = i.size then
              some ⟨.sl e H.length 0 ys.length, H ++ [some ⟨e, flat ys⟩], own, false⟩ else none
          | .sl e'' id off len => match H[id]? with
            | some (some k) => if Nat.beq e LOOP = false ∧ e' = e ∧ e'' = e ∧ k.e = e ∧ off = 0 ∧ 0 < k.cs.length ∧ len * i.size ≤ k.cs.length ∧ (len + ys.length) * i.bytes ≤ 140737488355328 ∧ len + ys.length ≤ 140737488355328 ∧ 0 < i.size ∧ z.length = i.size then
                some ⟨.sl e H.length 0 (len + ys.length), H.set id (some ⟨e, []⟩) ++ [some ⟨e, k.cs.take (len * i.size) ++ flat ys⟩], own, false⟩ else none
            | _ => none
          | _ => none
        | _, _, _ => none
      | _, _, _ => none
    | _, _ => none
  | _ => none
/-- Is the block of the list that is appended to one that may be written? -/
def okSl (lo : Nat) (op : Op) (env : List (Nat × AV)) : Bool :=
  match op with
  | .call { callee := .builtin .append, args, .. } => match args.toList with
    | s :: _ => match evalO env s with
      | some (.sl _ id _ _) => Nat.ble lo id
      | _ => true
    | [] => true
  | _ => true
/-- A map over which a loop runs: nobody writes it. -/
def mapFz (l : List (AV × AV)) : Blk := ⟨LOOP, .bool true :: l.map fun p => .tup [p.1, p.2]⟩
/-- A block of which nothing is known (a loop's iterator). -/
def anyBlk : Blk := ⟨LOOP, [.bool false]⟩
def isFz (k : Blk) : Bool :=
  match k.cs with
  | .bool _ :: _ => Nat.beq k.e LOOP
  | _ => false
def unTup : AV → Option (AV × AV)
  | .tup [x, y] => some (x, y)
  | _ => none
def unTups : List AV → Option (List (AV × AV))
  | [] => some []
  | x :: r => match unTup x, unTups r with
    | some p, some l => some (p :: l)
    | _, _ => none
def getMap (H : List (Option Blk)) (id : Nat) : Option (List (AV × AV)) :=
  match H[id]? with
  | some (some ⟨e, .nilm :: l⟩) => cond (Nat.beq e LOOP) (unTups l) none
  | _ => none
/-- The same of maps that are not written, too. -/
def getMapR (H : List (Option Blk)) (id : Nat) : Option (List (AV × AV)) :=
  match H[id]? with
  | some (some ⟨e, .nilm :: l⟩) => cond (Nat.beq e LOOP) (unTups l) none
  | some (some ⟨e, .bool true :: l⟩) => cond (Nat.beq e LOOP) (unTups l) none
  | _ => none
def keyD : TypeDesc → Bool
  | .int _ => true
  | .string => true
  | _ => false
def keyEq (d : TypeDesc) (x y : AV) : Option Bool :=
  match d, x, y with
  | .int _, .int k a, .int k' b => if k = k' then some (a == b) else none
  | .string, .str a, .str b => some (a == b)
  | _, _, _ => none
/-- Where a key stands in a map, and its value. -/
def findA (d : TypeDesc) (x : AV) : List (AV × AV) → Nat → Option (Option (Nat × AV))
  | [], _ => some none
  | p :: l, i => match keyEq d x p.1 with
    | some true => some (some (i, p.2))
    | some false => findA d x l (i + 1)
    | none => none
def zeroV (P : Program) (t : TypeId) : Option AV :=
  match P.info? t with
  | some i => match i.zero with
    | some z => constAV z
    | none => none
  | none => none
def entriesA (H : List (Option Blk)) : AV → Option (List (AV × AV))
  | .nilm => some []
  | .map id => getMapR H id
  | _ => none
/-- What is looked up. -/
def lookupA (P : Program) (H : List (Option Blk)) (t : TypeId) (x i : AV) (ok : Bool) : Option AV :=
  match P.underlying t with
  | some (.map kt et) => match P.underlying kt with
    | some d => cond (keyD d) (match entriesA H x with
      | some l => match findA d i l 0 with
        | some (some (_, v)) => some (cond ok (.tup [v, .bool true]) v)
        | some none => (zeroV P et).map fun v => cond ok (.tup [v, .bool false]) v
        | none => none
      | none => none) none
    | none => none
  | _ => none
/-- A map's entries with one that is written; without one. -/
def updA (P : Program) (H : List (Option Blk)) (t : TypeId) (x i v : AV) : Option (Nat × List (AV × AV)) :=
  match P.underlying t, x with
  | some (.map kt _), .map id => match P.underlying kt, getMap H id with
    | some d, some l => cond (keyD d) (match findA d i l 0 with
      | some (some (j, _)) => some (id, l.set j (i, v))
      | some none => some (id, l ++ [(i, v)])
      | none => none) none
    | _, _ => none
  | _, _ => none
def delA (P : Program) (H : List (Option Blk)) (t : TypeId) (x i : AV) : Option (Nat × List (AV × AV)) :=
  match P.underlying t, x with
  | some (.map kt _), .map id => match P.underlying kt, getMap H id with
    | some d, some l => cond (keyD d) (match findA d i l 0 with
      | some (some (j, _)) => some (id, l.eraseIdx j)
      | some none => some (id, l)
      | none => none) none
    | _, _ => none
  | _, _ => none
theorem unTups_some : ∀ {l : List AV} {m : List (AV × AV)}, unTups l = some m → l = m.map fun p => .tup [p.1, p.2]
  | [], m, h => by unfold unTups at h; injection h with h; subst h; rfl
  | x :: r, m, h => by
    unfold unTups at h
    split at h
    · rename_i p l hp hl
      injection h with h; subst h
      unfold unTup at hp
      split at hp
      · injection hp with hp; subst hp
        rw [unTups_some hl]; rfl
      · cases hp
    · cases h
theorem getMap_some {H : List (Option Blk)} {id : Nat} {m : List (AV × AV)} (h : getMap H id = some m) : H[id]? = some (some (mapBlk m)) := by
  unfold getMap at h
  split at h
  · rename_i e l hk
    cases he : Nat.beq e LOOP with
    | false => rw [he] at h; cases h
    | true =>
      rw [he] at h
      have := Nat.eq_of_beq_eq_true he
      subst this
      rw [hk, unTups_some h]; rfl
  · cases h
theorem getMapR_some {H : List (Option Blk)} {id : Nat} {m : List (AV × AV)} (h : getMapR H id = some m) : H[id]? = some (some (mapBlk m)) ∨ H[id]? = some (some (mapFz m)) := by
  unfold getMapR at h
  split at h
  · rename_i e l hk
    cases he : Nat.beq e LOOP with
    | false => rw [he] at h; cases h
    | true =>
      rw [he] at h
      have := Nat.eq_of_beq_eq_true he
      subst this
      rw [hk, unTups_some h]; exact .inl rfl
  · rename_i e l hk
    cases he : Nat.beq e LOOP with
    | false => rw [he] at h; cases h
    | true =>
      rw [he] at h
      have := Nat.eq_of_beq_eq_true he
      subst this
      rw [hk, unTups_some h]; exact .inr rfl
  · cases h
theorem fz_cells {k : Blk} (h : Nat.beq k.e LOOP = false) : isFz k = false := by
  unfold isFz
  split
  · exact h
  · rfl
/-- Operations on maps; 'lo': blocks below are not written. -/
def coreM (lo : Nat) (P : Program) (o : Oper) (env : List (Nat × AV)) (H : List (Option Blk)) (own : List Loc) : Option Res :=
  match o.op with
  | .makeMap _ none => some ⟨.map H.length, H ++ [some (mapBlk [])], own, false⟩
  | .lookup t x i ok => match evalO env x, evalO env i with
    | some a, some b => plainRes H own (lookupA P H t a b ok)
    | _, _ => none
  | .mapUpdate t m k v => match evalO env m, evalO env k, evalO env v with
    | some a, some b, some c => match updA P H t a b c with
      | some (id, l) => cond (Nat.ble lo id) (some ⟨.tup [], H.set id (some (mapBlk l)), own, false⟩) none
      | none => none
    | _, _, _ => none
  | .call { callee := .builtin .delete, args, argTypes } => match args.toList, argTypes.toList with
    | [m, k], [t, _] => match evalO env m, evalO env k with
      | some a, some b => match delA P H t a b with
        | some (id, l) => cond (Nat.ble lo id) (some ⟨.tup [], H.set id (some (mapBlk l)), own, false⟩) none
        | none => none
      | _, _ => none
    | _, _ => none
  | .call { callee := .builtin .len, args, argTypes } => match args.toList, argTypes.toList with
    | [x], [t] => match P.underlying t with
      | some (.map _ _) => match evalO env x with
        | some a => plainRes H own ((entriesA H a).map fun l => .int .i64 l.length)
        | none => none
      | _ => none
    | _, _ => none
  | _ => none
/-- The types of maps whose lengths are asked. -/
def mapT (t : TypeId) : Bool := ([219] : List Nat).any (Nat.beq t)
def isMapW (o : Oper) : Bool :=
  match o.op with
  | .makeMap _ none => true
  | .mapUpdate _ _ _ _ => true
  | .call { callee := .builtin .delete, .. } => true
  | _ => false
/-- A map that is there is written. -/
def isMapU (o : Oper) : Bool :=
  match o.op with
  | .mapUpdate _ _ _ _ => true
  | .call { callee := .builtin .delete, .. } => true
  | _ => false
def isMapR (o : Oper) : Bool :=
  match o.op with
  | .lookup _ _ _ _ => true
  | .call { callee := .builtin .len, argTypes, .. } => match argTypes.toList with
    | [t] => mapT t
    | _ => false
  | _ => false
def isMapO (o : Oper) : Bool := isMapW o || isMapR o
def coreS (call : CallA) (P : Program) (ops : List Oper) (o : Oper) (env : List (Nat × AV)) (H : List (Option Blk)) (own : List Loc) : Option Res :=
  match slElem P o with
  | some e => cond (okSl call.lo o.op env) (newSl P e o.op env H own) none
  | none => cond (isMapO o) (coreM call.lo P o env H own) (core call P ops o env H own)
/-- The same, where blocks are made at kept places: in regions that draw their order. -/
def coreP (call : CallA) (P : Program) (pre : Option (Nat × Option WS)) (ops : List Oper) (o : Oper) (env : List (Nat × AV)) (H : List (Option Blk)) (own : List Loc) : Option Res :=
  match pre with
  | none => coreS call P ops o env H own
  | some (base, lt) => cond (allocOp o) (match o.dst with
    | some d => match rank ops d with
      | some k => newAt P o env H own (base + k)
      | none => none
    | none => none) (cond (lateNo base lt ops o env) none (coreS call P ops o env H own))
def stepOp (call : CallA) (P : Program) (nt : Nat) (pre : Option (Nat × Option WS)) (ops : List Oper) (o : Oper) (st : St) : Option St :=
  match coreP call P pre ops o st.env st.H st.own with
  | some r => r.put nt st.env o.dst
  | none => none

/-- Is an operation asked for? none: it can't be told. -/
def wantedA (ops : List Oper) (env : List (Nat × AV)) (o : Oper) : Option Bool :=
  match o.guard with
  | none => some true
  | some (j, want) => match ops[j]? with
    | some { dst := some d, .. } => match look env d with
      | .bool b => some (b == want)
      | .tup [] => some false
      | _ => none
    | _ => none
/-- Slots, as they would be if nothing were called, stored or made. none: something can't be loaded. -/
def preEnv (P : Program) (H : List (Option Blk)) (all : List Oper) : List Oper → List (Nat × AV) → Option (List (Nat × AV))
  | [], env => some env
  | o :: r, env => match wantedA all env o, o.dst with
    | some true, some d => match o.op with
      | .load t a => match evalO env a with
        | some (.ptr id off) => match loadA P H t (.ptr id off) with
          | some x => preEnv P H all r ((d, x) :: env)
          | none => none
        | some (.ept cs off) => match loadA P [] t (.ept cs off) with
          | some x => preEnv P H all r ((d, x) :: env)
          | none => none
        | _ => preEnv P H all r ((d, .undef) :: env)
      | .call _ => preEnv P H all r ((d, .undef) :: env)
      | .lookup _ _ _ _ => preEnv P H all r ((d, .undef) :: env)
      | op => match pureOp P env op with
        | some x => preEnv P H all r ((d, x) :: env)
        | none => preEnv P H all r ((d, .undef) :: env)
    | _, _ => preEnv P H all r env
def storeAll (env : List (Nat × AV)) : List Oper → WS
  | [] => []
  | o :: r => match o.op with
    | .store _ (.tmp s) _ => match look env s with
      | .ptr id _ => (s, id) :: storeAll env r
      | _ => storeAll env r
    | _ => storeAll env r
def lateW (P : Program) (H : List (Option Blk)) (ops : List Oper) (env : List (Nat × AV)) : Option (Option WS) :=
  cond (late ops) (cond (tainted ops) ((preEnv P H ops ops env).map fun e => some (storeAll e ops)) (some (some (storeIds env ops ops)))) (some none)
theorem lateW_some {P : Program} {H : List (Option Blk)} {ops : List Oper} {env : List (Nat × AV)} {lt : Option WS} (h : lateW P H ops env = some lt) : lt.isSome = late ops := by
  unfold lateW at h
  cases hl : late ops with
  | false => rw [hl] at h; injection h with h; subst h; rfl
  | true =>
    rw [hl] at h
    simp only [cond_true] at h
    cases ht : tainted ops with
    | false => rw [ht] at h; injection h with h; subst h; rfl
    | true =>
      rw [ht] at h
      simp only [cond_true] at h
      cases hp : preEnv P H ops ops env with
      | none => rw [hp] at h; cases h
      | some e => rw [hp] at h; injection h with h; subst h; rfl
def stepW (call : CallA) (P : Program) (nt : Nat) (pre : Option (Nat × Option WS)) (ops : List Oper) (o : Oper) (st : St) : Option St :=
  match wantedA ops st.env o with
  | some true => stepOp call P nt pre ops o st
  | some false => Res.put ⟨.tup [], st.H, st.own, false⟩ nt st.env o.dst
  | none => none
/-- Does a region that draws its order have a call beside loads, or ahead of the making of blocks, in any order? -/
def isCallV (o : Oper) : Bool :=
  match o.op with
  | .call { callee := .value _, .. } => true
  | .call { callee := .invoke _ _, .. } => true
  | _ => false
def mixed (ops : List Oper) : Bool := ops.any isCallV &&
  (ops.zipIdx.any fun (y, j) => ops.zipIdx.any fun (x, i) => Nat.blt i j && !(((befores ops []).getD j 0).testBit i) && ((isCallV x && (isLoad y || allocOp y)) || (isLoad x && isCallV y)))
/-- The slot from ahead of the region whose pointer leads to the same block. -/
def baseOf (ops : List Oper) : Nat → Nat → Option Nat
  | 0, _ => none
  | n + 1, s => match ops.find? fun p => p.dst == some s with
    | none => some s
    | some p => match p.op with
      | .fieldAddr _ (.tmp q) _ => baseOf ops n q
      | .nilCheck (.tmp q) => baseOf ops n q
      | .move (.tmp q) => baseOf ops n q
      | _ => none
/-- A load whose address comes from such a slot, and that takes no end. -/
def plainLd (ops : List Oper) (y : Oper) : Option Nat :=
  match y.op with
  | .load _ (.tmp s) => cond (appDst ops y.dst) none (baseOf ops 4 s)
  | _ => none
def ldHard (ops : List Oper) (y : Oper) : Bool := isLoad y && (plainLd ops y).isNone
/-- Is an operation a call beside which a block is made, or something else is loaded, in any order? -/
def mixD (ops : List Oper) (dst : Option Nat) : Bool :=
  match dst with
  | some d => ops.zipIdx.any fun (y, j) => ops.zipIdx.any fun (x, i) => Nat.blt i j && !(((befores ops []).getD j 0).testBit i) && ((x.dst == some d && (isCallV x && (ldHard ops y || allocOp y))) || (y.dst == some d && (ldHard ops x && isCallV y)))
  | none => true
def mixAt (ops : List Oper) (o : Oper) : Bool := mixD ops o.dst
def sameD (a : Option Nat) (b : Option Nat) : Bool :=
  match b with
  | some d => a == some d
  | none => true
/-- The slots of the addresses from which it is loaded beside a call, in any order. -/
def wSl (ops : List Oper) (o : Oper) : List Nat := ops.zipIdx.flatMap fun (y, j) => ops.zipIdx.flatMap fun (x, i) => cond (Nat.blt i j && !(((befores ops []).getD j 0).testBit i))
  ((cond (sameD x.dst o.dst && isCallV x) (plainLd ops y).toList []) ++ (cond (sameD y.dst o.dst && isCallV y) (plainLd ops x).toList [])) []
def wSlots (ops : List Oper) (o : Oper) : List Nat := cond (isCallV o && mixed ops) (wSl ops o) []
def bSlots (ops : List Oper) (o : Oper) : List Nat := cond (mixed ops) (plainLd ops o).toList []
def sameId (x y : AV) : Bool :=
  match x with
  | .ptr a _ => match y with
    | .ptr b _ => Nat.beq a b
    | _ => false
  | _ => true
/-- The address of a load leads to the block that it is said to lead to. -/
def bOk (ops : List Oper) (o : Oper) (env : List (Nat × AV)) : Bool :=
  (bSlots ops o).all fun q => match o.op with
    | .load _ (.tmp s) => sameId (look env s) (look env q)
    | _ => true
def eqL (f : AV → AV → Bool) : List AV → List AV → Bool
  | [], [] => true
  | x :: xs, y :: ys => f x y && eqL f xs ys
  | _, _ => false
def eqA : Nat → AV → AV → Bool
  | 0, _, _ => false
  | n + 1, x, y => match x, y with
    | .undef, .undef => true
    | .bool a, .bool b => a == b
    | .int k a, .int k' b => decide (k = k') && a == b
    | .str a, .str b => a == b
    | .agg a, .agg b => eqL (eqA n) a b
    | .tup a, .tup b => eqL (eqA n) a b
    | .nils, .nils => true
    | .lst e a b, .lst e' a' b' => Nat.beq e e' && eqL (eqA n) a a' && eqL (eqA n) b b'
    | .sl e i o l, .sl e' i' o' l' => Nat.beq e e' && Nat.beq i i' && Nat.beq o o' && Nat.beq l l'
    | .vw e i o l, .vw e' i' o' l' => Nat.beq e e' && Nat.beq i i' && Nat.beq o o' && Nat.beq l l'
    | .nilp, .nilp => true
    | .ptr i o, .ptr i' o' => Nat.beq i i' && Nat.beq o o'
    | .ept a o, .ept a' o' => eqL (eqA n) a a' && Nat.beq o o'
    | .nilfn, .nilfn => true
    | .fn f a, .fn f' a' => Nat.beq f f' && eqL (eqA n) a a'
    | .mfn f a b, .mfn f' a' b' => Nat.beq f f' && eqL (eqA n) a a' && eqL (eqA n) b b'
    | .nili, .nili => true
    | .iface t v, .iface t' v' => Nat.beq t t' && eqA n v v'
    | .nilm, .nilm => true
    | .map i, .map i' => Nat.beq i i'
    | .yld i, .yld i' => Nat.beq i i'
    | _, _ => false
def sameB (x y : Option (Option Blk)) : Bool :=
  match x, y with
  | some (some a), some (some b) => Nat.beq a.e b.e && eqL (eqA 100) a.cs b.cs
  | _, _ => false
/-- A call has left what is loaded beside it. -/
def watchOk (ops : List Oper) (o : Oper) (env : List (Nat × AV)) (H H' : List (Option Blk)) : Bool :=
  bOk ops o env && (wSlots ops o).all fun s => match look env s with
    | .ptr id _ => sameB H[id]? H'[id]?
    | _ => true
def stepV (call : CallA) (P : Program) (nt : Nat) (pre : Option (Nat × Option WS)) (ops : List Oper) (o : Oper) (st : St) : Option St :=
  match stepW call P nt pre ops o st with
  | some st' => cond (watchOk ops o st.env st.H st'.H) (some st') none
  | none => none
def runOps (c : Oper → CallA) (P : Program) (nt : Nat) (pre : Option (Nat × Option WS)) (ops : List Oper) : List Oper → St → Option St
  | [], st => some st
  | o :: r, st => match stepV (c o) P nt pre ops o st with
    | some st' => runOps c P nt pre ops r st'
    | none => none

/-- Does an operation ask whose an end is, or turn that? -/
def ends (ops : List Oper) (o : Oper) : Bool :=
  match o.op with
  | .move (.tmp _) => appDst ops o.dst
  | .load _ _ => appDst ops o.dst
  | .store _ _ _ => true
  | .assign _ => true
  | .call { callee := .value _, .. } => true
  | .call { callee := .invoke _ _, .. } => true
  | .call { callee := .builtin .append, .. } => true
  | _ => false
def keep (vars : List Nat) (st : St) : St :=
  { st with env := vars.map (fun s => (s, look st.env s)), own := st.own.filter fun
      | .slot s => vars.any (Nat.beq s)
      | .cell _ _ => true }
/-- What is deferred is kept. -/
def keepD (vars : List Nat) (st : St) : St :=
  match look st.env DEF with
  | .undef => keep vars st
  | x => { keep vars st with env := (DEF, x) :: (keep vars st).env }

inductive Ex where
  | normal
  | exit (id : Nat)
  | ret
  | goto (l : Nat)

/-- What is known of a program's functions by heart: which slots outlive a region, which calls go by a law of their own, whose lists that were written into are written no more when they are answered. -/
structure Know where
  vars : FuncId → Nat → List Nat
  short : FuncId → Option (Nat → List AV → List (Option Blk) → List Loc → Option Out)
  fz : FuncId → Bool
  bad : FuncId → Bool
  lo : Nat

/-! ### loops over functions -/
/-- A loop's record: how it stands (0 ready, 1 busy, 2 done, 3 exhausted), and the jump that is pending (0 none, 1 a return, 2 an exit). -/
def recA (st kind x : Nat) (y : AV) : Option Blk := some ⟨LOOP, [.int .u8 (st : Int), .int .u8 (kind : Int), .int .u64 (x : Int), y]⟩
def getRec (H : List (Option Blk)) (id : Nat) : Option (Nat × Nat × Nat × AV) :=
  match H[id]? with
  | some (some ⟨e, [.int _ st, .int _ k, .int _ x, y]⟩) => cond (Nat.beq e LOOP) (some (st.toNat, k.toNat, x.toNat, y)) none
  | _ => none
def isDefer (o : Oper) : Bool :=
  match o.op with
  | .defer _ => true
  | _ => false
/-- No loop over a function is in it, and nothing is deferred. -/
def noRange : Code → Bool
  | .region _ ops _ => ops.toList.all fun o => !(isDefer o)
  | .seq a b => noRange a && noRange b
  | .cond _ a b => noRange a && noRange b
  | .block _ c => noRange c
  | .loop c => noRange c
  | .rangeFunc _ _ _ _ => false
  | .scope c => noRange c
  | _ => true
def putAll : List Nat → List AV → List (Nat × AV) → List (Nat × AV)
  | p :: ps, x :: xs, env => putAll ps xs ((p, x) :: env)
  | _, _, env => env
/-- A round of a loop over a function: its body runs; whether the function is to go on. -/
def yieldA (lo : Nat) (self : (Nat → List Nat) → Nat → Code → St → Option (Ex × St)) (id : Nat) (args : List AV) (H : List (Option Blk)) (own : List Loc) : Option Out :=
  match cond (Nat.ble lo id) (getRec H id) none with
  | some (0, 0, _, .rcd vars nt env ps assign body) =>
    if args.length = ps.length ∧ (ps.all fun p => Nat.blt p nt) = true then
      match self vars nt assign ⟨putAll ps args env, H, own.filter Loc.isCell⟩ with
      | some (.normal, s1) => match getRec s1.H id with
        | some (0, 0, _, y1) => match self vars nt body ⟨s1.env, s1.H.set id (recA 1 0 0 y1), s1.own⟩ with
          | some (e, s2) => match getRec s2.H id with
            | some (_, _, _, y2) => match e with
              | .normal => some (.bool true, s2.H.set id (recA 0 0 0 y2), s2.own.filter Loc.isCell)
              | .ret => some (.bool false, s2.H.set id (recA 2 1 0 y2), s2.own.filter Loc.isCell)
              | .exit i => some (.bool false, s2.H.set id (recA 2 2 i y2), s2.own.filter Loc.isCell)
              | .goto _ => none
            | none => none
          | none => none
        | _ => none
      | _ => none
    else none
  | _ => none
/-- Does an operation call such a round? -/
def yieldOp (env : List (Nat × AV)) (o : Oper) : Option (Nat × List AV) :=
  match o.op with
  | .call { callee := .value f, args, .. } => match evalO env f with
    | some (.yld id) => (evalL env args.toList).map fun vs => (id, vs)
    | _ => none
  | _ => none
/-- A call is deferred. -/
def pushD (x c : AV) : Option AV :=
  match x with
  | .undef => some (.rcd (fun _ => []) 0 [(0, c)] [] .skip .skip)
  | .rcd v n l p a b => some (.rcd v n ((0, c) :: l) p a b)
  | _ => none
def deferZ (o : Oper) (st : St) : Option (Option St) :=
  match o.op with
  | .defer { callee := .value f, args, .. } => some (match o.dst, args.toList, evalO st.env f with
    | none, [], some (.fn g cap) => (pushD (look st.env DEF) (.fn g cap)).map fun y => ⟨(DEF, y) :: st.env, st.H, st.own⟩
    | _, _, _ => none)
  | .defer _ => some none
  | _ => none
/-- Bytes that lie in memory, as a string: in the order of the text alone. -/
def bytesA (P : Program) (H : List (Option Blk)) (src dst : TypeId) (e : TypeId) (id off len : Nat) : Option (List UInt8) :=
  match P.underlying src, P.underlying dst, P.underlying e with
  | some (.slice e'), some .string, some (.int .u8) => if e = e' ∧ sizeT P e = some 1 then (match readCells H id off len with
    | some cs => cs.mapM byteA
    | none => none) else none
  | _, _, _ => none
def convZ (P : Program) (o : Oper) (st : St) : Option Res :=
  match o.op with
  | .convert src dst x => match evalO st.env x with
    | some (.sl e id off len) => (bytesA P st.H src dst e id off len).map fun s => ⟨.str s, st.H, st.own, false⟩
    | _ => none
  | _ => none
def stepZ (call : CallA) (yl : Nat → List AV → List (Option Blk) → List Loc → Option Out) (P : Program) (nt : Nat) (ops : List Oper) (o : Oper) (st : St) : Option St :=
  match wantedA ops st.env o with
  | some true => match yieldOp st.env o with
    | some (id, vs) => match yl id vs st.H (canon (st.own.filter Loc.isCell)) with
      | some (x, H', own') => Res.put ⟨x, H', st.own.filter (fun l => !l.isCell) ++ own'.filter Loc.isCell, false⟩ nt st.env o.dst
      | none => none
    | none => match deferZ o st with
      | some r => r
      | none => match convZ P o st with
        | some r => r.put nt st.env o.dst
        | none => stepOp call P nt none ops o st
  | some false => Res.put ⟨.tup [], st.H, st.own, false⟩ nt st.env o.dst
  | none => none
def runOpsZ (call : CallA) (yl : Nat → List AV → List (Option Blk) → List Loc → Option Out) (P : Program) (nt : Nat) (ops : List Oper) : List Oper → St → Option St
  | [], st => some st
  | o :: r, st => match stepZ call yl P nt ops o st with
    | some st' => runOpsZ call yl P nt ops r st'
    | none => none
/-- A loop over a function. -/
def rangeA (call : CallA) (P : Program) (vars : Nat → List Nat) (nt : Nat) (g : Operand) (ps : Array Tmp) (assign body : Code) (st : St) : Option (Ex × St) :=
  match evalO st.env g with
  | some (.fn f cap) => match callA call P (st.H ++ [recA 0 0 0 (.rcd vars nt st.env ps.toList assign body)]) st.own f (.yld st.H.length :: cap) with
    | some r => match getRec r.H st.H.length with
      | some (s, k, x, y) => cond (Nat.beq s 1) none (match k with
        | 0 => some (.normal, ⟨st.env, r.H.set st.H.length (recA 3 k x y), r.own⟩)
        | 1 => some (.ret, ⟨st.env, r.H.set st.H.length (recA 3 k x y), r.own⟩)
        | _ => some (.exit x, ⟨st.env, r.H.set st.H.length (recA 3 k x y), r.own⟩))
      | none => none
    | none => none
  | _ => none

/-- Blocks are written above a bound that is there. -/
def chk (call : CallA) : CallA := ⟨fun f args H own => cond (Nat.ble call.lo H.length) (call f args H own) none, call.lo⟩
def selC (call callD : CallA) (ops : List Oper) (o : Oper) : CallA := cond (mixed ops) (cond (mixAt ops o) callD (chk call)) call
theorem selC_plain {call callD : CallA} {ops : List Oper} (h : mixed ops = false) : selC call callD ops = fun _ => call := by funext o; unfold selC; rw [h]; rfl
/-- A scope: its code runs, and from a label again, when there is a jump to one that stands in it. -/
def scopeL (self : Code → St → Option (Ex × St)) (c : Code) : Nat → Code → St → Option (Ex × St)
  | 0, _, _ => none
  | k + 1, d, st => match self d st with
    | some (.goto l, st') => match findLabel c l with
      | some rest => scopeL self c k rest st'
      | none => some (.goto l, st')
    | r => r
/-! ### loops over maps -/
/-- A region's last operation begins a loop. -/
def lastRange : List Oper → Option (List Oper × Oper)
  | [] => none
  | [o] => match o.op with
    | .range _ _ => some ([], o)
    | _ => none
  | o :: r => match lastRange r with
    | some (l, q) => some (o :: l, q)
    | none => none
structure MBody where
  out : Nat
  id1 : Nat
  o1 : Array Oper
  c : Operand
  nb : Nat
  id2 : Nat
  o2 : Array Oper
  code : Code
def MBody.back (b : MBody) : Code := .seq (.region b.id1 b.o1 false) (.seq (.cond b.c .skip (.exit b.out)) (.block b.nb (.seq (.region b.id2 b.o2 false) b.code)))
def mbodyOf : Code → Option MBody
  | .block out (.loop (.seq (.region id1 o1 false) (.seq (.cond c .skip (.exit out')) (.block nb (.seq (.region id2 o2 false) code))))) => cond (Nat.beq out' out) (some ⟨out, id1, o1, c, nb, id2, o2, code⟩) none
  | _ => none
structure MLoop where
  id0 : Nat
  o0 : Array Oper
  pre : List Oper
  last : Oper
  it : Nat
  t : TypeId
  x : Operand
  body : MBody
  rest : Option Code
def mtailOf : Code → Option (MBody × Option Code)
  | .block i c => (mbodyOf (.block i c)).map fun b => (b, none)
  | .seq b r => (mbodyOf b).map fun b => (b, some r)
  | _ => none
/-- Is it a loop over a map? -/
def mloopOf : Code → Code → Option MLoop
  | .region id0 o0 false, c => match lastRange o0.toList with
    | some (pre, o) => match o.op, o.dst, o.guard, mtailOf c with
      | .range t x, some d, none, some (b, r) => some ⟨id0, o0, pre, o, d, t, x, b, r⟩
      | _, _, _, _ => none
    | none => none
  | _, _ => none
/-- A region that begins with a step of the iterator, or with the entry that it stands at. -/
def headZ (call : CallA) (yl : Nat → List AV → List (Option Blk) → List Loc → Option Out) (P : Program) (nt : Nat) (isN : Bool) (it id : Nat) (ops : List Oper) (x : AV) (st : St) : Option St :=
  match look st.env it, ops with
  | .ptr i 0, o :: r => cond (Nat.beq i id) (match o.op, o.dst, o.guard with
    | .next (.tmp s) false, some d, none => cond (isN && Nat.beq s it) (match Res.put ⟨x, st.H, st.own, false⟩ nt st.env (some d) with
      | some s1 => runOpsZ call yl P nt ops r s1
      | none => none) none
    | .entry (.tmp s), some d, none => cond (!isN && Nat.beq s it) (match Res.put ⟨x, st.H, st.own, false⟩ nt st.env (some d) with
      | some s1 => runOpsZ call yl P nt ops r s1
      | none => none) none
    | _, _, _ => none) none
  | _, _ => none
def roundM (call : CallA) (yl : Nat → List AV → List (Option Blk) → List Loc → Option Out) (P : Program) (vars : Nat → List Nat) (nt : Nat) (self : Code → St → Option (Ex × St)) (b : MBody) (it id : Nat) (p : AV × AV) (st : St) : Option St :=
  match headZ call yl P nt true it id b.o1.toList (.tup [.bool true, p.1, p.2]) st with
  | some s1 => match evalO (keepD (vars b.id1) s1).env b.c with
    | some (.bool true) => match headZ call yl P nt false it id b.o2.toList (.tup [p.1, p.2]) (keepD (vars b.id1) s1) with
      | some s2 => match self b.code (keepD (vars b.id2) s2) with
        | some (.normal, s3) => some s3
        | some (.exit i, s3) => cond (Nat.beq i b.nb) (some s3) none
        | _ => none
      | none => none
    | _ => none
  | none => none
/-- All rounds: of at most one entry. -/
def roundsM (round : AV × AV → St → Option St) : List (AV × AV) → St → Option St
  | [], st => some st
  | [p], st => round p st
  | _, _ => none
def fzM (mo : Option (Nat × List (AV × AV))) (H : List (Option Blk)) : List (Option Blk) :=
  match mo with
  | some (m, l) => H.set m (some (mapFz l))
  | none => H
def enterM (vars : List Nat) (nt it : Nat) (mo : Option (Nat × List (AV × AV))) (st : St) : Option St :=
  (Res.put ⟨.ptr st.H.length 0, fzM mo st.H ++ [some anyBlk], st.own, false⟩ nt st.env (some it)).map (keepD vars)
def leaveM (mo : Option (Nat × List (AV × AV))) (st : St) : St :=
  match mo with
  | some (m, l) => { st with H := st.H.set m (some (mapBlk l)) }
  | none => st
def entriesM (lo : Nat) (H : List (Option Blk)) : AV → Option (Option (Nat × List (AV × AV)) × List (AV × AV))
  | .nilm => some (none, [])
  | .map m => match getMap H m with
    | some l => cond (Nat.ble lo m) (some (some (m, l), l)) none
    | none => none
  | _ => none
def isMapT (P : Program) (t : TypeId) : Bool :=
  match P.underlying t with
  | some (.map _ _) => true
  | _ => false
/-- A loop over a map, as a whole. -/
def mloopA (call : CallA) (yl : Nat → List AV → List (Option Blk) → List Loc → Option Out) (P : Program) (vars : Nat → List Nat) (nt : Nat) (self : Code → St → Option (Ex × St)) (L : MLoop) (st : St) : Option St :=
  match cond (isMapT P L.t) (runOpsZ call yl P nt L.o0.toList L.pre st) none with
  | some s0 => match (evalO s0.env L.x).bind (entriesM call.lo s0.H) with
    | some (mo, l) => match enterM (vars L.id0) nt L.it mo s0 with
      | some s1 => match roundsM (roundM call yl P vars nt self L.body L.it s0.H.length) l s1 with
        | some s2 => match headZ call yl P nt true L.it s0.H.length L.body.o1.toList (.tup [.bool false]) s2 with
          | some s3 => match evalO (keepD (vars L.body.id1) s3).env L.body.c with
            | some (.bool false) => some (leaveM mo (keepD (vars L.body.id1) s3))
            | _ => none
          | none => none
        | none => none
      | none => none
    | none => none
  | none => none
def execWith (call callD : CallA) (yl : Nat → List AV → List (Option Blk) → List Loc → Option Out) (P : Program) (vars : Nat → List Nat) (nt : Nat) (self : Code → St → Option (Ex × St)) : Code → St → Option (Ex × St)
  | .skip, st => some (.normal, st)
  | .region id ops draw, st => match cond draw (match lateW P st.H ops.toList st.env with
      | some lt => runOps (selC call callD ops.toList) P nt (some (st.H.length, lt)) ops.toList ops.toList { st with H := st.H ++ List.replicate (allocs ops.toList) none }
      | none => none) (runOpsZ call yl P nt ops.toList ops.toList st) with
    | some st' => some (.normal, keepD (vars id) st')
    | none => none
  | .seq a b, st => match mloopOf a b with
    | some L => match mloopA call yl P vars nt self L st with
      | some st' => match L.rest with
        | some r => self r st'
        | none => some (.normal, st')
      | none => none
    | none => match self a st with
      | some (.normal, st') => self b st'
      | r => r
  | .cond c a b, st => match evalO st.env c with
    | some (.bool t) => cond t (self a st) (self b st)
    | _ => none
  | .block id c, st => match self c st with
    | some (.exit i, st') => cond (Nat.beq i id) (some (.normal, st')) (some (.exit i, st'))
    | r => r
  | .loop c, st => match self c st with
    | some (.normal, st') => self (.loop c) st'
    | r => r
  | .rangeFunc g ps assign body, st => cond (noRange assign && noRange body && Nat.ble call.lo st.H.length) (rangeA call P vars nt g ps assign body st) none
  | .exit id, st => some (.exit id, st)
  | .label _, st => some (.normal, st)
  | .goto l, st => some (.goto l, st)
  | .scope c, st => scopeL self c 100000 c st
  | .ret, st => some (.ret, st)
  | _, _ => none

def resultA (P : Program) (st : St) : ResultVar → Option AV
  | .tmp t => some (look st.env t)
  | .cell a t => match look st.env a with
    | .ptr id off => loadA P st.H t (.ptr id off)
    | _ => none
def resultsA (P : Program) (st : St) (rs : List ResultVar) : Option AV :=
  match rs with
  | [r] => resultA P st r
  | rs => (rs.mapM (resultA P st)).map .tup
def zipArgs : Nat → List AV → List (Nat × AV)
  | _, [] => []
  | k, x :: r => (k, x) :: zipArgs (k + 1) r

/-- A deferred call that asks whether there was a panic, and does nothing when there was none. -/
def quietC (P : Program) (nt : Nat) : Code → Bool
  | .seq (.region _ o0 false) (.seq (.region _ o1 false) (.cond (.tmp b) _ .skip)) => match o0.toList, o1.toList with
    | [{ dst := some r, op := .call { callee := .builtin .recover, args, .. }, guard := none, .. }, { dst := some x, op := .assign (.tmp r'), guard := none, .. }],
      [{ dst := some m, op := .move (.tmp x'), guard := none, .. }, { dst := some b', op := .binOp .neq t (.tmp m') (.const .nilIface) t', guard := none, .. }] =>
      args.toList.isEmpty && Nat.beq r r' && Nat.beq x x' && Nat.beq m m' && Nat.beq b b' && Nat.blt r nt && Nat.blt x nt && Nat.blt m nt && Nat.blt b nt && (match binOpA P .neq t (.tmp m') (.const .nilIface) .nili .nili with
        | some (.bool q) => !q
        | _ => false)
    | _, _ => false
  | _ => false
def quietF (P : Program) (g : FuncId) : Bool :=
  match P.funcs[g]? with
  | some fn => match fn.body with
    | some c => fn.results.toList.isEmpty && quietC P fn.ntmps c
    | none => false
  | none => false
/-- Another deferred call runs. -/
def bodyD (ex : (Nat → List Nat) → Nat → Code → St → Option (Ex × St)) (P : Program) (K : Know) (f : FuncId) (args : List AV) (H : List (Option Blk)) (own : List Loc) : Option (List (Option Blk) × List Loc) :=
  match P.funcs[f]? with
  | some fn => match fn.body with
    | some c => if args.length ≤ fn.ntmps ∧ noRange c = true then
        (match ex (K.vars f) fn.ntmps c ⟨zipArgs 0 args, H, own.filter Loc.isCell⟩ with
         | some (.ret, st) => (resultsA P st fn.results.toList).map fun _ => (st.H, st.own.filter Loc.isCell)
         | some (.normal, st) => (resultsA P st fn.results.toList).map fun _ => (st.H, st.own.filter Loc.isCell)
         | _ => none) else none
    | none => none
  | none => none
def leaveA (ex : (Nat → List Nat) → Nat → Code → St → Option (Ex × St)) (P : Program) (K : Know) : List (Nat × AV) → List (Option Blk) → List Loc → Option (List (Option Blk) × List Loc)
  | [], H, own => some (H, own)
  | (_, .fn g cap) :: r, H, own => cond (quietF P g) (leaveA ex P K r H own) (match bodyD ex P K g cap H own with
    | some (H', own') => leaveA ex P K r H' own'
    | none => none)
  | _, _, _ => none
/-- A frame ends: what was deferred runs, then the results are read. -/
def endA (ex : (Nat → List Nat) → Nat → Code → St → Option (Ex × St)) (P : Program) (K : Know) (rs : List ResultVar) (st : St) : Option Out :=
  match look st.env DEF with
  | .undef => (resultsA P st rs).map fun x => (x, st.H, st.own.filter Loc.isCell)
  | .rcd _ _ l _ _ _ => match leaveA ex P K l st.H (st.own.filter Loc.isCell) with
    | some (H', own') => (resultsA P ⟨st.env, H', own'⟩ rs).map fun x => (x, H', own')
    | none => none
  | _ => none
def bodyA (ex : (Nat → List Nat) → Nat → Code → St → Option (Ex × St)) (P : Program) (K : Know) (f : FuncId) (args : List AV) (H : List (Option Blk)) (own : List Loc) : Option Out :=
  match P.funcs[f]? with
  | some fn => match fn.body with
    | some c => if args.length ≤ fn.ntmps then
        (match ex (K.vars f) fn.ntmps c ⟨zipArgs 0 args, H, own.filter Loc.isCell⟩ with
         | some (.ret, st) => endA ex P K fn.results.toList st
         | some (.normal, st) => endA ex P K fn.results.toList st
         | _ => none) else none
    | none => none
  | none => none

/-- A list that was written into, and is written no more. -/
def fzOne (P : Program) (H : List (Option Blk)) (x : AV) : AV × List (Option Blk) :=
  match x with
  | .sl e id off len => match H[id]?, sizeT P e with
    | some (some k), some sz => cond (!(Nat.beq k.e LOOP) && Nat.ble (off + len * sz) k.cs.length && Nat.blt 0 sz && Nat.blt 0 k.cs.length) (match chop P e sz len ((k.cs.drop off).take (len * sz)) with
      | some xs => (.lst e xs [], H.set id (some ⟨k.e, []⟩))
      | none => (x, H)) (x, H)
    | _, _ => (x, H)
  | _ => (x, H)
def fzAll (P : Program) : List AV → List (Option Blk) → List AV × List (Option Blk)
  | [], H => ([], H)
  | x :: r, H => ((fzOne P H x).1 :: (fzAll P r (fzOne P H x).2).1, (fzAll P r (fzOne P H x).2).2)
def fzV (P : Program) (x : AV) (H : List (Option Blk)) : AV × List (Option Blk) :=
  match x with
  | .tup xs => (.tup (fzAll P xs H).1, (fzAll P xs H).2)
  | x => fzOne P H x
def fzSafe1 (lo : Nat) (H : List (Option Blk)) (x : AV) : Bool :=
  match x with
  | .sl _ id _ _ => match H[id]? with
    | some (some _) => Nat.ble lo id
    | _ => false
  | _ => true
def fzSafe (lo : Nat) (H : List (Option Blk)) (x : AV) : Bool :=
  match x with
  | .tup xs => xs.all (fzSafe1 lo H)
  | x => fzSafe1 lo H x
def fzOut (lo : Nat) (P : Program) (b : Bool) (o : Option Out) : Option Out :=
  cond b (match o with
    | some (x, H, own) => cond (fzSafe lo H x) (some ((fzV P x H).1, (fzV P x H).2, own)) none
    | none => none) o
def Know.up (K : Know) (n : Nat) : Know := { K with lo := max K.lo n }
/-- A call that is handed no ends; the caller's stay. -/
def newC (n : Nat) : Loc → Bool
  | .cell i _ => Nat.ble n i
  | .slot _ => false
def noOwn (n : Nat) (own : List Loc) (o : Option Out) : Option Out :=
  match o with
  | some (x, H, own') => some (x, H, own ++ own'.filter (newC n))
  | none => none
mutual
def execK (P : Program) : Nat → Know → (Nat → List Nat) → Nat → Code → St → Option (Ex × St)
  | 0, _, _, _, _, _ => none
  | n + 1, K, vars, nt, c, st => execWith ⟨callK P n K, K.lo⟩ ⟨fun f args H own => cond (Nat.ble K.lo H.length) (noOwn H.length own (callK P n (K.up H.length) f args H [])) none, K.lo⟩ (yieldA K.lo (execK P n K)) P vars nt (execK P n K vars nt) c st
def callK (P : Program) : Nat → Know → FuncId → List AV → List (Option Blk) → List Loc → Option Out
  | 0, _, _, _, _, _ => none
  | n + 1, K, f, args, H, own => match K.short f with
    | some g => g K.lo args H own
    | none => cond (K.bad f) none (fzOut K.lo P (K.fz f) (bodyA (execK P n K) P K f args H own))
end
abbrev exec (P : Program) (K : Know) (n : Nat) := execK P n K
abbrev cN (P : Program) (K : Know) (n : Nat) : CallA := ⟨callK P n K, K.lo⟩
/-- Calls that write no block that was there, and have no ends of the caller's. -/
abbrev dN (P : Program) (K : Know) (n : Nat) : CallA := ⟨fun f args H own => cond (Nat.ble K.lo H.length) (noOwn H.length own (callK P n (K.up H.length) f args H [])) none, K.lo⟩
theorem exec_succ (P : Program) (K : Know) (n : Nat) (vars : Nat → List Nat) (nt : Nat) (c : Code) (st : St) : execK P (n + 1) K vars nt c st = execWith (cN P K n) (dN P K n) (yieldA K.lo (execK P n K)) P vars nt (execK P n K vars nt) c st := rfl
theorem call_succ (P : Program) (K : Know) (n : Nat) (f : FuncId) (args : List AV) (H : List (Option Blk)) (own : List Loc) : callK P (n + 1) K f args H own = match K.short f with
    | some g => g K.lo args H own
    | none => cond (K.bad f) none (fzOut K.lo P (K.fz f) (bodyA (execK P n K) P K f args H own)) := rfl

/-! ### what is asked of a region that draws its order, by its text -/
def guardSlot (ops : List Oper) (o : Oper) : List Nat :=
  match o.guard with
  | some (j, _) => match ops[j]? with
    | some p => p.dst.toList
    | none => []
  | none => []
def reads (ops : List Oper) (o : Oper) : List Nat := (guardSlot ops o ++ (wSlots ops o ++ bSlots ops o)) ++ opSlots o
def heapOp (o : Oper) : Bool :=
  match o.op with
  | .store _ _ _ => true
  | .call { callee := .value _, .. } => true
  | .call { callee := .invoke _ _, .. } => true
  | _ => slOp o || isMapU o
/-- It writes into blocks that are there, or may. -/
def heapC (o : Oper) : Bool :=
  match o.op with
  | .store _ _ _ => true
  | .call { callee := .value _, .. } => true
  | .call { callee := .invoke _ _, .. } => true
  | _ => false
def memOp (o : Oper) : Bool :=
  heapOp o || isMapR o || match o.op with
    | .load _ _ => true
    | _ => allocOp o
def isMv (o : Oper) : Bool :=
  match o.op with
  | .move (.tmp _) => true
  | _ => false
/-- A slot is moved, beside a call: the call asks for the cells' ends alone. -/
def isLd (o : Oper) : Bool :=
  match o.op with
  | .load _ _ => true
  | _ => false
/-- A list is loaded, beside a call that is handed no ends. -/
def ldCall (x y : Oper) : Bool := (isCallV x && isLd y) || (isLd x && isCallV y)
def mvCall (x y : Oper) : Bool := (isMv x && isCallV y) || (isCallV x && isMv y)
def pairOk (ops : List Oper) (bs : List Nat) (i j : Nat) (x y : Oper) : Bool :=
  (bs.getD j 0).testBit i ||
    (!(match x.dst with | some d => (reads ops y).contains d || y.dst == some d | none => false) && !(match y.dst with | some d => (reads ops x).contains d | none => false) &&
     (!(ends ops x && ends ops y) || mvCall x y || (mixed ops && ldCall x y)) && (!((heapOp x && memOp y) || (memOp x && heapOp y)) || (late ops && ((isStore x && isLoad y) || (isLoad x && isStore y))) || (mixed ops && ((isCallV x && (isLoad y || allocOp y)) || (isLoad x && isCallV y)))))
def regionOk (ops : List Oper) : Bool :=
  let bs := befores ops []
  (ops.zipIdx.all fun (o, i) => o.after.toList.all fun e => !(Region.binds .any e) || Nat.blt e.on i) &&
  (ops.zipIdx.all fun (o, i) => match o.guard with | some (j, _) => (bs.getD i 0).testBit j | none => true) &&
  ops.zipIdx.all fun (y, j) => ops.zipIdx.all fun (x, i) => !(Nat.blt i j) || (pairOk ops bs i j x y && (match x.dst with | some d => !(y.dst == some d) | none => true))
def codeOk : Code → Bool
  | .region _ ops draw => !draw || regionOk ops.toList
  | .seq a b => codeOk a && codeOk b
  | .cond _ a b => codeOk a && codeOk b
  | .block _ c => codeOk c
  | .loop c => codeOk c
  | .rangeFunc _ _ a b => codeOk a && codeOk b
  | .scope c => codeOk c
  | _ => true
theorem codeOk_label : ∀ (c : Code) (l : Nat) (rest : Code), findLabel c l = some rest → codeOk c = true → codeOk rest = true
  | .seq a b, l, rest, h, hc => by
    simp only [codeOk, Bool.and_eq_true] at hc
    unfold findLabel at h
    split at h
    · rename_i r hr
      injection h with h; subst h
      simp only [codeOk, Bool.and_eq_true]
      exact ⟨codeOk_label a l r hr hc.1, hc.2⟩
    · exact codeOk_label b l rest h hc.2
  | .label l', l, rest, h, hc => by
    unfold findLabel at h
    split at h
    · injection h with h; subst h; rfl
    · cases h
  | .skip, _, _, h, _ => by cases h
  | .region _ _ _, _, _, h, _ => by cases h
  | .cond _ _ _, _, _, h, _ => by cases h
  | .block _ _, _, _, h, _ => by cases h
  | .loop _, _, _, h, _ => by cases h
  | .rangeFunc _ _ _ _, _, _, h, _ => by cases h
  | .exit _, _, _, h, _ => by cases h
  | .scope _, _, _, h, _ => by cases h
  | .goto _, _, _, h, _ => by cases h
  | .ret, _, _, h, _ => by cases h
  | .refuse _, _, _, h, _ => by cases h
theorem noRange_label : ∀ (c : Code) (l : Nat) (rest : Code), findLabel c l = some rest → noRange c = true → noRange rest = true
  | .seq a b, l, rest, h, hc => by
    simp only [noRange, Bool.and_eq_true] at hc
    unfold findLabel at h
    split at h
    · rename_i r hr
      injection h with h; subst h
      simp only [noRange, Bool.and_eq_true]
      exact ⟨noRange_label a l r hr hc.1, hc.2⟩
    · exact noRange_label b l rest h hc.2
  | .label l', l, rest, h, hc => by
    unfold findLabel at h
    split at h
    · injection h with h; subst h; rfl
    · cases h
  | .skip, _, _, h, _ => by cases h
  | .region _ _ _, _, _, h, _ => by cases h
  | .cond _ _ _, _, _, h, _ => by cases h
  | .block _ _, _, _, h, _ => by cases h
  | .loop _, _, _, h, _ => by cases h
  | .rangeFunc _ _ _ _, _, _, h, _ => by cases h
  | .exit _, _, _, h, _ => by cases h
  | .scope _, _, _, h, _ => by cases h
  | .goto _, _, _, h, _ => by cases h
  | .ret, _, _, h, _ => by cases h
  | .refuse _, _, _, h, _ => by cases h


end Go.Proofs.YtomheegfobcijaaGreatDoor.Am

/- The machine, laid out so that it is run faster: it is the same one. -/
namespace Go.Proofs.YtomheegfobcijaaGreatDoor.Am
set_option linter.unusedVariables false
set_option linter.unusedSimpArgs false

/-! ### numbers -/
def ltF : Int → Int → Bool
  | .ofNat a, .ofNat b => Nat.blt a b
  | a, b => decide (a < b)
theorem ltF_eq (a b : Int) : ltF a b = decide (a < b) := by
  unfold ltF
  split
  · rename_i a b
    rw [Bool.eq_iff_iff, Nat.blt_eq, decide_eq_true_eq]
    exact Int.ofNat_lt.symm
  · rfl
def leF : Int → Int → Bool
  | .ofNat a, .ofNat b => Nat.ble a b
  | a, b => decide (a ≤ b)
theorem leF_eq (a b : Int) : leF a b = decide (a ≤ b) := by
  unfold leF
  split
  · rename_i a b
    rw [Bool.eq_iff_iff, Nat.ble_eq, decide_eq_true_eq]
    exact Int.ofNat_le.symm
  · rfl
def eqF : Int → Int → Bool
  | .ofNat a, .ofNat b => Nat.beq a b
  | a, b => a == b
theorem eqF_eq (a b : Int) : eqF a b = (a == b) := by
  unfold eqF
  split
  · rename_i a b
    rw [Bool.eq_iff_iff, beq_iff_eq, Nat.beq_eq]
    exact Int.ofNat_inj.symm
  · rfl
def topF (k : IntKind) : Nat :=
  match k with
  | .i64 => 9223372036854775807
  | .u8 => 255
  | .u32 => 4294967295
  | .u64 => 18446744073709551615
  | _ => 0
def wrapF (k : IntKind) : Int → Int
  | .ofNat a => cond (Nat.ble a (topF k)) (.ofNat a) (k.wrap (.ofNat a))
  | a => k.wrap a
theorem wrapF_eq (k : IntKind) (x : Int) : wrapF k x = k.wrap x := by
  unfold wrapF
  split
  · rename_i a
    cases h : Nat.ble a (topF k) with
    | false => rfl
    | true =>
      have h := Nat.ble_eq.mp h
      show (Int.ofNat a) = k.wrap (Int.ofNat a)
      have hb : (Int.ofNat a) = (a : Int) := rfl
      rw [hb]
      cases k <;> simp only [topF] at h <;> simp [IntKind.wrap, IntKind.bits, IntKind.signed] <;> (first | omega | (split <;> omega))
  · rfl
/-! ### pure operations -/
def iAdd (k : IntKind) (x y : Int) : Option AV := some (.int k (wrapF k (x + y)))
def iSub (k : IntKind) (x y : Int) : Option AV := some (.int k (wrapF k (x - y)))
def iMul (k : IntKind) (x y : Int) : Option AV := some (.int k (wrapF k (x * y)))
def iEql (x y : Int) : Option AV := some (.bool (eqF x y))
def iNeq (x y : Int) : Option AV := some (.bool (not (eqF x y)))
def iLss (x y : Int) : Option AV := some (.bool (ltF x y))
def iLeq (x y : Int) : Option AV := some (.bool (leF x y))
def intF (op : BinOp) (k : IntKind) (x y : Int) : Option AV :=
  match op with
  | .add => iAdd k x y
  | .sub => iSub k x y
  | .mul => iMul k x y
  | .eql => iEql x y
  | .neq => iNeq x y
  | .lss => iLss x y
  | .leq => iLeq x y
  | .gtr => iLss y x
  | .geq => iLeq y x
  | op => intOp op k x y
theorem intF_eq (op : BinOp) (k : IntKind) (x y : Int) : intF op k x y = intOp op k x y := by
  cases op <;> simp only [intF, iAdd, iSub, iMul, iEql, iNeq, iLss, iLeq, wrapF_eq, ltF_eq, leF_eq, eqF_eq, intOp] <;> rfl
def isShift : BinOp → Bool
  | .shl => true
  | .shr => true
  | _ => false
def bInt (op : BinOp) (k : IntKind) (m : Int) : AV → Option AV
  | .int k' n => cond (isShift op) (shiftOp op k m n) (if k = k' then intF op k m n else none)
  | _ => none
def isInt : AV → Bool
  | .int _ _ => true
  | _ => false
def bStr (op : BinOp) (m : List UInt8) : AV → Option AV
  | .str n => strOp op m n
  | _ => none
def isStr : AV → Bool
  | .str _ => true
  | _ => false
def bEq (P : Program) (op : BinOp) (t : TypeId) (x y : Operand) (a b : AV) : Option AV :=
  match op with
  | .eql => if plainA a && eqGuardA P t x y a b then (eqIn P 10000 t a b).map .bool else none
  | .neq => if plainA a && eqGuardA P t x y a b then (eqIn P 10000 t a b).map (fun r => .bool !r) else none
  | _ => none
def binF (P : Program) (op : BinOp) (t : TypeId) (x y : Operand) (a b : AV) : Option AV :=
  match a with
  | .int k m => cond (isInt b) (bInt op k m b) (bEq P op t x y (.int k m) b)
  | .str m => cond (isStr b) (bStr op m b) (bEq P op t x y (.str m) b)
  | a => bEq P op t x y a b
theorem binF_eq (P : Program) (op : BinOp) (t : TypeId) (x y : Operand) (a b : AV) : binF P op t x y a b = binOpA P op t x y a b := by
  cases a
  case int k m =>
    cases b
    case int k' n =>
      show cond (isShift op) (shiftOp op k m n) (if k = k' then intF op k m n else none) = _
      rw [intF_eq]
      cases op <;> rfl
    all_goals rfl
  case str m => cases b <;> rfl
  all_goals rfl
noncomputable def lookF (env : List (Nat × AV)) (t : Nat) : AV := List.rec (motive := fun _ => AV) .undef (fun p _ ih => cond (Nat.beq p.1 t) p.2 ih) env
theorem lookF_eq : ∀ (env : List (Nat × AV)) (t : Nat), lookF env t = look env t
  | [], t => rfl
  | (s, x) :: r, t => by
    show cond (Nat.beq s t) x (lookF r t) = _
    rw [lookF_eq r t]; rfl
noncomputable def evF (env : List (Nat × AV)) (x : Operand) : Option AV :=
  match x with
  | .tmp t => some (lookF env t)
  | .const v => constAV v
  | .global _ => none
  | .func f => some (.fn f [])
theorem evF_eq (env : List (Nat × AV)) (x : Operand) : evF env x = evalO env x := by
  cases x <;> first | rfl | (show some (lookF env _) = _; rw [lookF_eq]; rfl)
theorem evF_fun : evF = evalO := by funext env x; exact evF_eq env x
noncomputable def evLF (env : List (Nat × AV)) (l : List Operand) : Option (List AV) := List.rec (motive := fun _ => Option (List AV)) (some []) (fun x _ ih => (evF env x).bind fun v => ih.bind fun vs => some (v :: vs)) l
theorem evLF_eq (env : List (Nat × AV)) : ∀ l : List Operand, evLF env l = evalL env l
  | [] => rfl
  | x :: r => by
    show (evF env x).bind (fun v => (evLF env r).bind fun vs => some (v :: vs)) = _
    rw [evF_eq, evLF_eq env r]
    show _ = match evalO env x, evalL env r with
      | some v, some vs => some (v :: vs)
      | _, _ => none
    cases evalO env x with
    | none => cases evalL env r <;> rfl
    | some v => cases evalL env r <;> rfl
noncomputable def pPick (env : List (Nat × AV)) (c a b : Operand) : Option AV :=
  match evF env c with
  | some (.bool t) => cond t (evF env a) (evF env b)
  | _ => none
noncomputable def pBuild (P : Program) (env : List (Nat × AV)) (t : TypeId) (parts : Array (Nat × Operand)) : Option AV :=
  match evalParts env parts.toList with
  | some ps => buildA P t ps
  | none => none
noncomputable def pNil (env : List (Nat × AV)) (x : Operand) : Option AV :=
  match evF env x with
  | some (.ptr i o) => some (.ptr i o)
  | some (.ept c o) => some (.ept c o)
  | some (.iface t v) => some (.iface t v)
  | some (.fn f c) => some (.fn f c)
  | some (.mfn f b c) => some (.mfn f b c)
  | _ => none
noncomputable def pBin2 (P : Program) (env : List (Nat × AV)) (op : BinOp) (t : TypeId) (x y : Operand) (a : AV) : Option AV :=
  match evF env y with
  | some b => binF P op t x y a b
  | none => none
noncomputable def pBin (P : Program) (env : List (Nat × AV)) (op : BinOp) (t : TypeId) (x y : Operand) : Option AV :=
  match evF env x with
  | some a => pBin2 P env op t x y a
  | none => none
noncomputable def pField (P : Program) (env : List (Nat × AV)) (t : TypeId) (x : Operand) (f : Nat) : Option AV := pureOp P env (.field t x f)
def fAddr (o : Option Nat) : AV → Option AV
  | .ptr id off => o.map fun o => .ptr id (off + o)
  | .ept cs off => o.map fun o => .ept cs (off + o)
  | _ => none
noncomputable def pFieldAddr (P : Program) (env : List (Nat × AV)) (s : TypeId) (x : Operand) (f : Nat) : Option AV :=
  match evF env x with
  | some v => fAddr (fieldOff P s f) v
  | none => none
noncomputable def pIdxAddr (P : Program) (env : List (Nat × AV)) (t : TypeId) (x i : Operand) : Option AV :=
  match evF env x, evF env i with
  | some a, some b => indexAddrA P t a b
  | _, _ => none
noncomputable def pIdx (P : Program) (env : List (Nat × AV)) (t : TypeId) (x i : Operand) : Option AV :=
  match evF env x, evF env i with
  | some a, some b => indexA P t a b
  | _, _ => none
noncomputable def pSlice (P : Program) (env : List (Nat × AV)) (t : TypeId) (x : Operand) (lo hi mx : Option Operand) : Option AV :=
  match evF env x, optA env lo, optA env hi, optA env mx with
  | some a, some l, some h, some m => sliceA P t a l h m
  | _, _, _, _ => none
noncomputable def pExtract (env : List (Nat × AV)) (t : Operand) (i : Nat) : Option AV :=
  match evF env t with
  | some (.tup vs) => vs[i]?
  | _ => none
noncomputable def pUn (env : List (Nat × AV)) (op : UnOp) (x : Operand) : Option AV :=
  match evF env x with
  | some a => unOpA op a
  | none => none
noncomputable def pConv (P : Program) (env : List (Nat × AV)) (src dst : TypeId) (x : Operand) : Option AV :=
  match evF env x with
  | some a => convA P src dst a
  | none => none
noncomputable def pOld (P : Program) (env : List (Nat × AV)) (op : Op) : Option AV := pureOp P env op
noncomputable def pureF (P : Program) (env : List (Nat × AV)) (op : Op) : Option AV :=
  match op with
  | .move x => evF env x
  | .assign x => evF env x
  | .pick c a b => pPick env c a b
  | .build t parts => pBuild P env t parts
  | .nilCheck x => pNil env x
  | .binOp op t x y _ => pBin P env op t x y
  | .unOp op _ x => pUn env op x
  | .convert src dst x => pConv P env src dst x
  | .slice t x lo hi mx => pSlice P env t x lo hi mx
  | .fieldAddr s x f => pFieldAddr P env s x f
  | .indexAddr t x i => pIdxAddr P env t x i
  | .index t x i => pIdx P env t x i
  | .extract t i => pExtract env t i
  | op => pOld P env op
theorem pureF_eq (P : Program) (env : List (Nat × AV)) (op : Op) : pureF P env op = pureOp P env op := by
  have hev := evF_fun
  cases op
  case binOp op t x y q =>
    show pBin P env op t x y = _
    unfold pBin pBin2
    rw [hev]
    simp only [binF_eq]
    unfold pureOp
    simp only
    cases evalO env x with
    | none => cases evalO env y <;> rfl
    | some a => cases evalO env y <;> rfl
  case fieldAddr s x f =>
    show pFieldAddr P env s x f = _
    unfold pFieldAddr pureOp
    rw [hev]
    simp only
    cases evalO env x with
    | none => cases fieldOff P s f <;> rfl
    | some v => cases v <;> cases fieldOff P s f <;> rfl
  case slice t x lo hi mx =>
    show pSlice P env t x lo hi mx = _
    unfold pSlice
    rw [hev]; rfl
  all_goals first | rfl | (simp only [pureF, pPick, pNil, pIdxAddr, pIdx, pExtract, pUn, pConv, hev]; rfl)

/-! ### operations on cells -/
noncomputable def qNth {α : Type} (l : List α) : Nat → Option α := List.rec (motive := fun _ => Nat → Option α) (fun _ => none) (fun a _ ih n => cond (Nat.beq n 0) (some a) (ih (Nat.pred n))) l
theorem qNth_eq {α : Type} : ∀ (l : List α) (n : Nat), qNth l n = l[n]?
  | [], n => by simp [qNth]
  | a :: r, 0 => rfl
  | a :: r, n + 1 => by
    show qNth r n = _
    rw [qNth_eq r n, List.getElem?_cons_succ]
def rdF (off n : Nat) (b : Blk) : Option (List AV) := if Nat.beq b.e LOOP = false ∧ off + n ≤ b.cs.length then some ((b.cs.drop off).take n) else none
noncomputable def qRead (H : List (Option Blk)) (id off n : Nat) : Option (List AV) :=
  match qNth H id with
  | some (some b) => rdF off n b
  | _ => none
theorem qRead_eq (H : List (Option Blk)) (id off n : Nat) : qRead H id off n = readCells H id off n := by
  unfold qRead readCells
  rw [qNth_eq]
  rfl
noncomputable def ldPtr (P : Program) (H : List (Option Blk)) (t : TypeId) (id off n : Nat) : Option AV :=
  match qRead H id off n with
  | some cs => ofCells P t cs
  | none => none
def ldEpt (P : Program) (t : TypeId) (cs : List AV) (off n : Nat) : Option AV := if off + n ≤ cs.length then ofCells P t ((cs.drop off).take n) else none
noncomputable def qLoad (P : Program) (H : List (Option Blk)) (t : TypeId) (p : AV) : Option AV :=
  match p with
  | .ptr id off => (sizeT P t).bind fun n => ldPtr P H t id off n
  | .ept cs off => (sizeT P t).bind fun n => ldEpt P t cs off n
  | _ => none
theorem qLoad_eq (P : Program) (H : List (Option Blk)) (t : TypeId) (p : AV) : qLoad P H t p = loadA P H t p := by
  unfold qLoad loadA
  cases p <;> cases sizeT P t <;> try rfl
  (simp only [Option.bind_some, ldPtr, qRead_eq]) <;> rfl
def ldRes (ops : List Oper) (P : Program) (dst : Option Nat) (t : TypeId) (H : List (Option Blk)) (own : List Loc) (x : AV) : AV → Option Res
  | .ptr id off => some (cond (owns own (.cell id off) && appDst ops dst && (sizeT P t == some 1) && (isAggT P t == some false)) ⟨x, H, drop own (.cell id off), true⟩ ⟨x, H, own, false⟩)
  | _ => some ⟨x, H, own, false⟩
noncomputable def cLoad2 (P : Program) (ops : List Oper) (dst : Option Nat) (t : TypeId) (H : List (Option Blk)) (own : List Loc) (p : AV) : Option Res :=
  match qLoad P H t p with
  | some x => ldRes ops P dst t H own x p
  | none => none
noncomputable def cLoad (P : Program) (ops : List Oper) (dst : Option Nat) (env : List (Nat × AV)) (H : List (Option Blk)) (own : List Loc) (t : TypeId) (a : Operand) : Option Res :=
  match evF env a with
  | some p => cLoad2 P ops dst t H own p
  | none => none
noncomputable def cMove (ops : List Oper) (dst : Option Nat) (env : List (Nat × AV)) (H : List (Option Blk)) (own : List Loc) : Operand → Option Res
  | .tmp v => some (cond (owns own (.slot v) && appDst ops dst) ⟨lookF env v, H, drop own (.slot v), true⟩ ⟨lookF env v, H, own, false⟩)
  | x => plainRes H own (evF env x)
def asgT (s : Nat) (H : List (Option Blk)) (own : List Loc) (v : AV) : Option Res := some (cond (owns own (.slot s)) ⟨v, H, drop own (.slot s), true⟩ ⟨v, H, own, false⟩)
noncomputable def cAssign (env : List (Nat × AV)) (H : List (Option Blk)) (own : List Loc) : Operand → Option Res
  | .tmp s => asgT s H own (lookF env s)
  | x => (evF env x).map fun v => ⟨v, H, own, isNils v⟩
def cOld (call : CallA) (P : Program) (ops : List Oper) (o : Oper) (env : List (Nat × AV)) (H : List (Option Blk)) (own : List Loc) : Option Res := coreS call P ops o env H own
noncomputable def coreF (call : CallA) (P : Program) (ops : List Oper) (o : Oper) (env : List (Nat × AV)) (H : List (Option Blk)) (own : List Loc) : Option Res :=
  match o.op with
  | .move x => cMove ops o.dst env H own x
  | .load t a => cLoad P ops o.dst env H own t a
  | .assign x => cAssign env H own x
  | .pick c a b => plainRes H own (pPick env c a b)
  | .build t parts => plainRes H own (pBuild P env t parts)
  | .nilCheck x => plainRes H own (pNil env x)
  | .binOp op t x y _ => plainRes H own (pBin P env op t x y)
  | .unOp op _ x => plainRes H own (pUn env op x)
  | .slice t x lo hi mx => plainRes H own (pSlice P env t x lo hi mx)
  | .fieldAddr s x f => plainRes H own (pFieldAddr P env s x f)
  | .field t x f => plainRes H own (pField P env t x f)
  | .indexAddr t x i => plainRes H own (pIdxAddr P env t x i)
  | .index t x i => plainRes H own (pIdx P env t x i)
  | .extract t i => plainRes H own (pExtract env t i)
  | _ => cOld call P ops o env H own
theorem coreF_eq (call : CallA) (P : Program) (ops : List Oper) (o : Oper) (env : List (Nat × AV)) (H : List (Option Blk)) (own : List Loc) : coreF call P ops o env H own = coreS call P ops o env H own := by
  obtain ⟨dst, op, ty, pos, after, guard⟩ := o
  have hp := pureF_eq P env op
  cases op
  case move x =>
    cases x with
    | tmp v =>
      show some (cond (owns own (.slot v) && appDst ops dst) (Res.mk (lookF env v) H (drop own (.slot v)) true) (Res.mk (lookF env v) H own false)) = _
      rw [lookF_eq]; rfl
    | _ => rfl
  case load t a =>
    show cLoad P ops dst env H own t a = core call P ops ⟨dst, .load t a, ty, pos, after, guard⟩ env H own
    unfold cLoad cLoad2 core
    simp only [qLoad_eq, evF_eq]
    cases evalO env a with
    | none => rfl
    | some p =>
      simp only
      cases loadA P H t p with
      | none => rfl
      | some x =>
        cases p <;> rfl
  case assign x =>
    cases x with
    | tmp v => show asgT v H own (lookF env v) = _; rw [lookF_eq]; rfl
    | const c => show (evalO env (.const c)).map _ = core call P ops ⟨dst, .assign (.const c), ty, pos, after, guard⟩ env H own; unfold core; simp only; cases evalO env (.const c) <;> rfl
    | global c => rfl
    | func c => rfl
  case pick => exact congrArg (plainRes H own) hp
  case build => exact congrArg (plainRes H own) hp
  case nilCheck => exact congrArg (plainRes H own) hp
  case binOp => exact congrArg (plainRes H own) hp
  case unOp => exact congrArg (plainRes H own) hp
  case slice => exact congrArg (plainRes H own) hp
  case fieldAddr => exact congrArg (plainRes H own) hp
  case field => exact congrArg (plainRes H own) hp
  case indexAddr => exact congrArg (plainRes H own) hp
  case index => exact congrArg (plainRes H own) hp
  case extract => exact congrArg (plainRes H own) hp
  all_goals rfl

/-! ### steps -/
def qPut (nt : Nat) (env : List (Nat × AV)) (dst : Option Nat) (r : Option Res) : Option St :=
  match r with
  | some r => r.put nt env dst
  | none => none
def sYield (yl : Nat → List AV → List (Option Blk) → List Loc → Option Out) (nt : Nat) (dst : Option Nat) (st : St) (id : Nat) (vs : List AV) : Option St :=
  match yl id vs st.H (canon (st.own.filter Loc.isCell)) with
  | some (x, H', own') => Res.put ⟨x, H', st.own.filter (fun l => !l.isCell) ++ own'.filter Loc.isCell, false⟩ nt st.env dst
  | none => none
def sCallV2 (call : CallA) (yl : Nat → List AV → List (Option Blk) → List Loc → Option Out) (P : Program) (nt : Nat) (dst : Option Nat) (st : St) (vs : List AV) : AV → Option St
  | .fn g cap => qPut nt st.env dst (callA call P st.H st.own g (vs ++ cap))
  | .mfn g bs cap => qPut nt st.env dst (callA call P st.H st.own g (bs ++ vs ++ cap))
  | .yld id => sYield yl nt dst st id vs
  | _ => none
noncomputable def sCallV (call : CallA) (yl : Nat → List AV → List (Option Blk) → List Loc → Option Out) (P : Program) (nt : Nat) (dst : Option Nat) (st : St) (f : Operand) (args : Array Operand) : Option St :=
  match evF st.env f with
  | some fv => match evLF st.env args.toList with
    | some vs => sCallV2 call yl P nt dst st vs fv
    | none => none
  | none => none
def sOld (call : CallA) (yl : Nat → List AV → List (Option Blk) → List Loc → Option Out) (P : Program) (nt : Nat) (ops : List Oper) (o : Oper) (st : St) : Option St :=
  match yieldOp st.env o with
  | some (id, vs) => match yl id vs st.H (canon (st.own.filter Loc.isCell)) with
    | some (x, H', own') => Res.put ⟨x, H', st.own.filter (fun l => !l.isCell) ++ own'.filter Loc.isCell, false⟩ nt st.env o.dst
    | none => none
  | none => match deferZ o st with
    | some r => r
    | none => match convZ P o st with
      | some r => r.put nt st.env o.dst
      | none => stepOp call P nt none ops o st
noncomputable def sGo (call : CallA) (yl : Nat → List AV → List (Option Blk) → List Loc → Option Out) (P : Program) (nt : Nat) (ops : List Oper) (o : Oper) (st : St) : Option St :=
  match o.op with
  | .call { callee := .value f, args, .. } => sCallV call yl P nt o.dst st f args
  | .call _ => sOld call yl P nt ops o st
  | .defer _ => sOld call yl P nt ops o st
  | .convert _ _ _ => sOld call yl P nt ops o st
  | _ => qPut nt st.env o.dst (coreF call P ops o st.env st.H st.own)
theorem sGo_eq (call : CallA) (yl : Nat → List AV → List (Option Blk) → List Loc → Option Out) (P : Program) (nt : Nat) (ops : List Oper) (o : Oper) (st : St) : sGo call yl P nt ops o st = sOld call yl P nt ops o st := by
  obtain ⟨dst, op, ty, pos, after, guard⟩ := o
  cases op
  case call c =>
    obtain ⟨callee, args, at_⟩ := c
    cases callee with
    | value f =>
      show sCallV call yl P nt dst st f args = _
      unfold sCallV sOld
      simp only [yieldOp, evF_eq, evLF_eq]
      cases hf : evalO st.env f with
      | none =>
        simp only
        show none = stepOp call P nt none ops _ st
        unfold stepOp coreP coreS
        simp only [slElem, slTy, isMapO, isMapW, isMapR, Bool.or_false, cond_false, core, hf]
      | some fv =>
        simp only
        cases hv : evalL st.env args.toList with
        | none =>
          simp only
          cases fv <;> (show none = stepOp call P nt none ops _ st; unfold stepOp coreP coreS; simp only [slElem, slTy, isMapO, isMapW, isMapR, Bool.or_false, cond_false, core, hf, hv])
        | some vs =>
          simp only
          cases fv
          case fn g cap => show qPut nt st.env dst (callA call P st.H st.own g (vs ++ cap)) = stepOp call P nt none ops _ st; unfold stepOp coreP coreS; simp only [slElem, slTy, isMapO, isMapW, isMapR, Bool.or_false, cond_false, core, hf, hv]; rfl
          case mfn g bs cap => show qPut nt st.env dst (callA call P st.H st.own g (bs ++ vs ++ cap)) = stepOp call P nt none ops _ st; unfold stepOp coreP coreS; simp only [slElem, slTy, isMapO, isMapW, isMapR, Bool.or_false, cond_false, core, hf, hv]; rfl
          case yld id => rfl
          all_goals (show none = stepOp call P nt none ops _ st; unfold stepOp coreP coreS; simp only [slElem, slTy, isMapO, isMapW, isMapR, Bool.or_false, cond_false, core, hf, hv])
    | invoke r name => rfl
    | builtin b => rfl
  case defer c => rfl
  case convert a b c => rfl
  all_goals
    unfold sGo sOld stepOp coreP
    simp only [yieldOp, deferZ, convZ, coreF_eq]
    rfl
def sPutNo (nt : Nat) (o : Oper) (st : St) : Option St := Res.put ⟨.tup [], st.H, st.own, false⟩ nt st.env o.dst
noncomputable def qStepG (call : CallA) (yl : Nat → List AV → List (Option Blk) → List Loc → Option Out) (P : Program) (nt : Nat) (ops : List Oper) (o : Oper) (st : St) : Option St :=
  match wantedA ops st.env o with
  | some true => sGo call yl P nt ops o st
  | some false => sPutNo nt o st
  | none => none
noncomputable def qStep (call : CallA) (yl : Nat → List AV → List (Option Blk) → List Loc → Option Out) (P : Program) (nt : Nat) (ops : List Oper) (o : Oper) (st : St) : Option St :=
  match o.guard with
  | none => sGo call yl P nt ops o st
  | some _ => qStepG call yl P nt ops o st
theorem qStep_eq (call : CallA) (yl : Nat → List AV → List (Option Blk) → List Loc → Option Out) (P : Program) (nt : Nat) (ops : List Oper) (o : Oper) (st : St) : qStep call yl P nt ops o st = stepZ call yl P nt ops o st := by
  unfold qStep qStepG
  cases hg : o.guard with
  | none =>
    have hw : wantedA ops st.env o = some true := by unfold wantedA; rw [hg]
    simp only
    rw [sGo_eq]
    unfold stepZ
    rw [hw]; rfl
  | some g =>
    simp only
    unfold stepZ
    cases wantedA ops st.env o with
    | none => rfl
    | some b => cases b <;> first | rfl | (simp only; rw [sGo_eq]; rfl)
def oThen (k : St → Option St) (o : Option St) : Option St :=
  match o with
  | some st' => k st'
  | none => none
noncomputable def qRun (call : CallA) (yl : Nat → List AV → List (Option Blk) → List Loc → Option Out) (P : Program) (nt : Nat) (ops l : List Oper) : St → Option St :=
  List.rec (motive := fun _ => St → Option St) (fun st => some st) (fun o _ ih st => oThen ih (qStep call yl P nt ops o st)) l
theorem qRun_eq (call : CallA) (yl : Nat → List AV → List (Option Blk) → List Loc → Option Out) (P : Program) (nt : Nat) (ops : List Oper) : ∀ (l : List Oper) (st : St), qRun call yl P nt ops l st = runOpsZ call yl P nt ops l st
  | [], st => rfl
  | o :: r, st => by
    show oThen (qRun call yl P nt ops r) (qStep call yl P nt ops o st) = _
    unfold runOpsZ
    rw [qStep_eq]
    cases stepZ call yl P nt ops o st with
    | none => rfl
    | some st' => exact qRun_eq call yl P nt ops r st'

/-! ### regions that draw their order -/
def dOld (call : CallA) (P : Program) (nt : Nat) (base : Nat) (lt : Option WS) (ops : List Oper) (o : Oper) (st : St) : Option St := stepOp call P nt (some (base, lt)) ops o st
noncomputable def dGo (call : CallA) (P : Program) (nt : Nat) (base : Nat) (lt : Option WS) (ops : List Oper) (o : Oper) (st : St) : Option St :=
  match lt with
  | none => match o.op with
    | .alloc _ => dOld call P nt base none ops o st
    | .box _ _ => dOld call P nt base none ops o st
    | .makeMap _ _ => dOld call P nt base none ops o st
    | _ => qPut nt st.env o.dst (coreF call P ops o st.env st.H st.own)
  | some ws => dOld call P nt base (some ws) ops o st
theorem dGo_eq (call : CallA) (P : Program) (nt : Nat) (base : Nat) (lt : Option WS) (ops : List Oper) (o : Oper) (st : St) : dGo call P nt base lt ops o st = stepOp call P nt (some (base, lt)) ops o st := by
  cases lt with
  | some ws => rfl
  | none =>
    obtain ⟨dst, op, ty, pos, after, guard⟩ := o
    cases op <;> first | rfl | (unfold dGo stepOp coreP; simp only [coreF_eq]; rfl)
noncomputable def dStep (call : CallA) (P : Program) (nt : Nat) (base : Nat) (lt : Option WS) (ops : List Oper) (o : Oper) (st : St) : Option St :=
  match o.guard with
  | none => dGo call P nt base lt ops o st
  | some _ => match wantedA ops st.env o with
    | some true => dGo call P nt base lt ops o st
    | some false => sPutNo nt o st
    | none => none
theorem dStep_eq (call : CallA) (P : Program) (nt : Nat) (base : Nat) (lt : Option WS) (ops : List Oper) (o : Oper) (st : St) : dStep call P nt base lt ops o st = stepW call P nt (some (base, lt)) ops o st := by
  unfold dStep
  cases hg : o.guard with
  | none =>
    have hw : wantedA ops st.env o = some true := by unfold wantedA; rw [hg]
    simp only
    rw [dGo_eq]
    unfold stepW
    rw [hw]
  | some g =>
    simp only
    unfold stepW
    cases wantedA ops st.env o with
    | none => rfl
    | some b => cases b <;> first | rfl | (simp only; rw [dGo_eq])
noncomputable def dRun (call : CallA) (P : Program) (nt : Nat) (base : Nat) (lt : Option WS) (ops l : List Oper) : St → Option St :=
  List.rec (motive := fun _ => St → Option St) (fun st => some st) (fun o _ ih st => oThen ih (dStep call P nt base lt ops o st)) l
theorem dRun_eq (call : CallA) (P : Program) (nt : Nat) (base : Nat) (lt : Option WS) (ops : List Oper) (hm : mixed ops = false) : ∀ (l : List Oper) (st : St), dRun call P nt base lt ops l st = runOps (fun _ => call) P nt (some (base, lt)) ops l st
  | [], st => rfl
  | o :: r, st => by
    show oThen (dRun call P nt base lt ops r) (dStep call P nt base lt ops o st) = _
    unfold runOps
    rw [dStep_eq]
    have hw : ∀ env H H', watchOk ops o env H H' = true := by
      intro env H H'
      unfold watchOk bOk wSlots bSlots
      rw [hm, Bool.and_false]; rfl
    unfold stepV
    cases stepW call P nt (some (base, lt)) ops o st with
    | none => rfl
    | some st' => simp only [hw, cond_true]; exact dRun_eq call P nt base lt ops hm r st'
noncomputable def drawF (call callD : CallA) (P : Program) (nt : Nat) (base : Nat) (lt : Option WS) (ops : List Oper) (st : St) : Option St :=
  cond (mixed ops) (runOps (selC call callD ops) P nt (some (base, lt)) ops ops st) (dRun call P nt base lt ops ops st)
theorem drawF_eq (call callD : CallA) (P : Program) (nt : Nat) (base : Nat) (lt : Option WS) (ops : List Oper) (st : St) : drawF call callD P nt base lt ops st = runOps (selC call callD ops) P nt (some (base, lt)) ops ops st := by
  unfold drawF
  cases hm : mixed ops with
  | true => rfl
  | false => rw [selC_plain hm]; exact dRun_eq call P nt base lt ops hm ops st

/-! ### statements, calls -/
noncomputable def xDraw (call callD : CallA) (P : Program) (nt : Nat) (ops : List Oper) (st : St) : Option St :=
  match lateW P st.H ops st.env with
  | some lt => drawF call callD P nt st.H.length lt ops { st with H := st.H ++ List.replicate (allocs ops) none }
  | none => none
def xKeep (vars : List Nat) (o : Option St) : Option (Ex × St) :=
  match o with
  | some st' => some (.normal, keepD vars st')
  | none => none
def xSeq2 (self : Code → St → Option (Ex × St)) (b : Code) (r : Option (Ex × St)) : Option (Ex × St) :=
  match r with
  | some (.normal, st') => self b st'
  | r => r
def xSeq (call : CallA) (yl : Nat → List AV → List (Option Blk) → List Loc → Option Out) (P : Program) (vars : Nat → List Nat) (nt : Nat) (self : Code → St → Option (Ex × St)) (a b : Code) (st : St) : Option (Ex × St) :=
  match mloopOf a b with
  | some L => match mloopA call yl P vars nt self L st with
    | some st' => match L.rest with
      | some r => self r st'
      | none => some (.normal, st')
    | none => none
  | none => xSeq2 self b (self a st)
def xCond (self : Code → St → Option (Ex × St)) (a b : Code) (st : St) : Option AV → Option (Ex × St)
  | some (.bool t) => cond t (self a st) (self b st)
  | _ => none
def xBlock (id : Nat) (r : Option (Ex × St)) : Option (Ex × St) :=
  match r with
  | some (.exit i, st') => cond (Nat.beq i id) (some (.normal, st')) (some (.exit i, st'))
  | r => r
def xOld (call callD : CallA) (yl : Nat → List AV → List (Option Blk) → List Loc → Option Out) (P : Program) (vars : Nat → List Nat) (nt : Nat) (self : Code → St → Option (Ex × St)) (c : Code) (st : St) : Option (Ex × St) := execWith call callD yl P vars nt self c st
noncomputable def xGo (call callD : CallA) (yl : Nat → List AV → List (Option Blk) → List Loc → Option Out) (P : Program) (vars : Nat → List Nat) (nt : Nat) (self : Code → St → Option (Ex × St)) (c : Code) (st : St) : Option (Ex × St) :=
  match c with
  | .skip => some (.normal, st)
  | .region id ops draw => xKeep (vars id) (cond draw (xDraw call callD P nt ops.toList st) (qRun call yl P nt ops.toList ops.toList st))
  | .seq a b => xSeq call yl P vars nt self a b st
  | .cond c a b => xCond self a b st (evF st.env c)
  | .block id c => xBlock id (self c st)
  | .loop c => xSeq2 self (.loop c) (self c st)
  | .exit id => some (.exit id, st)
  | .ret => some (.ret, st)
  | c => xOld call callD yl P vars nt self c st
theorem xGo_eq (call callD : CallA) (yl : Nat → List AV → List (Option Blk) → List Loc → Option Out) (P : Program) (vars : Nat → List Nat) (nt : Nat) (self : Code → St → Option (Ex × St)) (c : Code) (st : St) : xGo call callD yl P vars nt self c st = execWith call callD yl P vars nt self c st := by
  cases c
  case region id ops draw =>
    show xKeep (vars id) (cond draw (xDraw call callD P nt ops.toList st) (qRun call yl P nt ops.toList ops.toList st)) = _
    rw [qRun_eq]
    unfold xDraw
    simp only [drawF_eq]
    unfold execWith xKeep
    rfl
  case seq a b =>
    show xSeq call yl P vars nt self a b st = _
    unfold xSeq execWith
    simp only
    cases mloopOf a b with
    | some L => rfl
    | none => rfl
  case cond c a b =>
    show xCond self a b st (evF st.env c) = _
    rw [evF_eq]
    unfold execWith
    simp only
    cases evalO st.env c with
    | none => rfl
    | some v => cases v <;> rfl
  all_goals rfl
abbrev ExT := Know → (Nat → List Nat) → Nat → Code → St → Option (Ex × St)
abbrev CaT := Know → FuncId → List AV → List (Option Blk) → List Loc → Option Out
noncomputable def exS (P : Program) (ca : CaT) (ex : ExT) : ExT := fun K vars nt c st => xGo ⟨ca K, K.lo⟩ ⟨fun f args H own => cond (Nat.ble K.lo H.length) (noOwn H.length own (ca (K.up H.length) f args H [])) none, K.lo⟩ (yieldA K.lo (ex K)) P vars nt (ex K vars nt) c st
def caS (P : Program) (ex : ExT) : CaT := fun K f args H own => match K.short f with
  | some g => g K.lo args H own
  | none => cond (K.bad f) none (fzOut K.lo P (K.fz f) (bodyA (ex K) P K f args H own))
noncomputable def machF (P : Program) (n : Nat) : CaT × ExT := Nat.rec (motive := fun _ => CaT × ExT) (fun _ _ _ _ _ => none, fun _ _ _ _ _ => none) (fun _ ih => (caS P ih.2, exS P ih.1 ih.2)) n
noncomputable def callF (P : Program) (n : Nat) : CaT := (machF P n).1
theorem all_F (P : Program) : ∀ n, (machF P n).1 = callK P n ∧ (machF P n).2 = execK P n
  | 0 => ⟨by funext K f args H own; rfl, by funext K vars nt c st; rfl⟩
  | n + 1 => by
    obtain ⟨h1, h2⟩ := all_F P n
    constructor
    · funext K f args H own
      show caS P (machF P n).2 K f args H own = _
      rw [h2]
      rfl
    · funext K vars nt c st
      show exS P (machF P n).1 (machF P n).2 K vars nt c st = _
      unfold exS
      rw [h1, h2, xGo_eq]
      rfl
theorem callF_eq (P : Program) (n : Nat) (K : Know) (f : FuncId) (args : List AV) (H : List (Option Blk)) (own : List Loc) : callF P n K f args H own = callK P n K f args H own := by unfold callF; rw [(all_F P n).1]
end Go.Proofs.YtomheegfobcijaaGreatDoor.Am

/- How the abstract machine's values stand to Go's: 'Rep', and what becomes of it as memory grows. -/
namespace Go.Proofs.YtomheegfobcijaaGreatDoor.Am
set_option linter.unusedVariables false
open Go.RowKit

/-- What is asked of memory: the cells that are not written any more, and where the machine's own blocks lie. -/
structure Mem where
  pm : Nat → Nat → Option Value
  f : Nat → Option Nat
  bs : Nat → Nat

structure Mem.le (M N : Mem) : Prop where
  pm : ∀ b o v, M.pm b o = some v → N.pm b o = some v
  f : ∀ i b, M.f i = some b → N.f i = some b
  bs : ∀ b, M.bs b ≤ N.bs b
theorem Mem.le_refl (M : Mem) : M.le M := ⟨fun _ _ _ h => h, fun _ _ h => h, fun _ => Nat.le_refl _⟩
theorem Mem.le_trans {A B C : Mem} (h : A.le B) (k : B.le C) : A.le C :=
  ⟨fun _ _ _ e => k.pm _ _ _ (h.pm _ _ _ e), fun _ _ e => k.f _ _ (h.f _ _ e), fun _ => Nat.le_trans (h.bs _) (k.bs _)⟩


inductive Rep (P : Program) (M : Mem) : AV → Value → Prop
  | undef (v : Value) : Rep P M .undef v
  | bool (b : Bool) : Rep P M (.bool b) (.bool b)
  | int (k : IntKind) (n : Int) : Rep P M (.int k n) (.int k n)
  | str (s : List UInt8) : Rep P M (.str s) (.string ⟨⟨s⟩⟩)
  | agg (cs : List AV) (vs : Array Value) (hl : vs.size = cs.length) (h : ∀ i, i < cs.length → Rep P M (cs.getD i .undef) (vs.getD i undef))
      (h1 : ∀ i, i < cs.length → (vs.getD i undef).oneCell' = true) : Rep P M (.agg cs) (.agg vs)
  | tup (cs : List AV) (vs : Array Value) (hl : vs.size = cs.length) (h : ∀ i, i < cs.length → Rep P M (cs.getD i .undef) (vs.getD i undef)) : Rep P M (.tup cs) (.tuple vs)
  | nils : Rep P M .nils (.slice none 0 0)
  | lst (e : TypeId) (xs sp : List AV) (a : Option Addr) (cap sz b off : Nat) (c : Nat → Value) (hsz : sizeT P e = some sz) (hz : 0 < sz)
      (hall : ∀ x ∈ xs ++ sp, x.cells.length = sz) (hcap : xs.length + sp.length ≤ cap) (ha : xs ++ sp ≠ [] → a = some ⟨b, off, none⟩)
      (hc : ∀ j, j < (flat (xs ++ sp)).length → M.pm b (off + j) = some (c j))
      (hr : ∀ j, j < (flat (xs ++ sp)).length → Rep P M ((flat (xs ++ sp)).getD j .undef) (c j))
      (h1 : ∀ j, j < (flat (xs ++ sp)).length → (c j).oneCell' = true) : Rep P M (.lst e xs sp) (.slice a xs.length cap)
  | sl (e : TypeId) (id off len b cap sz : Nat) (hf : M.f id = some b) (hsz : sizeT P e = some sz) (hz : 0 < sz) (hb : off + cap * sz ≤ M.bs b) (hl : len ≤ cap) :
      Rep P M (.sl e id off len) (.slice (some ⟨b, off, none⟩) len cap)
  | vw (e : TypeId) (id off len b cap : Nat) (hf : M.f id = some b) (hl : len ≤ cap) : Rep P M (.vw e id off len) (.slice (some ⟨b, off, none⟩) len cap)
  | nilp : Rep P M .nilp (.pointer none)
  | ptr (id off b : Nat) (hf : M.f id = some b) : Rep P M (.ptr id off) (.pointer (some ⟨b, off, none⟩))
  | ept (cs : List AV) (off b o : Nat) (c : Nat → Value) (hc : ∀ j, j < cs.length → M.pm b (o + j) = some (c j))
      (hr : ∀ j, j < cs.length → Rep P M (cs.getD j .undef) (c j)) (h1 : ∀ j, j < cs.length → (c j).oneCell' = true) :
      Rep P M (.ept cs off) (.pointer (some ⟨b, o + off, none⟩))
  | nilfn : Rep P M .nilfn .nilFunc
  | fn (f : FuncId) (cap : List AV) (vs : Array Value) (hl : vs.size = cap.length) (h : ∀ i, i < cap.length → Rep P M (cap.getD i .undef) (vs.getD i undef)) :
      Rep P M (.fn f cap) (.func (.func f) #[] vs)
  | mfn (f : FuncId) (bs cap : List AV) (us vs : Array Value) (kl : us.size = bs.length) (k : ∀ i, i < bs.length → Rep P M (bs.getD i .undef) (us.getD i undef)) (hl : vs.size = cap.length) (h : ∀ i, i < cap.length → Rep P M (cap.getD i .undef) (vs.getD i undef)) :
      Rep P M (.mfn f bs cap) (.func (.func f) us vs)
  | nili : Rep P M .nili .nilIface
  | iface (t : TypeId) (x : AV) (v : Value) (h : Rep P M x v) : Rep P M (.iface t x) (.iface t v)
  | nilm : Rep P M .nilm (.map none)
  | map (id r : Nat) (hf : M.f id = some r) : Rep P M (.map id) (.map (some r))
  | yld (id l : Nat) (hf : M.f id = some l) : Rep P M (.yld id) (.func (.yield l) #[] #[])
  | rcd (vars : Nat → List Nat) (nt : Nat) (env : List (Nat × AV)) (ps : List Nat) (assign body : Code) (v : Value) : Rep P M (.rcd vars nt env ps assign body) v

theorem Rep.mono {P : Program} {M N : Mem} (h : M.le N) {x : AV} {v : Value} (r : Rep P M x v) : Rep P N x v := by
  induction r with
  | undef v => exact .undef v
  | bool b => exact .bool b
  | int k n => exact .int k n
  | str s => exact .str s
  | agg cs vs hl _ h1 ih => exact .agg cs vs hl ih h1
  | tup cs vs hl _ ih => exact .tup cs vs hl ih
  | nils => exact .nils
  | lst e xs sp a cap sz b off c hsz hz hall hcap ha hc _ h1 ih => exact .lst e xs sp a cap sz b off c hsz hz hall hcap ha (fun j hj => h.pm _ _ _ (hc j hj)) ih h1
  | sl e id off len b cap sz hf hsz hz hb hl => exact .sl e id off len b cap sz (h.f _ _ hf) hsz hz (Nat.le_trans hb (h.bs b)) hl
  | vw e id off len b cap hf hl => exact .vw e id off len b cap (h.f _ _ hf) hl
  | nilp => exact .nilp
  | ptr id off b hf => exact .ptr id off b (h.f _ _ hf)
  | ept cs off b o c hc _ h1 ih => exact .ept cs off b o c (fun j hj => h.pm _ _ _ (hc j hj)) ih h1
  | nilfn => exact .nilfn
  | fn f cap vs hl _ ih => exact .fn f cap vs hl ih
  | mfn f bs cap us vs kl _ hl _ ik ih => exact .mfn f bs cap us vs kl ik hl ih
  | nili => exact .nili
  | iface t x v _ ih => exact .iface t x v ih
  | nilm => exact .nilm
  | map id r hf => exact .map id r (h.f _ _ hf)
  | yld id l hf => exact .yld id l (h.f _ _ hf)
  | rcd vars nt env ps assign body v => exact .rcd vars nt env ps assign body v

/-- A constant. -/
theorem Rep.const {P : Program} {M : Mem} {v : Value} {x : AV} (h : constAV v = some x) : Rep P M x v := by
  unfold constAV at h
  split at h <;> first
    | (injection h with h; subst h; constructor)
    | cases h

theorem Rep.cells_size {P : Program} {M : Mem} {x : AV} {v : Value} (r : Rep P M x v) (h : 0 < x.cells.length) : v.cells.size = x.cells.length := by
  cases r <;> simp_all [AV.cells, Value.cells]
theorem Rep.cells_at {P : Program} {M : Mem} {x : AV} {v : Value} (r : Rep P M x v) (i : Nat) (h : i < x.cells.length) :
    Rep P M (x.cells.getD i .undef) (v.cells.getD i Go.undef) ∧ (v.cells.getD i Go.undef).oneCell' = true := by
  cases r <;> simp only [AV.cells, Value.cells, List.length_cons, List.length_nil] at h ⊢ <;> first
    | (exact absurd h (by omega))
    | skip
  case agg cs vs hl hh h1 => exact ⟨hh i h, h1 i h⟩
  all_goals
    obtain rfl : i = 0 := by omega
    refine ⟨?_, rfl⟩
    simp only [List.getD_cons_zero]
    first
      | (constructor <;> assumption)
      | (constructor <;> first | assumption | rfl)
      | skip
end Go.Proofs.YtomheegfobcijaaGreatDoor.Am

/- The abstract machine is right, first part: the operations that neither read nor write cells. -/
namespace Go.Proofs.YtomheegfobcijaaGreatDoor.Am
set_option linter.unusedVariables false
set_option linter.unusedSimpArgs false
open Go.RowKit

section
variable {P : Program} {M : Mem} {w : World}

structure CellsRep (P : Program) (M : Mem) (cs : List AV) (vs : Array Value) : Prop where
  size : vs.size = cs.length
  at_ : ∀ i, i < cs.length → Rep P M (cs.getD i .undef) (vs.getD i undef)
  one : ∀ i, i < cs.length → (vs.getD i undef).oneCell' = true

theorem cells_of {x : AV} {v : Value} (r : Rep P M x v) (h : 0 < x.cells.length) : CellsRep P M x.cells v.cells :=
  ⟨r.cells_size h, fun i hi => (r.cells_at i hi).1, fun i hi => (r.cells_at i hi).2⟩

theorem run_underlying' {t : TypeId} {d : TypeDesc} (h : P.underlying t = some d) : (underlying t).run P w = .ok d w := run_underlying h w
theorem run_sizeT {t : TypeId} {n : Nat} (h : sizeT P t = some n) : (sizeOf t).run P w = .ok n w := by
  unfold sizeT at h
  cases hi : P.info? t with
  | none => simp [hi] at h
  | some i =>
    simp only [hi, Option.map_some, Option.some.injEq] at h
    simp only [sizeOf, typeInfo, Sem.run_bind, run_program, Result.andThen_ok, hi, Sem.run_pure, h]
theorem run_isAggT {t : TypeId} {b : Bool} (h : isAggT P t = some b) : (isAgg t).run P w = .ok b w := by
  unfold isAggT at h
  unfold isAgg
  cases hu : P.underlying t with
  | none => simp [hu] at h
  | some d =>
    simp only [Sem.run_bind, run_underlying' hu, Result.andThen_ok]
    rw [hu] at h
    cases d <;> simp at h <;> subst h <;> rfl
theorem run_typeInfo' {t : TypeId} {i : TypeInfo} (h : P.info? t = some i) : (typeInfo t).run P w = .ok i w := by
  simp only [typeInfo, Sem.run_bind, run_program, Result.andThen_ok, h, Sem.run_pure]

theorem getD_extract (vs : Array Value) (i j k : Nat) (h : i + k < j) (hj : j ≤ vs.size) : (vs.extract i j).getD k undef = vs.getD (i + k) undef := by
  simp only [Array.getD_eq_getD_getElem?, Array.getElem?_extract]
  rw [if_pos (by omega)]
theorem getD_drop_take (cs : List AV) (i n k : Nat) (h : k < n) : ((cs.drop i).take n).getD k .undef = cs.getD (i + k) .undef := by
  simp only [List.getD_eq_getElem?_getD, List.getElem?_take, h, if_true, List.getElem?_drop]

theorem CellsRep.sub {cs : List AV} {vs : Array Value} (h : CellsRep P M cs vs) (off n : Nat) (hn : off + n ≤ cs.length) :
    CellsRep P M ((cs.drop off).take n) (vs.extract off (off + n)) := by
  have hl : ((cs.drop off).take n).length = n := by simp; omega
  refine ⟨by rw [hl, Array.size_extract, h.size]; omega, ?_, ?_⟩ <;> intro i hi <;> rw [hl] at hi <;> rw [getD_extract _ _ _ _ (by omega) (by rw [h.size]; exact hn)]
  · rw [getD_drop_take _ _ _ _ hi]; exact h.at_ _ (by omega)
  · exact h.one _ (by omega)

theorem part_sound {t : TypeId} {cs : List AV} {vs : Array Value} {off : Nat} {x : AV} (h : partA P t cs off = some x) (hc : CellsRep P M cs vs) :
    ∃ v, (part t vs off).run P w = .ok v w ∧ Rep P M x v := by
  unfold partA at h
  split at h
  · rename_i n hg hn
    split at h
    · rename_i hle
      injection h with h; subst h
      refine ⟨.agg (vs.extract off (off + n)), ?_, ?_⟩
      · simp only [part, Sem.run_bind, run_isAggT hg, Result.andThen_ok, if_true, run_sizeT hn, Sem.run_pure]
      · have := hc.sub off n hle
        exact .agg _ _ this.size this.at_ this.one
    · cases h
  · rename_i n hg hn
    have hlt : off < cs.length := by
      rcases Nat.lt_or_ge off cs.length with hlt | hge
      · exact hlt
      · rw [List.getElem?_eq_none hge] at h; cases h
    have hv : off < vs.size := by rw [hc.size]; exact hlt
    refine ⟨vs.getD off undef, ?_, ?_⟩
    · simp only [part, Sem.run_bind, run_isAggT hg, Result.andThen_ok, Bool.false_eq_true, if_false, Array.getElem?_eq_getElem hv, Sem.run_pure, Array.getD_eq_getD_getElem?, Option.getD_some]
    · have := hc.at_ off hlt
      rw [List.getD_eq_getElem?_getD, h, Option.getD_some] at this
      exact this
  · cases h

theorem agg_inv {cs : List AV} {v : Value} (r : Rep P M (.agg cs) v) : ∃ vs, v = .agg vs ∧ CellsRep P M cs vs := by
  cases r with
  | agg _ vs hl h h1 => exact ⟨vs, rfl, ⟨hl, h, h1⟩⟩
theorem int_inv {k : IntKind} {n : Int} {v : Value} (r : Rep P M (.int k n) v) : v = .int k n := by cases r; rfl
theorem bool_inv {b : Bool} {v : Value} (r : Rep P M (.bool b) v) : v = .bool b := by cases r; rfl
theorem str_inv {s : List UInt8} {v : Value} (r : Rep P M (.str s) v) : v = .string ⟨⟨s⟩⟩ := by cases r; rfl

/-! ### equality -/
theorem bytes_beq (a b : List UInt8) : ((⟨⟨a⟩⟩ : ByteArray) == ⟨⟨b⟩⟩) = (a == b) := by
  rw [Bool.eq_iff_iff]
  show ((⟨a⟩ : Array UInt8) == ⟨b⟩) = true ↔ _
  simp
theorem eqFields_sound {f : TypeId → AV → AV → Option Bool} {g : TypeId → Value → Value → Sem Bool}
    (hf : ∀ t x y v u r, f t x y = some r → Rep P M x v → Rep P M y u → (g t v u).run P w = .ok r w) :
    ∀ (fs : List Field) (xs ys : List AV) (vs us : Array Value) (r : Bool), eqFields f P fs xs ys = some r → CellsRep P M xs vs → CellsRep P M ys us →
      ((do
        for fd in fs do
          if fd.name ≠ "_" then
            if !(← g fd.type (← part fd.type vs fd.offset) (← part fd.type us fd.offset)) then return false
        pure true) : Sem Bool).run P w = .ok r w := by
  intro fs
  induction fs with
  | nil => intro xs ys vs us r h _ _; simp [eqFields] at h; subst h; rfl
  | cons fd rest ih =>
    intro xs ys vs us r h hx hy
    have ih' := ih xs ys vs us r
    simp only [eqFields] at h
    by_cases hn : fd.name = "_"
    · rw [if_pos hn] at h
      have := ih' h hx hy
      simpa [hn] using this
    · rw [if_neg hn] at h
      split at h
      · rename_i x y hpx hpy
        obtain ⟨v, hv, rv⟩ := part_sound (w := w) hpx hx
        obtain ⟨u, hu, ru⟩ := part_sound (w := w) hpy hy
        split at h
        · rename_i he
          have h1 := hf _ _ _ _ _ _ he rv ru
          have := ih' h hx hy
          simp [hn, hv, hu, h1]
          simpa using this
        · rename_i he
          have h1 := hf _ _ _ _ _ _ he rv ru
          injection h with h; subst h
          simp [hn, hv, hu, h1]
        · cases h
      · cases h

theorem eqElems_sound {f : TypeId → AV → AV → Option Bool} {g : TypeId → Value → Value → Sem Bool}
    (hf : ∀ t x y v u r, f t x y = some r → Rep P M x v → Rep P M y u → (g t v u).run P w = .ok r w) {e : TypeId} {n : Nat} {xs ys : List AV} {vs us : Array Value} (hx : CellsRep P M xs vs) (hy : CellsRep P M ys us) :
    ∀ (k i : Nat) (r : Bool), eqElems f P e n xs ys i k = some r →
      ((do
        for j in List.range' i k do
          if !(← g e (← part e vs (j * n)) (← part e us (j * n))) then return false
        pure true) : Sem Bool).run P w = .ok r w := by
  intro k
  induction k with
  | zero => intro i r h; simp [eqElems] at h; subst h; rfl
  | succ k ih =>
    intro i r h
    have ih' := ih (i + 1) r
    simp only [eqElems] at h
    split at h
    · rename_i x y hpx hpy
      obtain ⟨v, hv, rv⟩ := part_sound (w := w) hpx hx
      obtain ⟨u, hu, ru⟩ := part_sound (w := w) hpy hy
      split at h
      · rename_i he
        have h1 := hf _ _ _ _ _ _ he rv ru
        have := ih' h
        simp [List.range'_succ, hv, hu, h1]
        simpa using this
      · rename_i he
        have h1 := hf _ _ _ _ _ _ he rv ru
        injection h with h; subst h
        simp [List.range'_succ, hv, hu, h1]
      · cases h
    · cases h

set_option maxHeartbeats 1000000 in
theorem eqIn_sound : ∀ (d : Nat) (t : TypeId) (x y : AV) (v u : Value) (r : Bool), eqIn P d t x y = some r → Rep P M x v → Rep P M y u → (Op.equalIn d t v u).run P w = .ok r w := by
  intro d
  induction d with
  | zero => intro t x y v u r h; simp [eqIn] at h
  | succ d ih =>
    intro t x y v u r h rx ry
    unfold eqIn at h
    unfold Op.equalIn
    split at h
    case h_1 hu =>
      split at h
      · cases rx; cases ry; injection h with h; subst h; simp [run_underlying' hu]
      · cases h
    case h_2 hu =>
      split at h
      · cases rx; cases ry
        split at h
        · rename_i hk; injection h with h; subst h; subst hk; simp [run_underlying' hu]
        · cases h
      · cases h
    case h_3 hu =>
      split at h
      · cases rx; cases ry; injection h with h; subst h; simp only [Sem.run_bind, run_underlying' hu, Result.andThen_ok, Sem.run_pure, bytes_beq]
      · cases h
    case h_4 hu =>
      split at h <;> first
        | (cases h; done)
        | (cases rx; cases ry; injection h with h; subst h; simp [run_underlying' hu]; done)
    case h_5 hu =>
      split at h
      · cases rx; cases ry; injection h with h; subst h; simp [run_underlying' hu]
      · cases ry
        cases rx with
        | lst e xs sp a cap sz b off c hsz hz hall hcap ha hc hr h1 =>
          obtain rfl := ha (by simp)
          injection h with h; subst h
          simp [run_underlying' hu]
      · cases rx
        cases ry with
        | lst e xs sp a cap sz b off c hsz hz hall hcap ha hc hr h1 =>
          obtain rfl := ha (by simp)
          injection h with h; subst h
          simp [run_underlying' hu]
      · cases h
    case h_6 hu =>
      split at h <;> first
        | (cases h; done)
        | (cases rx; cases ry; injection h with h; subst h; simp [run_underlying' hu]; done)
    case h_7 hu =>
      split at h <;> first
        | (cases h; done)
        | (cases rx; cases ry; injection h with h; subst h; simp [run_underlying' hu]; done)
    case h_8 hu =>
      split at h
      · cases rx; cases ry; injection h with h; subst h; simp [run_underlying' hu]
      · cases rx; cases ry; injection h with h; subst h; simp [run_underlying' hu]
      · cases rx; cases ry; injection h with h; subst h; simp [run_underlying' hu]
      · rename_i t' a t'' b
        cases rx with
        | iface _ _ v' rv =>
        cases ry with
        | iface _ _ u' ru =>
        cases hb : Nat.beq t' t'' with
        | false =>
          rw [hb] at h
          injection h with h; subst h
          have hne : t' ≠ t'' := by rintro rfl; rw [Nat.beq_refl] at hb; cases hb
          simp only [Sem.run_bind, run_underlying' hu, Result.andThen_ok, if_pos hne, Sem.run_pure]
        | true =>
          rw [hb] at h
          obtain rfl := Nat.eq_of_beq_eq_true hb
          simp only [cond_true] at h
          split at h
          · rename_i i hi
            cases hc : i.comparable with
            | false => rw [hc] at h; cases h
            | true =>
              rw [hc] at h
              have := ih t' a b v' u' r h rv ru
              simp only [Sem.run_bind, run_underlying' hu, Result.andThen_ok, ne_eq, not_true_eq_false, if_false, run_typeInfo' hi, hc, Bool.not_true, Bool.false_eq_true, this]
          · cases h
      · cases h
    case h_9 fields hu =>
      split at h
      · rename_i xs ys
        split at h
        · cases h
        · rename_i hs
          obtain ⟨vs, rfl, hvs⟩ := agg_inv rx
          obtain ⟨us, rfl, hus⟩ := agg_inv ry
          have hs' : P.stoodInHeld t = false := by simpa using hs
          have := eqFields_sound (w := w) (g := Op.equalIn d) (fun t x y v u r => ih t x y v u r) fields.toList xs ys vs us r h hvs hus
          simp only [Sem.run_bind, run_underlying' hu, Result.andThen_ok, run_program, hs', Bool.false_eq_true, if_false, Sem.run_pure]
          rw [← Sem.run_bind]
          simpa using this
      · cases h
    case h_10 len elem hu =>
      split at h
      · rename_i xs ys
        split at h
        · rename_i n hn
          obtain ⟨vs, rfl, hvs⟩ := agg_inv rx
          obtain ⟨us, rfl, hus⟩ := agg_inv ry
          have := eqElems_sound (w := w) (g := Op.equalIn d) (fun t x y v u r => ih t x y v u r) (n := n) hvs hus len 0 r h
          simp only [Sem.run_bind, run_underlying' hu, Result.andThen_ok, run_sizeT hn]
          rw [← Sem.run_bind]
          simpa using this
        · cases h
      · cases h
    case h_11 => cases h

end
end Go.Proofs.YtomheegfobcijaaGreatDoor.Am

/- The abstract machine is right, second part: each operation that neither reads nor writes cells. -/
namespace Go.Proofs.YtomheegfobcijaaGreatDoor.Am
set_option linter.unusedVariables false
set_option linter.unusedSimpArgs false
open Go.RowKit

section
variable {P : Program} {M : Mem} {w : World}

theorem add_addr (b off n : Nat) : (⟨b, off, none⟩ : Addr).add n = ⟨b, off + n, none⟩ := by
  unfold Addr.add; split <;> simp_all

theorem flat_len {sz : Nat} : ∀ (l : List AV), (∀ x ∈ l, x.cells.length = sz) → (flat l).length = l.length * sz := by
  intro l
  induction l with
  | nil => intro _; simp [flat]
  | cons x r ih =>
    intro h
    have h1 := h x (by simp)
    have h2 := ih (fun y hy => h y (by simp [hy]))
    simp only [flat, List.flatMap_cons, List.length_append, List.length_cons] at *
    rw [h1, h2, Nat.add_mul]; omega
theorem flat_at {sz : Nat} : ∀ (l : List AV), (∀ x ∈ l, x.cells.length = sz) → ∀ (i j : Nat) (x : AV), l[i]? = some x → j < sz → (flat l).getD (i * sz + j) .undef = x.cells.getD j .undef := by
  intro l
  induction l with
  | nil => intro _ i j x hi; simp at hi
  | cons y r ih =>
    intro h i j x hi hj
    have h1 := h y (by simp)
    have hr : ∀ x ∈ r, x.cells.length = sz := fun z hz => h z (by simp [hz])
    cases i with
    | zero =>
      simp only [List.getElem?_cons_zero, Option.some.injEq] at hi; subst hi
      simp only [flat, List.flatMap_cons, Nat.zero_mul, Nat.zero_add, List.getD_eq_getElem?_getD]
      rw [List.getElem?_append_left (by omega)]
    | succ i =>
      simp only [List.getElem?_cons_succ] at hi
      have := ih hr i j x hi hj
      simp only [flat, List.flatMap_cons, List.getD_eq_getElem?_getD] at *
      rw [List.getElem?_append_right (by rw [h1, Nat.add_mul]; omega), h1]
      rw [← this]
      congr 2
      rw [Nat.add_mul]; omega

theorem idx_lt {i n sz j : Nat} (h : i < n) (hj : j < sz) : i * sz + j < n * sz := by
  have : (i + 1) * sz ≤ n * sz := Nat.mul_le_mul_right _ h
  rw [Nat.add_mul] at this; omega

/-- An element's own cells. -/
theorem lst_elem {e : TypeId} {xs sp : List AV} {v : Value} (r : Rep P M (.lst e xs sp) v) (i : Nat) (x : AV) (hx : (xs ++ sp)[i]? = some x) :
    ∃ b off cap sz, sizeT P e = some sz ∧ 0 < sz ∧ v = .slice (some ⟨b, off, none⟩) xs.length cap ∧ Rep P M (.ept x.cells 0) (.pointer (some ⟨b, off + i * sz, none⟩)) ∧ x.cells.length = sz := by
  cases r with
  | lst _ _ _ a cap sz b off c hsz hz hall hcap ha hc hr h1 =>
    have hne : xs ++ sp ≠ [] := by intro e; rw [e] at hx; simp at hx
    obtain rfl := ha hne
    have hlt : i < (xs ++ sp).length := by
      rcases Nat.lt_or_ge i (xs ++ sp).length with h | h
      · exact h
      · rw [List.getElem?_eq_none h] at hx; cases hx
    have hxl : x.cells.length = sz := hall x (List.mem_of_getElem? hx)
    have hfl := flat_len _ hall
    refine ⟨b, off, cap, sz, hsz, hz, rfl, ?_, hxl⟩
    have := Rep.ept (P := P) (M := M) x.cells 0 b (off + i * sz) (fun j => c (i * sz + j)) ?_ ?_ ?_
    · simpa using this
    · intro j hj
      have := hc (i * sz + j) (by rw [hfl]; exact idx_lt hlt (by omega))
      rw [← Nat.add_assoc] at this; exact this
    · intro j hj
      have := hr (i * sz + j) (by rw [hfl]; exact idx_lt hlt (by omega))
      rw [flat_at _ hall i j x hx (by omega)] at this; exact this
    · intro j hj
      exact h1 (i * sz + j) (by rw [hfl]; exact idx_lt hlt (by omega))

/-! ### cuts -/
theorem slice_bound {x : AV} {v : Value} {i : Nat} {y top : Nat} {code : BoundsCode} (r : Rep P M x v) (h : boundA (some x) 0 top = some i) (ht : top ≤ y) : (Instr.sliceBound v y code).run P w = .ok i w ∧ i ≤ top := by
  unfold boundA at h
  split at h
  · rename_i h'; cases h'
  · rename_i h'
    injection h' with h'
    subst h'
    cases r
    split at h
    · rename_i hi
      injection h with h; subst h
      refine ⟨?_, by omega⟩
      simp only [Instr.sliceBound, asIntOf, Sem.run_bind, Sem.run_pure, Result.andThen_ok]
      rw [if_pos (by omega)]; rfl
    · cases h
  · cases h
theorem boundA_dflt {x : AV} {d d' top : Nat} : boundA (some x) d top = boundA (some x) d' top := by unfold boundA; cases x <;> rfl

def optRep (P : Program) (M : Mem) : Option AV → Option Value → Prop
  | none, none => True
  | some x, some v => Rep P M x v
  | _, _ => False

theorem bounds_sound {lo hi mx : Option AV} {lo' hi' mx' : Option Value} (rl : optRep P M lo lo') (rh : optRep P M hi hi') (rm : optRep P M mx mx') {len cap kn m h l : Nat} {isS : Bool}
    (hm : boundA mx kn kn = some m) (hh : boundA hi len m = some h) (hl : boundA lo 0 h = some l) (hk : kn ≤ cap) (hlen : len ≤ kn) (hmh : mx.isSome → hi.isSome) :
    ∃ m', (Instr.sliceBounds isS len cap lo' hi' mx').run P w = .ok (l, h, m') w ∧ l ≤ h ∧ h ≤ m ∧ m ≤ m' ∧ m' ≤ cap ∧ m ≤ kn := by
  unfold Instr.sliceBounds
  cases mx with
  | none =>
    cases mx' with
    | some _ => exact rm.elim
    | none =>
      simp only [boundA, Option.some.injEq] at hm; subst hm
      cases hi with
      | none =>
        cases hi' with
        | some _ => exact rh.elim
        | none =>
          simp only [boundA, Option.some.injEq] at hh; subst hh
          cases lo with
          | none =>
            cases lo' with
            | some _ => exact rl.elim
            | none => simp only [boundA, Option.some.injEq] at hl; subst hl; exact ⟨cap, by simp, by omega, by omega, by omega, by omega, by omega⟩
          | some x =>
            cases lo' with
            | none => exact rl.elim
            | some v =>
              have hb := slice_bound (w := w) (code := if (Option.none : Option Value).isSome then .slice3C else .sliceB) rl hl (Nat.le_refl _)
              exact ⟨cap, by simp [hb.1] at *; simp [hb.1], by omega, by omega, by omega, by omega, by omega⟩
      | some y =>
        cases hi' with
        | none => exact rh.elim
        | some v =>
          rw [boundA_dflt (d' := 0)] at hh
          have hb := slice_bound (w := w) (y := cap) (code := if isS then .sliceAcap else .sliceAlen) rh hh hk
          cases lo with
          | none =>
            cases lo' with
            | some _ => exact rl.elim
            | none => simp only [boundA, Option.some.injEq] at hl; subst hl; exact ⟨cap, by simp [hb.1], by omega, by omega, by omega, by omega, by omega⟩
          | some x =>
            cases lo' with
            | none => exact rl.elim
            | some v' =>
              have hb2 := slice_bound (w := w) (code := .sliceB) rl hl (Nat.le_refl _)
              exact ⟨cap, by simp [hb.1, hb2.1], by omega, by omega, by omega, by omega, by omega⟩
  | some z =>
    cases mx' with
    | none => exact rm.elim
    | some vz =>
      rw [boundA_dflt (d' := 0)] at hm
      have hb0 := slice_bound (w := w) (y := cap) (code := if isS then .slice3Acap else .slice3Alen) rm hm hk
      cases hi with
      | none => simp at hmh
      | some y =>
        cases hi' with
        | none => exact rh.elim
        | some v =>
          rw [boundA_dflt (d' := 0)] at hh
          have hb := slice_bound (w := w) (y := m) (code := .slice3B) rh hh (Nat.le_refl _)
          cases lo with
          | none =>
            cases lo' with
            | some _ => exact rl.elim
            | none => simp only [boundA, Option.some.injEq] at hl; subst hl; exact ⟨m, by simp [hb0.1, hb.1], by omega, by omega, by omega, by omega, by omega⟩
          | some x =>
            cases lo' with
            | none => exact rl.elim
            | some v' =>
              have hb2 := slice_bound (w := w) (code := .slice3C) rl hl (Nat.le_refl _)
              exact ⟨m, by simp [hb0.1, hb.1, hb2.1], by omega, by omega, by omega, by omega, by omega⟩

theorem flat_append (xs ys : List AV) : flat (xs ++ ys) = flat xs ++ flat ys := by simp [flat]

/-- A part of a list. -/
theorem lst_sub {e : TypeId} {xs sp : List AV} {a : Option Addr} {cap sz b off : Nat} {c : Nat → Value} (hsz : sizeT P e = some sz) (hz : 0 < sz)
      (hall : ∀ x ∈ xs ++ sp, x.cells.length = sz) (hcap : xs.length + sp.length ≤ cap) (ha : xs ++ sp ≠ [] → a = some ⟨b, off, none⟩)
      (hc : ∀ j, j < (flat (xs ++ sp)).length → M.pm b (off + j) = some (c j))
      (hr : ∀ j, j < (flat (xs ++ sp)).length → Rep P M ((flat (xs ++ sp)).getD j .undef) (c j))
      (h1 : ∀ j, j < (flat (xs ++ sp)).length → (c j).oneCell' = true) (l h m m' : Nat) (hlh : l ≤ h) (hhm : h ≤ m) (hm : m ≤ xs.length + sp.length) (hmm : m ≤ m') (a' : Option Addr) (ha' : l < m → a' = some ⟨b, off + l * sz, none⟩) :
      Rep P M (.lst e (((xs ++ sp).take h).drop l) (((xs ++ sp).take m).drop h)) (.slice a' (h - l) (m' - l)) := by
  have hlen : (((xs ++ sp).take h).drop l).length = h - l := by simp; omega
  have hlen2 : (((xs ++ sp).take m).drop h).length = m - h := by simp; omega
  have hcat : ((xs ++ sp).take h).drop l ++ ((xs ++ sp).take m).drop h = ((xs ++ sp).take m).drop l := by
    apply List.ext_getElem?
    intro i
    rw [List.getElem?_append, hlen]
    by_cases hi : i < h - l
    · rw [if_pos hi, List.getElem?_drop, List.getElem?_drop, List.getElem?_take, List.getElem?_take, if_pos (by omega), if_pos (by omega)]
    · rw [if_neg hi, List.getElem?_drop, List.getElem?_drop]
      congr 1
      omega
  have hfl := flat_len _ hall
  have hall' : ∀ x ∈ ((xs ++ sp).take m).drop l, x.cells.length = sz := fun x hx => hall x (List.mem_of_mem_take (List.mem_of_mem_drop hx))
  have hfl' := flat_len _ hall'
  have hl3 : (((xs ++ sp).take m).drop l).length = m - l := by simp; omega
  have hget : ∀ j, j < (m - l) * sz → (flat (((xs ++ sp).take m).drop l)).getD j .undef = (flat (xs ++ sp)).getD (l * sz + j) .undef := by
    intro j hj
    have hq : j / sz < m - l := by rw [Nat.div_lt_iff_lt_mul hz]; exact hj
    have hmod := Nat.mod_lt j hz
    have hjj : j = j / sz * sz + j % sz := by rw [Nat.mul_comm]; exact (Nat.div_add_mod j sz).symm
    have hx1 : (xs ++ sp)[l + j / sz]? = some ((xs ++ sp)[l + j / sz]'(by simp; omega)) := List.getElem?_eq_getElem _
    have hx2 : (((xs ++ sp).take m).drop l)[j / sz]? = some ((xs ++ sp)[l + j / sz]'(by simp; omega)) := by
      rw [List.getElem?_drop, List.getElem?_take, if_pos (by omega)]; exact hx1
    have e1 := flat_at _ hall' (j / sz) (j % sz) _ hx2 hmod
    have e2 := flat_at _ hall (l + j / sz) (j % sz) _ hx1 hmod
    rw [← hjj] at e1
    rw [e1, ← e2]
    congr 1
    rw [Nat.add_mul]; omega
  have hbound : ∀ j, j < (m - l) * sz → l * sz + j < (flat (xs ++ sp)).length := by
    intro j hj
    rw [hfl, List.length_append]
    have : l * sz + (m - l) * sz = m * sz := by rw [← Nat.add_mul]; congr 1; omega
    have h2 : m * sz ≤ (xs.length + sp.length) * sz := Nat.mul_le_mul_right _ hm
    omega
  have key := Rep.lst (P := P) (M := M) e (((xs ++ sp).take h).drop l) (((xs ++ sp).take m).drop h) a' (m' - l) sz b (off + l * sz) (fun j => c (l * sz + j)) hsz hz
    (by rw [hcat]; exact hall') (by rw [hlen, hlen2]; omega)
    (by
      intro hne
      refine ha' ?_
      rw [hcat] at hne
      rcases Nat.lt_or_ge l m with h' | h'
      · exact h'
      · exact absurd (List.eq_nil_of_length_eq_zero (by rw [hl3]; omega)) hne)
    (by rw [hcat, hfl', hl3]; intro j hj; have := hc _ (hbound j hj); rw [← Nat.add_assoc] at this; exact this)
    (by rw [hcat, hfl', hl3]; intro j hj; rw [hget j hj]; exact hr _ (hbound j hj))
    (by rw [hcat, hfl', hl3]; intro j hj; exact h1 _ (hbound j hj))
  rw [hlen] at key
  exact key

end
end Go.Proofs.YtomheegfobcijaaGreatDoor.Am

/- The abstract machine is right, third part: whatever operation neither reads nor writes cells. -/
namespace Go.Proofs.YtomheegfobcijaaGreatDoor.Am
set_option linter.unusedVariables false
set_option linter.unusedSimpArgs false
open Go.RowKit

section
variable {P : Program} {M : Mem} {w : World}

/-! ### comparisons -/
def plainV : Value → Bool
  | .int _ _ => false
  | .float _ _ => false
  | .complex _ _ _ => false
  | .string _ => false
  | _ => true
theorem plain_rep {x : AV} {v : Value} (r : Rep P M x v) (h : plainA x = true) : plainV v = true := by
  cases r <;> simp [plainA] at h <;> rfl
theorem binOp_eql {t : TypeId} {v u : Value} (h : plainV v = true) : Go.binOp .eql t v u = (do pure (.bool (← Op.equal t v u))) := by
  cases v <;> first
    | (simp [plainV] at h; done)
    | rfl
    | (cases u <;> rfl)
theorem binOp_neq {t : TypeId} {v u : Value} (h : plainV v = true) : Go.binOp .neq t v u = (do pure (.bool (!(← Op.equal t v u)))) := by
  cases v <;> first
    | (simp [plainV] at h; done)
    | rfl
    | (cases u <;> rfl)
theorem guard_int {op : BinOp} {t : TypeId} {x y : Operand} {k k' : IntKind} {m n : Int} : (eqGuard op t x y (.int k m) (.int k' n)).run P w = .ok () w := by
  unfold eqGuard; cases op <;> rfl
theorem guard_str {op : BinOp} {t : TypeId} {x y : Operand} {m n : ByteArray} : (eqGuard op t x y (.string m) (.string n)).run P w = .ok () w := by
  unfold eqGuard; cases op <;> rfl
/-- It stands for anything. -/
def isAny : AV → Bool
  | .undef => true
  | .rcd _ _ _ _ _ _ => true
  | _ => false
theorem guard_eq {op : BinOp} (hop : op = .eql ∨ op = .neq) {t : TypeId} {x y : Operand} {a b : AV} {v u : Value} (ra : Rep P M a v) (rb : Rep P M b u) (hp : plainA a = true) (h : eqGuardA P t x y a b = true) (hb : isAny b = false) :
    (eqGuard op t x y v u).run P w = .ok () w := by
  have key : ∀ op', (op' = BinOp.eql ∨ op' = BinOp.neq) → (eqGuard op' t x y v u).run P w = .ok () w := by
    intro op' ho
    have hm : (!(match op' with | .eql => true | .neq => true | _ => false)) = false := by rcases ho with rfl | rfl <;> rfl
    cases ra <;> simp [plainA] at hp
    case nili =>
      cases rb <;> first
        | (cases hb; done)
        | (unfold eqGuard; rcases ho with rfl | rfl <;> rfl)
        | skip
      simp only [eqGuardA, Bool.or_eq_true] at h
      unfold eqGuard
      rcases ho with rfl | rfl <;> rcases h with h | h <;> (cases x <;> cases y <;> simp [isConst] at h <;> simp)
    case agg cs vs hl hh h1 =>
      cases rb <;> first
        | (cases hb; done)
        | (unfold eqGuard; rcases ho with rfl | rfl <;> rfl)
        | skip
      simp only [eqGuardA, Bool.not_eq_true'] at h
      unfold eqGuard
      rcases ho with rfl | rfl <;> simp [h]
    all_goals
      cases rb <;> first
        | (cases hb; done)
        | (unfold eqGuard; rcases ho with rfl | rfl <;> rfl)
  exact key op hop

theorem eqIn_any {d : Nat} {t : TypeId} {x b : AV} {r : Bool} (h : eqIn P d t x b = some r) : isAny b = false := by
  cases b with
  | undef =>
    refine absurd h ?_
    cases d with
    | zero => simp [eqIn]
    | succ d => unfold eqIn; split <;> (try split) <;> simp_all
  | rcd v n l p a b =>
    refine absurd h ?_
    cases d with
    | zero => simp [eqIn]
    | succ d => unfold eqIn; split <;> (try split) <;> simp_all
  | _ => rfl

theorem intOp_sound {op : BinOp} {k : IntKind} {m n : Int} {r : AV} (h : intOp op k m n = some r) (t : TypeId) : ∃ v, (Go.binOp op t (.int k m) (.int k n)).run P w = .ok v w ∧ Rep P M r v := by
  cases op <;> simp only [intOp] at h
  case quo => split at h; cases h; rename_i hz; injection h with h; subst h; exact ⟨_, by simp [Go.binOp, Op.intDiv, hz], .int _ _⟩
  case rem => split at h; cases h; rename_i hz; injection h with h; subst h; exact ⟨_, by simp [Go.binOp, Op.intDiv, hz], .int _ _⟩
  case shl => cases h
  case shr => cases h
  all_goals
    injection h with h; subst h
    first
      | (refine ⟨_, ?_, .bool _⟩; simp only [Go.binOp, ne_eq, not_true_eq_false, if_false]; rfl)
      | (refine ⟨_, ?_, .int _ _⟩; simp only [Go.binOp, ne_eq, not_true_eq_false, if_false]; rfl)

theorem bytes_toList (l : List UInt8) : (⟨⟨l⟩⟩ : ByteArray).toList = l := ByteArray.toList_eq ⟨⟨l⟩⟩

theorem strOp_sound {op : BinOp} {m n : List UInt8} {r : AV} (h : strOp op m n = some r) (t : TypeId) : ∃ v, (Go.binOp op t (.string ⟨⟨m⟩⟩) (.string ⟨⟨n⟩⟩)).run P w = .ok v w ∧ Rep P M r v := by
  have e : Go.binOp op t (.string ⟨⟨m⟩⟩) (.string ⟨⟨n⟩⟩) = Op.stringOp op ⟨⟨m⟩⟩ ⟨⟨n⟩⟩ := by cases op <;> rfl
  rw [e]
  cases op <;> simp only [strOp] at h <;> try (cases h; done)
  case add =>
    split at h
    · rename_i hl
      injection h with h; subst h
      refine ⟨.string ⟨⟨m ++ n⟩⟩, ?_, .str _⟩
      have h1 : ¬ (((ByteArray.size ⟨⟨m⟩⟩ + ByteArray.size ⟨⟨n⟩⟩ : Nat) : Int) > IntKind.i64.max) := by
        have : IntKind.i64.max = 9223372036854775807 := by decide
        rw [this]
        simp only [ByteArray.size, List.size_toArray]
        omega
      have h2 : (⟨⟨m⟩⟩ ++ ⟨⟨n⟩⟩ : ByteArray) = ⟨⟨m ++ n⟩⟩ := by
        apply ByteArray.ext
        simp
      simp only [Op.stringOp, if_neg h1, h2, Sem.run_pure]
    · cases h
  all_goals
    injection h with h; subst h
    exact ⟨_, by simp only [Op.stringOp, bytes_toList, Sem.run_pure], .bool _⟩

theorem binOp_sound {op : BinOp} {t yt : TypeId} {x y : Operand} {a b r : AV} {v u : Value} (h : binOpA P op t x y a b = some r) (ra : Rep P M a v) (rb : Rep P M b u) :
    ∃ z, ((do eqGuard op t x y v u; Go.binOp op t v u : Sem Value)).run P w = .ok z w ∧ Rep P M r z := by
  unfold binOpA at h
  split at h
  · rename_i k m k' n
    obtain rfl := int_inv ra
    obtain rfl := int_inv rb
    simp only [Sem.run_bind, guard_int, Result.andThen_ok]
    have sh : ∀ op', (op' = BinOp.shl ∨ op' = BinOp.shr) → shiftOp op' k m n = some r → ∃ z, (Go.binOp op' t (.int k m) (.int k' n)).run P w = .ok z w ∧ Rep P M r z := by
      intro op' ho hs
      unfold shiftOp at hs
      split at hs
      · cases hs
      · rename_i hn
        rcases ho with rfl | rfl <;> simp only at hs <;> injection hs with hs <;> subst hs <;> exact ⟨_, by simp [Go.binOp, Op.shift, hn], .int _ _⟩
    split at h
    · exact sh _ (.inl rfl) h
    · exact sh _ (.inr rfl) h
    · split at h
      · rename_i hk; subst hk; exact intOp_sound h t
      · cases h
  · obtain rfl := str_inv ra
    obtain rfl := str_inv rb
    simp only [Sem.run_bind, guard_str, Result.andThen_ok]
    exact strOp_sound h t
  · split at h
    · split at h
      · rename_i hg
        simp only [Bool.and_eq_true] at hg
        cases he : eqIn P 10000 t a b with
        | none => simp [he] at h
        | some q =>
          simp only [he, Option.map_some, Option.some.injEq] at h; subst h
          have hb : isAny b = false := eqIn_any he
          refine ⟨.bool q, ?_, .bool _⟩
          simp only [Sem.run_bind, guard_eq (.inl rfl) ra rb hg.1 hg.2 hb, Result.andThen_ok, binOp_eql (plain_rep ra hg.1), Op.equal]
          rw [show Op.maxDepth = 10000 from rfl, eqIn_sound 10000 t a b v u q he ra rb]
          rfl
      · cases h
    · split at h
      · rename_i hg
        simp only [Bool.and_eq_true] at hg
        cases he : eqIn P 10000 t a b with
        | none => simp [he] at h
        | some q =>
          simp only [he, Option.map_some, Option.some.injEq] at h; subst h
          have hb : isAny b = false := eqIn_any he
          refine ⟨.bool !q, ?_, .bool _⟩
          simp only [Sem.run_bind, guard_eq (.inr rfl) ra rb hg.1 hg.2 hb, Result.andThen_ok, binOp_neq (plain_rep ra hg.1), Op.equal]
          rw [show Op.maxDepth = 10000 from rfl, eqIn_sound 10000 t a b v u q he ra rb]
          rfl
      · cases h
    · cases h

theorem unOp_sound {op : UnOp} {x r : AV} {v : Value} (h : unOpA op x = some r) (rx : Rep P M x v) : ∃ z, (Op.unary op v).run P w = .ok z w ∧ Rep P M r z := by
  unfold unOpA at h
  split at h
  · obtain rfl := int_inv rx; injection h with h; subst h; exact ⟨_, by simp [Op.unary, Op.intArith], .int _ _⟩
  · obtain rfl := int_inv rx
    simp only [intOp] at h
    injection h with h; subst h
    exact ⟨_, rfl, .int _ _⟩
  · obtain rfl := bool_inv rx; injection h with h; subst h; exact ⟨_, by simp [Op.unary], .bool _⟩
  · cases h

theorem conv_sound {src dst : TypeId} {x r : AV} {v : Value} (h : convA P src dst x = some r) (rx : Rep P M x v) : ∃ z, (Go.convert src dst v).run P w = .ok z w ∧ Rep P M r z := by
  unfold convA at h
  split at h
  · rename_i d k k' n hs hd
    obtain rfl := int_inv rx
    injection h with h; subst h
    exact ⟨_, by simp [Go.convert, run_underlying' hs, run_underlying' hd, Conv.intToInt], .int _ _⟩
  · rename_i d s hs hd
    obtain rfl := str_inv rx
    injection h with h; subst h
    refine ⟨.string ⟨⟨s⟩⟩, ?_, .str _⟩
    simp only [Go.convert, Sem.run_bind, run_underlying' hs, run_underlying' hd, Result.andThen_ok]
    cases d <;> rfl
  · cases h

end
end Go.Proofs.YtomheegfobcijaaGreatDoor.Am

/- The abstract machine is right, fourth part: one theorem for all operations that neither read nor write cells. -/
namespace Go.Proofs.YtomheegfobcijaaGreatDoor.Am
set_option linter.unusedVariables false
set_option linter.unusedSimpArgs false
open Go.RowKit

section
variable {P : Program} {M : Mem} {w : World}

/-! ### building -/
theorem set_range (off : Nat) : ∀ (l : List Value) (s : Nat) (cs : Array Value), off + s + l.length ≤ cs.size →
    ((l.zipIdx s).foldl (fun cs (c, j) => cs.setIfInBounds (off + j) c) cs).size = cs.size ∧
    ∀ k, ((l.zipIdx s).foldl (fun cs (c, j) => cs.setIfInBounds (off + j) c) cs).getD k undef = if off + s ≤ k ∧ k < off + s + l.length then l.getD (k - (off + s)) undef else cs.getD k undef := by
  intro l
  induction l with
  | nil => intro s cs h; refine ⟨rfl, fun k => ?_⟩; rw [if_neg (by simp)]; rfl
  | cons v r ih =>
    intro s cs h
    simp only [List.length_cons] at h
    simp only [List.zipIdx_cons, List.foldl_cons]
    obtain ⟨h1, h2⟩ := ih (s + 1) (cs.setIfInBounds (off + s) v) (by rw [Array.size_setIfInBounds]; omega)
    refine ⟨by rw [h1, Array.size_setIfInBounds], fun k => ?_⟩
    rw [h2 k]
    by_cases hk : k = off + s
    · subst hk
      rw [if_neg (by omega), if_pos (by simp)]
      simp only [Array.getD_eq_getD_getElem?, Nat.sub_self, List.getD_cons_zero]
      rw [Array.getElem?_setIfInBounds_self_of_lt (by omega)]
      rfl
    · by_cases hin : off + (s + 1) ≤ k ∧ k < off + (s + 1) + r.length
      · rw [if_pos hin, if_pos (by simp only [List.length_cons]; omega)]
        have : k - (off + s) = (k - (off + (s + 1))) + 1 := by omega
        rw [this, List.getD_cons_succ]
      · rw [if_neg hin, if_neg (by simp only [List.length_cons]; omega)]
        simp only [Array.getD_eq_getD_getElem?]
        rw [Array.getElem?_setIfInBounds_ne (by omega)]

theorem getD_splice (cs vs : List AV) (off k : Nat) (h : off + vs.length ≤ cs.length) :
    (splice cs off vs).getD k .undef = if off ≤ k ∧ k < off + vs.length then vs.getD (k - off) .undef else cs.getD k .undef := by
  unfold splice
  simp only [List.getD_eq_getElem?_getD]
  have ht : (cs.take off).length = off := by simp; omega
  by_cases h1 : k < off
  · rw [List.append_assoc, List.getElem?_append_left (by omega), List.getElem?_take, if_pos h1, if_neg (by omega)]
  · by_cases h2 : k < off + vs.length
    · rw [List.append_assoc, List.getElem?_append_right (by omega), List.getElem?_append_left (by omega), ht, if_pos (by omega)]
    · rw [List.getElem?_append_right (by simp; omega), if_neg (by omega)]
      simp only [List.length_append, ht, List.getElem?_drop]
      congr 2
      omega
theorem length_splice (cs vs : List AV) (off : Nat) (h : off + vs.length ≤ cs.length) : (splice cs off vs).length = cs.length := by
  unfold splice; simp; omega

theorem CellsRep.splice {cs : List AV} {vs : Array Value} (h : CellsRep P M cs vs) {ds : List AV} {us : Array Value} (k : CellsRep P M ds us) (off : Nat) (hl : off + ds.length ≤ cs.length) :
    CellsRep P M (Am.splice cs off ds) (us.zipIdx.foldl (fun cs (c, j) => cs.setIfInBounds (off + j) c) vs) := by
  have hus : us.toList.length = ds.length := by rw [Array.length_toList, k.size]
  have hz : us.zipIdx.foldl (fun cs (c, j) => cs.setIfInBounds (off + j) c) vs = (us.toList.zipIdx 0).foldl (fun cs (c, j) => cs.setIfInBounds (off + j) c) vs := by
    rw [← Array.foldl_toList, Array.toList_zipIdx]
  obtain ⟨h1, h2⟩ := set_range off us.toList 0 vs (by rw [hus, h.size]; omega)
  rw [hz]
  have hg : ∀ j, us.toList.getD j undef = us.getD j undef := by intro j; simp [List.getD_eq_getElem?_getD, Array.getD_eq_getD_getElem?]
  refine ⟨by rw [h1, h.size, length_splice _ _ _ hl], ?_, ?_⟩ <;> intro i hi <;> rw [length_splice _ _ _ hl] at hi <;> rw [h2 i, hus, Nat.add_zero]
  · rw [getD_splice _ _ _ _ hl]
    by_cases hin : off ≤ i ∧ i < off + ds.length
    · rw [if_pos hin, if_pos hin, hg]; exact k.at_ _ (by omega)
    · rw [if_neg hin, if_neg hin]; exact h.at_ _ hi
  · by_cases hin : off ≤ i ∧ i < off + ds.length
    · rw [if_pos hin, hg]; exact k.one _ (by omega)
    · rw [if_neg hin]; exact h.one _ hi

def PartsRep (P : Program) (M : Mem) : List (Nat × AV) → List (Nat × Value) → Prop
  | [], [] => True
  | (i, x) :: r, (j, v) :: s => i = j ∧ Rep P M x v ∧ PartsRep P M r s
  | _, _ => False

theorem fill_sound {place : Nat → Option (Nat × Nat)} : ∀ (ps : List (Nat × AV)) (qs : List (Nat × Value)) (cs ds : List AV) (vs : Array Value), fillA place cs ps = some ds → PartsRep P M ps qs → CellsRep P M cs vs →
    ∃ us, Instr.fill place vs qs = some us ∧ CellsRep P M ds us := by
  intro ps
  induction ps with
  | nil =>
    intro qs cs ds vs h hp hc
    cases qs with
    | nil => simp only [fillA, Option.some.injEq] at h; subst h; exact ⟨vs, rfl, hc⟩
    | cons _ _ => exact hp.elim
  | cons p r ih =>
    obtain ⟨i, x⟩ := p
    intro qs cs ds vs h hp hc
    cases qs with
    | nil => exact hp.elim
    | cons q s =>
      obtain ⟨j, v⟩ := q
      obtain ⟨rfl, rx, hp'⟩ := hp
      simp only [fillA] at h
      split at h
      · rename_i off size hpl
        split at h
        · rename_i hcond
          obtain ⟨c1, c2, c3⟩ := hcond
          have hx := cells_of rx (by omega)
          obtain ⟨us, hu, hcu⟩ := ih s _ ds (v.cells.zipIdx.foldl (fun cs (c, j) => cs.setIfInBounds (off + j) c) vs) h hp' (hc.splice hx off c3)
          refine ⟨us, ?_, hcu⟩
          simp only [Instr.fill, hpl]
          rw [if_neg, hu]
          have e1 := hx.size
          have e2 := hc.size
          simp only [Bool.or_eq_true, decide_eq_true_eq, not_or]
          omega
        · cases h
      · cases h

theorem cells_const : ∀ (vs : List Value) (cs : List AV), vs.mapM constAV = some cs → (∀ v ∈ vs, v.oneCell' = true) → CellsRep P M cs vs.toArray := by
  intro vs
  induction vs with
  | nil => intro cs h _; simp at h; subst h; exact ⟨rfl, fun i hi => by simp at hi, fun i hi => by simp at hi⟩
  | cons v r ih =>
    intro cs h h1
    rw [List.mapM_cons] at h
    cases hv : constAV v with
    | none => simp [hv] at h
    | some x =>
      cases hr : r.mapM constAV with
      | none => simp [hv, hr] at h
      | some xs =>
        simp [hv, hr] at h; subst h
        obtain ⟨a1, a2, a3⟩ := ih xs hr (fun v hv => h1 v (by simp [hv]))
        refine ⟨by simpa using a1, ?_, ?_⟩ <;> intro i hi <;> cases i with
        | zero => first | exact Rep.const hv | exact h1 v (by simp)
        | succ i =>
          simp only [List.length_cons] at hi
          first
            | (have := a2 i (by omega); simpa [Array.getD_eq_getD_getElem?, List.getD_eq_getElem?_getD] using this)
            | (have := a3 i (by omega); simpa [Array.getD_eq_getD_getElem?, List.getD_eq_getElem?_getD] using this)
theorem const_one {v : Value} {x : AV} (h : constAV v = some x) : v.oneCell' = true := by
  cases v <;> first | rfl | (simp [constAV] at h)
theorem mapM_const_one : ∀ (vs : List Value) (cs : List AV), vs.mapM constAV = some cs → ∀ v ∈ vs, v.oneCell' = true := by
  intro vs
  induction vs with
  | nil => intro cs _ v hv; simp at hv
  | cons u r ih =>
    intro cs h v hv
    rw [List.mapM_cons] at h
    cases hu : constAV u with
    | none => simp [hu] at h
    | some x =>
      cases hr : r.mapM constAV with
      | none => simp [hu, hr] at h
      | some xs =>
        rcases List.mem_cons.1 hv with rfl | hv
        · exact const_one hu
        · exact ih xs hr v hv
theorem zero_sound {t : TypeId} {z : List AV} (h : zeroT P t = some z) : ∃ v, (zeroValue t).run P w = .ok v w ∧ CellsRep P M z v.cells := by
  unfold zeroT at h
  split at h
  · rename_i i hi
    split at h
    · rename_i v hz
      refine ⟨v, ?_, ?_⟩
      · simp only [zeroValue, Sem.run_bind, run_typeInfo' hi, Result.andThen_ok, hz, Sem.run_pure]
      · have := cells_const (P := P) (M := M) v.cells.toList z h (mapM_const_one _ _ h)
        simpa using this
    · cases h
  · cases h

def placeSem (f : Field) : Sem (Nat × Nat) := do pure (f.offset, ← sizeOf f.type)
theorem places_sound (fields : List Field) (h : ∀ f ∈ fields, (sizeT P f.type).isSome = true) :
    ∃ ps : List (Nat × Nat), (fields.mapM placeSem).run P w = .ok ps w ∧ ∀ i : Nat, ps[i]? = (fields[i]?).bind fun (f : Field) => (sizeT P f.type).map fun n => (f.offset, n) := by
  induction fields with
  | nil => exact ⟨[], rfl, fun i => by simp⟩
  | cons f r ih =>
    obtain ⟨ps, h1, h2⟩ := ih (fun g hg => h g (by simp [hg]))
    obtain ⟨n, hn⟩ := Option.isSome_iff_exists.1 (h f (by simp))
    refine ⟨(f.offset, n) :: ps, ?_, ?_⟩
    · simp only [List.mapM_cons, Sem.run_bind, placeSem, run_sizeT hn, Result.andThen_ok, Sem.run_pure, h1]
    · intro i
      cases i with
      | zero => simp [hn]
      | succ i => simp [h2 i]

theorem build_sound {t : TypeId} {ps : List (Nat × AV)} {qs : Array (Nat × Value)} {r : AV} (h : buildA P t ps = some r) (hp : PartsRep P M ps qs.toList) : ∃ v, (Instr.build t qs).run P w = .ok v w ∧ Rep P M r v := by
  unfold buildA at h
  split at h
  · rename_i z fields hz hu
    split at h
    · rename_i hall
      cases hf : fillA (places P fields) z ps with
      | none => simp [hf] at h
      | some cs =>
        simp only [hf, Option.map_some, Option.some.injEq] at h; subst h
        obtain ⟨zv, hzr, hzc⟩ := zero_sound (M := M) (w := w) hz
        have hall' : ∀ f ∈ fields.toList, (sizeT P f.type).isSome = true := by
          intro f hf'
          have := (Array.all_eq_true_iff_forall_mem.1 hall) f (Array.mem_toList_iff.1 hf')
          exact this
        obtain ⟨pl, hpl, hpi⟩ := places_sound (w := w) fields.toList hall'
        obtain ⟨us, hus, hcu⟩ := fill_sound (place := places P fields) ps qs.toList z cs zv.cells hf hp hzc
        have hpp : (fun i => (pl.toArray)[i]?) = places P fields := by
          funext i
          rw [List.getElem?_toArray, hpi i]
          unfold places
          rw [Array.getElem?_toList]
          cases fields[i]? <;> rfl
        refine ⟨.agg us, ?_, .agg _ _ hcu.size hcu.at_ hcu.one⟩
        simp only [Instr.build, Sem.run_bind, hzr, Result.andThen_ok, run_underlying' hu]
        have hm : (fields.mapM placeSem).run P w = .ok pl.toArray w := by
          rw [Array.mapM_eq_mapM_toList]
          simp only [Sem.run_map, hpl, Result.andThen_ok]
        have hm' : (fields.mapM (fun (f : Field) => (do let n ← sizeOf f.type; pure (f.offset, n) : Sem (Nat × Nat)))).run P w = .ok pl.toArray w := hm
        simp only [hm', Result.andThen_ok, hpp, hus, Sem.run_pure]
    · cases h
  · rename_i z n elem hz hu
    split at h
    · rename_i size hs
      cases hf : fillA (fun i => some (i * size, size)) z ps with
      | none => simp [hf] at h
      | some cs =>
        simp only [hf, Option.map_some, Option.some.injEq] at h; subst h
        obtain ⟨zv, hzr, hzc⟩ := zero_sound (M := M) (w := w) hz
        obtain ⟨us, hus, hcu⟩ := fill_sound ps qs.toList z cs zv.cells hf hp hzc
        refine ⟨.agg us, ?_, .agg _ _ hcu.size hcu.at_ hcu.one⟩
        simp only [Instr.build, Sem.run_bind, hzr, Result.andThen_ok, run_underlying' hu, run_sizeT hs, hus, Sem.run_pure]
    · cases h
  · cases h

end
end Go.Proofs.YtomheegfobcijaaGreatDoor.Am

/- The abstract machine is right, fifth part: 'pureOp', whole. -/
namespace Go.Proofs.YtomheegfobcijaaGreatDoor.Am
set_option linter.unusedVariables false
set_option linter.unusedSimpArgs false
open Go.RowKit

section
variable {P : Program} {M : Mem} {w : World} {env : List (Nat × AV)} {ρ : Operand → Value}

/-- What the operands hold is what the machine says. -/
def OpsRel (P : Program) (M : Mem) (env : List (Nat × AV)) (ρ : Operand → Value) (xs : List Operand) : Prop := ∀ x ∈ xs, ∀ y, evalO env x = some y → Rep P M y (ρ x)

theorem evalParts_rel : ∀ (ps : List (Nat × Operand)) (vs : List (Nat × AV)), evalParts env ps = some vs → OpsRel P M env ρ (ps.map (·.2)) → PartsRep P M vs (ps.map fun (i, x) => (i, ρ x)) := by
  intro ps
  induction ps with
  | nil => intro vs h _; simp only [evalParts, Option.some.injEq] at h; subst h; trivial
  | cons p r ih =>
    obtain ⟨i, x⟩ := p
    intro vs h hr
    simp only [evalParts] at h
    split at h
    · rename_i v vs' hv hvs
      injection h with h; subst h
      exact ⟨rfl, hr x (by simp) v hv, ih vs' hvs (fun y hy => hr y (by simp only [List.map_cons, List.mem_cons]; exact .inr hy))⟩
    · cases h
theorem evalL_rel : ∀ (xs : List Operand) (vs : List AV), evalL env xs = some vs → OpsRel P M env ρ xs → (xs.map ρ).length = vs.length ∧ ∀ i, i < vs.length → Rep P M (vs.getD i .undef) ((xs.map ρ).getD i undef) := by
  intro xs
  induction xs with
  | nil => intro vs h _; simp only [evalL, Option.some.injEq] at h; subst h; exact ⟨rfl, fun i hi => by simp at hi⟩
  | cons x r ih =>
    intro vs h hr
    simp only [evalL] at h
    split at h
    · rename_i v vs' hv hvs
      injection h with h; subst h
      obtain ⟨h1, h2⟩ := ih vs' hvs (fun y hy => hr y (by simp [hy]))
      refine ⟨by simpa using h1, fun i hi => ?_⟩
      cases i with
      | zero => exact hr x (by simp) v hv
      | succ i =>
        simp only [List.length_cons] at hi
        have := h2 i (by omega)
        simpa [List.getD_eq_getElem?_getD] using this
    · cases h

theorem optA_rel {x : Option Operand} {y : Option AV} (h : optA env x = some y) (hr : OpsRel P M env ρ x.toList) : optRep P M y (x.map ρ) := by
  cases x with
  | none => simp only [optA, Option.some.injEq] at h; subst h; trivial
  | some o =>
    simp only [optA] at h
    cases ho : evalO env o with
    | none => simp [ho] at h
    | some v =>
      simp only [ho, Option.map_some, Option.some.injEq] at h; subst h
      exact hr o (by simp) v ho

theorem slice_sound {t : TypeId} {x r : AV} {lo hi mx : Option AV} {v : Value} {lo' hi' mx' : Option Value} (h : sliceA P t x lo hi mx = some r) (rx : Rep P M x v) (rl : optRep P M lo lo') (rh : optRep P M hi hi') (rm : optRep P M mx mx') :
    ∃ z, (Instr.sliceAt t v lo' hi' mx').run P w = .ok z w ∧ Rep P M r z := by
  unfold sliceA at h
  split at h
  · rename_i hu
    split at h
    · rename_i s
      obtain rfl := str_inv rx
      have hmx : mx' = none := by cases mx' with
        | none => rfl
        | some _ => exact rm.elim
      subst hmx
      split at h
      · rename_i hh hhi
        split at h
        · rename_i l hl
          injection h with h; subst h
          obtain ⟨m', hb, h1, h2, h3, h4, h5⟩ := bounds_sound (w := w) (isS := false) rl rh rm (kn := s.length) (len := s.length) (cap := s.length) (m := s.length) rfl hhi hl (Nat.le_refl _) (Nat.le_refl _) (by simp)
          refine ⟨.string ⟨⟨(s.take hh).drop l⟩⟩, ?_, .str _⟩
          have hsz : ByteArray.size ⟨⟨s⟩⟩ = s.length := by simp [ByteArray.size]
          have he : (⟨⟨s⟩⟩ : ByteArray).extract l hh = ⟨⟨(s.take hh).drop l⟩⟩ := by
            apply ByteArray.ext
            rw [ByteArray.data_extract]
            apply Array.ext'
            simp [List.drop_take]
          simp only [Instr.sliceAt, Instr.slice, Sem.run_bind, run_underlying' hu, Result.andThen_ok, hsz, hb, Option.isSome_none, Bool.false_eq_true, if_false, he, Sem.run_pure]
        · cases h
      · cases h
    · cases h
  · rename_i elem hu
    split at h
    · cases h
    · rename_i hmh0
      have hmh : mx.isSome → hi.isSome := by
        intro hs
        cases hi with
        | some _ => rfl
        | none => simp [hs] at hmh0
      have key : ∀ (a : Option Addr) (len cap kn m hh l : Nat), v = .slice a len cap → boundA mx kn kn = some m → boundA hi len m = some hh → boundA lo 0 hh = some l → kn ≤ cap → len ≤ kn →
          ∀ sz, sizeT P elem = some sz → ∃ m', (Instr.sliceAt t v lo' hi' mx').run P w = .ok (.slice (if m' = l then a else a.map (·.add (l * sz))) (hh - l) (m' - l)) w ∧ l ≤ hh ∧ hh ≤ m ∧ m ≤ m' ∧ m' ≤ cap ∧ m ≤ kn := by
        intro a len cap kn m hh l hv hm hhi hl hk hlen sz hsz
        subst hv
        obtain ⟨m', hb, h1, h2, h3, h4, h5⟩ := bounds_sound (w := w) (isS := true) rl rh rm hm hhi hl hk hlen hmh
        refine ⟨m', ?_, h1, h2, h3, h4, h5⟩
        simp only [Instr.sliceAt, Instr.slice, Sem.run_bind, run_underlying' hu, Result.andThen_ok, hb, run_sizeT hsz, Sem.run_pure]
      split at h
      · cases rx
        split at h
        · rename_i m hm
          split at h
          · rename_i hh hhi
            split at h
            · rename_i l sz hl hsz
              injection h with h; subst h
              obtain ⟨m', hb, h1, h2, h3, h4, h5⟩ := key none 0 0 0 m hh l rfl hm hhi hl (Nat.le_refl 0) (Nat.le_refl 0) sz hsz
              obtain rfl : m' = 0 := by omega
              obtain rfl : l = 0 := by omega
              obtain rfl : hh = 0 := by omega
              exact ⟨_, hb, .nils⟩
            · cases h
          · cases h
        · cases h
      · rename_i e xs sp
        cases rx with
        | lst _ _ _ a cap sz b off c hsz hz hall hcap ha hc hr h1 =>
          split at h
          · rename_i m hm
            split at h
            · rename_i hh hhi
              split at h
              · rename_i l hl
                split at h
                · rename_i he
                  subst he
                  injection h with h; subst h
                  obtain ⟨m', hrun, q1, q2, q3, q4, q5⟩ := key a xs.length cap (xs.length + sp.length) m hh l rfl hm hhi hl hcap (by omega) sz hsz
                  refine ⟨_, hrun, lst_sub hsz hz hall hcap ha hc hr h1 l hh m m' q1 q2 q5 q3 _ ?_⟩
                  intro hlm
                  rw [if_neg (by omega)]
                  have hne : xs ++ sp ≠ [] := by
                    intro e0
                    have : (xs ++ sp).length = 0 := by rw [e0]; rfl
                    rw [List.length_append] at this
                    omega
                  rw [ha hne, Option.map_some, add_addr]
                · cases h
              · cases h
            · cases h
          · cases h
      · rename_i e id off len
        cases rx with
        | sl _ _ _ _ b cap sz hf hsz hz hb hlc =>
          split at h
          · rename_i m hm
            split at h
            · rename_i hh hhi
              split at h
              · rename_i l sz' hl hsz'
                obtain rfl : sz = sz' := by rw [hsz] at hsz'; exact Option.some.inj hsz'
                split at h
                · rename_i he
                  subst he
                  split at h
                  · rename_i hcond
                    injection h with h; subst h
                    obtain ⟨m', hrun, q1, q2, q3, q4, q5⟩ := key (some ⟨b, off, none⟩) len cap len m hh l rfl hm hhi hl hlc (Nat.le_refl _) sz hsz
                    refine ⟨_, hrun, ?_⟩
                    have hadr : (if m' = l then some (⟨b, off, none⟩ : Addr) else (some (⟨b, off, none⟩ : Addr)).map (·.add (l * sz))) = some ⟨b, off + l * sz, none⟩ := by
                      by_cases hml : m' = l
                      · rw [if_pos hml]
                        obtain rfl : l = 0 := by omega
                        simp
                      · rw [if_neg hml, Option.map_some, add_addr]
                    rw [hadr]
                    refine .sl e id _ _ b _ sz hf hsz hz ?_ (by omega)
                    have : l * sz + (m' - l) * sz = m' * sz := by rw [← Nat.add_mul]; congr 1; omega
                    have h2 : m' * sz ≤ cap * sz := Nat.mul_le_mul_right _ q4
                    omega
                  · cases h
                · cases h
              · cases h
            · cases h
          · cases h
      · cases h
  · rename_i n elem hu
    split at h
    · rename_i id off
      split at h
      · rename_i sz hsz
        injection h with h; subst h
        cases rx with
        | ptr _ _ b hf =>
          cases lo' with
          | some _ => exact rl.elim
          | none =>
          cases hi' with
          | some _ => exact rh.elim
          | none =>
          cases mx' with
          | some _ => exact rm.elim
          | none =>
          have hal : P.arrayLen t = n := by simp [Program.arrayLen, hu]
          have hel : P.elem t = elem := by simp [Program.elem, hu]
          refine ⟨.slice (some ⟨b, off, none⟩) n n, ?_, .vw elem id off n b n hf (Nat.le_refl _)⟩
          rw [run_sliceAt_array_all w t ⟨b, off, none⟩ (by rw [hal, hel]; exact hu), hel, run_sizeT hsz, hal]
          simp [slicedAt, sliced, add_addr]
      · cases h
    · cases h
  · cases h

theorem fieldPlace_sound {s : TypeId} {f o : Nat} (h : fieldOff P s f = some o) : ∃ fields fd n, P.underlying s = some (.struct fields) ∧ fields[f]? = some fd ∧ sizeT P fd.type = some n ∧ n ≠ 0 ∧ fd.offset = o := by
  unfold fieldOff at h
  split at h
  · rename_i fields hu
    split at h
    · rename_i fd hf
      split at h
      · cases h
      · rename_i n hne hn
        injection h with h
        exact ⟨fields, fd, n, hu, hf, hn, by rintro rfl; exact hne rfl, h⟩
      · cases h
    · cases h
  · cases h
theorem run_fieldAt {s : TypeId} {f o b off : Nat} (h : fieldOff P s f = some o) : (Instr.fieldAt s (.pointer (some ⟨b, off, none⟩)) f).run P w = .ok (.pointer (some ⟨b, off + o, none⟩)) w := by
  obtain ⟨fields, fd, n, hu, hf, hn, hne, rfl⟩ := fieldPlace_sound h
  simp only [Instr.fieldAt, Sem.run_bind, run_underlying' hu, Result.andThen_ok, hf, Instr.sureAddr, Sem.run_pure, fieldPlace, run_sizeT hn, if_neg hne, add_addr]

theorem inRange_spec {i : Int} {n : Nat} (h : inRange i n = true) : 0 ≤ i ∧ i < n := by
  simp [inRange] at h; exact h

theorem indexAddr_sound {t : TypeId} {x i r : AV} {v u : Value} (h : indexAddrA P t x i = some r) (rx : Rep P M x v) (ri : Rep P M i u) : ∃ z, (Instr.indexAt t v u).run P w = .ok z w ∧ Rep P M r z := by
  unfold indexAddrA at h
  split at h
  · rename_i elem k n hu
    obtain rfl := int_inv ri
    split at h
    · rename_i e xs sp
      split at h
      · rename_i hc
        simp only [Bool.and_eq_true, beq_iff_eq, decide_eq_true_eq] at hc
        obtain ⟨he, hr⟩ := hc
        subst he
        obtain ⟨h0, h1⟩ := inRange_spec hr
        cases hx : xs[n.toNat]? with
        | none => simp [hx] at h
        | some y =>
          simp only [hx, Option.map_some, Option.some.injEq] at h; subst h
          obtain ⟨b, off, cap, sz, hsz, hz, rfl, hrep, _⟩ := lst_elem rx n.toNat y (by rw [List.getElem?_append_left (by omega)]; exact hx)
          refine ⟨_, ?_, hrep⟩
          simp only [Instr.indexAt, Sem.run_bind, asIntOf, Sem.run_pure, Result.andThen_ok, run_underlying' hu]
          rw [if_pos ⟨h0, h1⟩]
          simp only [Sem.run_bind, run_sizeT hsz, Result.andThen_ok, Sem.run_pure, add_addr]
      · cases h
    · rename_i e id off len
      split at h
      · rename_i sz' hsz'
        split at h
        · rename_i hc
          simp only [Bool.and_eq_true, beq_iff_eq, decide_eq_true_eq] at hc
          obtain ⟨he, hr⟩ := hc
          subst he
          obtain ⟨h0, h1⟩ := inRange_spec hr
          injection h with h; subst h
          cases rx with
          | sl _ _ _ _ b cap sz hf hsz hz hb hlc =>
            refine ⟨_, ?_, .ptr id _ b hf⟩
            simp only [Instr.indexAt, Sem.run_bind, asIntOf, Sem.run_pure, Result.andThen_ok, run_underlying' hu]
            rw [if_pos ⟨h0, h1⟩]
            simp only [Sem.run_bind, run_sizeT hsz', Result.andThen_ok, Sem.run_pure, add_addr]
        · cases h
      · cases h
    · rename_i e id off len
      split at h
      · rename_i sz' hsz'
        split at h
        · rename_i hc
          simp only [Bool.and_eq_true, beq_iff_eq, decide_eq_true_eq] at hc
          obtain ⟨he, hr⟩ := hc
          subst he
          obtain ⟨h0, h1⟩ := inRange_spec hr
          injection h with h; subst h
          cases rx with
          | vw _ _ _ _ b cap hf hlc =>
            refine ⟨_, ?_, .ptr id _ b hf⟩
            simp only [Instr.indexAt, Sem.run_bind, asIntOf, Sem.run_pure, Result.andThen_ok, run_underlying' hu]
            rw [if_pos ⟨h0, h1⟩]
            simp only [Sem.run_bind, run_sizeT hsz', Result.andThen_ok, Sem.run_pure, add_addr]
        · cases h
      · cases h
    · cases h
  · rename_i len elem k n hu
    obtain rfl := int_inv ri
    split at h
    · rename_i sz hsz
      split at h
      · rename_i hr
        obtain ⟨h0, h1⟩ := inRange_spec hr
        have key : ∀ b off, (Instr.indexAt t (.pointer (some ⟨b, off, none⟩)) (.int k n)).run P w = .ok (.pointer (some ⟨b, off + n.toNat * sz, none⟩)) w := by
          intro b off
          simp only [Instr.indexAt, Sem.run_bind, asIntOf, Sem.run_pure, Result.andThen_ok, run_underlying' hu, Instr.sureAddr]
          rw [if_pos ⟨h0, h1⟩]
          simp only [Sem.run_bind, run_sizeT hsz, Result.andThen_ok, Sem.run_pure, add_addr]
        split at h
        · rename_i id off
          injection h with h; subst h
          cases rx with
          | ptr _ _ b hf => exact ⟨_, key b off, .ptr id _ b hf⟩
        · rename_i cs off
          injection h with h; subst h
          cases rx with
          | ept _ _ b o c hc hr h1 =>
            refine ⟨_, key b (o + off), ?_⟩
            rw [Nat.add_assoc]
            exact .ept cs _ b o c hc hr h1
        · cases h
      · cases h
    · cases h
  · cases h

theorem index_sound {t : TypeId} {x i r : AV} {v u : Value} (h : indexA P t x i = some r) (rx : Rep P M x v) (ri : Rep P M i u) : ∃ z, (Instr.index t v u).run P w = .ok z w ∧ Rep P M r z := by
  unfold indexA at h
  split at h
  · rename_i len elem cs k n hu
    obtain rfl := int_inv ri
    obtain ⟨vs, rfl, hvs⟩ := agg_inv rx
    split at h
    · rename_i sz hsz
      split at h
      · rename_i hr
        obtain ⟨h0, h1⟩ := inRange_spec hr
        obtain ⟨z, hz, rz⟩ := part_sound (w := w) h hvs
        refine ⟨z, ?_, rz⟩
        simp only [Instr.index, Sem.run_bind, asIntOf, Sem.run_pure, Result.andThen_ok, run_underlying' hu]
        rw [if_pos ⟨h0, h1⟩]
        simp only [Sem.run_bind, run_sizeT hsz, Result.andThen_ok, hz]
      · cases h
    · cases h
  · rename_i s k n hu
    obtain rfl := int_inv ri
    obtain rfl := str_inv rx
    split at h
    · rename_i h0
      cases hs : s[n.toNat]? with
      | none => simp [hs] at h
      | some b =>
        simp only [hs, Option.map_some, Option.some.injEq] at h; subst h
        refine ⟨.int .u8 b.toNat, ?_, .int _ _⟩
        have hb : (⟨⟨s⟩⟩ : ByteArray)[n.toNat]? = some b := by
          have hlt : n.toNat < s.length := by
            rcases Nat.lt_or_ge n.toNat s.length with h | h
            · exact h
            · rw [List.getElem?_eq_none h] at hs; cases hs
          have hlt' : n.toNat < ByteArray.size ⟨⟨s⟩⟩ := by simpa [ByteArray.size] using hlt
          rw [getElem?_pos (⟨⟨s⟩⟩ : ByteArray) n.toNat hlt']
          rw [List.getElem?_eq_getElem hlt] at hs
          exact hs
        simp only [Instr.index, Sem.run_bind, asIntOf, Sem.run_pure, Result.andThen_ok, run_underlying' hu, if_pos h0, hb]
    · cases h
  · cases h

end
end Go.Proofs.YtomheegfobcijaaGreatDoor.Am

/- The abstract machine is right, sixth part: 'pureOp' against the model's own step. -/
namespace Go.Proofs.YtomheegfobcijaaGreatDoor.Am
set_option linter.unusedVariables false
set_option linter.unusedSimpArgs false
open Go.RowKit

section
variable {P : Program} {M : Mem} {w : World} {env : List (Nat × AV)} {ρ : Operand → Value}

theorem max_sound : ∀ (l : List AV) (vs : List Value) (x r : AV) (v : Value), mostA true x l = some r → Rep P M x v → vs.length = l.length → (∀ i, i < l.length → Rep P M (l.getD i .undef) (vs.getD i undef)) →
    ∃ z, (vs.foldlM Builtin.max2 v).run P w = .ok z w ∧ Rep P M r z
  | [], vs, x, r, v, h, rx, hl, _ => by
    obtain rfl := List.length_eq_zero_iff.1 hl
    simp only [mostA, Option.some.injEq] at h; subst h
    exact ⟨v, rfl, rx⟩
  | y :: l, [], _, _, _, _, _, hl, _ => by cases hl
  | y :: l, u :: vs, x, r, v, h, rx, hl, hr => by
    have ry := hr 0 (by simp)
    have hr' : ∀ i, i < l.length → Rep P M (l.getD i .undef) (vs.getD i undef) := fun i hi => by have := hr (i + 1) (by simp; omega); simpa using this
    have hl' : vs.length = l.length := by simpa using hl
    simp only [List.getD_cons_zero] at ry
    unfold mostA at h
    split at h
    · rename_i e; cases e
    · rename_i k a k' b r' e
      injection e with e1 e2; subst e1; subst e2
      rw [int_inv rx, int_inv ry]
      obtain ⟨z, h1, h2⟩ := max_sound l vs _ r _ h (.int _ _) hl' hr'
      exact ⟨z, by simp only [List.foldlM_cons, Builtin.max2, Sem.run_bind, Sem.run_pure, Result.andThen_ok]; exact h1, h2⟩
    · rename_i a b r' e
      injection e with e1 e2; subst e1; subst e2
      rw [str_inv rx, str_inv ry]
      obtain ⟨z, h1, h2⟩ := max_sound l vs _ r _ h (.str _) hl' hr'
      obtain ⟨q, q1, q2⟩ := strOp_sound (P := P) (M := M) (w := w) (op := .geq) (m := a) (n := b) rfl 0
      cases q2
      have q1 : (Op.stringOp .geq ⟨⟨a⟩⟩ ⟨⟨b⟩⟩).run P w = .ok (.bool !(Op.bytesLess a b)) w := q1
      refine ⟨z, ?_, h2⟩
      simp only [List.foldlM_cons, Builtin.max2, Sem.run_bind, q1, Result.andThen_ok, asBool, Sem.run_pure]
      cases hb : Op.bytesLess a b with
      | true => rw [hb] at h1; exact h1
      | false => rw [hb] at h1; exact h1
    · cases h
theorem min_sound : ∀ (l : List AV) (vs : List Value) (x r : AV) (v : Value), mostA false x l = some r → Rep P M x v → vs.length = l.length → (∀ i, i < l.length → Rep P M (l.getD i .undef) (vs.getD i undef)) →
    ∃ z, (vs.foldlM Builtin.min2 v).run P w = .ok z w ∧ Rep P M r z
  | [], vs, x, r, v, h, rx, hl, _ => by
    obtain rfl := List.length_eq_zero_iff.1 hl
    simp only [mostA, Option.some.injEq] at h; subst h
    exact ⟨v, rfl, rx⟩
  | y :: l, [], _, _, _, _, _, hl, _ => by cases hl
  | y :: l, u :: vs, x, r, v, h, rx, hl, hr => by
    have ry := hr 0 (by simp)
    have hr' : ∀ i, i < l.length → Rep P M (l.getD i .undef) (vs.getD i undef) := fun i hi => by have := hr (i + 1) (by simp; omega); simpa using this
    have hl' : vs.length = l.length := by simpa using hl
    simp only [List.getD_cons_zero] at ry
    unfold mostA at h
    split at h
    · rename_i e; cases e
    · rename_i k a k' b r' e
      injection e with e1 e2; subst e1; subst e2
      rw [int_inv rx, int_inv ry]
      obtain ⟨z, h1, h2⟩ := min_sound l vs _ r _ h (.int _ _) hl' hr'
      exact ⟨z, by simp only [List.foldlM_cons, Builtin.min2, Sem.run_bind, Sem.run_pure, Result.andThen_ok]; exact h1, h2⟩
    · rename_i a b r' e
      injection e with e1 e2; subst e1; subst e2
      rw [str_inv rx, str_inv ry]
      obtain ⟨z, h1, h2⟩ := min_sound l vs _ r _ h (.str _) hl' hr'
      obtain ⟨q, q1, q2⟩ := strOp_sound (P := P) (M := M) (w := w) (op := .leq) (m := a) (n := b) rfl 0
      cases q2
      have q1 : (Op.stringOp .leq ⟨⟨a⟩⟩ ⟨⟨b⟩⟩).run P w = .ok (.bool (Op.bytesLess a b || a == b)) w := q1
      refine ⟨z, ?_, h2⟩
      simp only [List.foldlM_cons, Builtin.min2, Sem.run_bind, q1, Result.andThen_ok, asBool, Sem.run_pure]
      cases hb : (Op.bytesLess a b || a == b) with
      | true => rw [hb] at h1; exact h1
      | false => rw [hb] at h1; exact h1
    · cases h
theorem pureOp_sound {o : Oper} {r : AV} (h : pureOp P env o.op = some r) (hr : OpsRel P M env ρ o.op.operands.toList) :
    ∃ v, (execOp ρ o).run P w = .ok (.value v) w ∧ Rep P M r v := by
  obtain ⟨dst, op, ty, pos, after, guard⟩ := o
  simp only at h hr
  unfold pureOp at h
  split at h
  case h_1 x => exact ⟨ρ x, rfl, hr x (by simp [Op.operands]) r h⟩
  case h_2 x => exact ⟨ρ x, rfl, hr x (by simp [Op.operands]) r h⟩
  case h_3 c a b =>
    split at h
    · rename_i t hc
      have := bool_inv (hr c (by simp [Op.operands]) _ hc)
      cases t
      · exact ⟨ρ b, by simp [execOp, this, asBool], hr b (by simp [Op.operands]) r h⟩
      · exact ⟨ρ a, by simp [execOp, this, asBool], hr a (by simp [Op.operands]) r h⟩
    · cases h
  case h_4 t parts =>
    split at h
    · rename_i ps hps
      have hp := evalParts_rel parts.toList ps hps (fun x hx => hr x (by simpa [Op.operands] using hx))
      obtain ⟨v, hv, rv⟩ := build_sound (w := w) (qs := parts.map fun (i, x) => (i, ρ x)) h (by simpa using hp)
      exact ⟨v, by simp only [execOp, Sem.run_bind, hv, Result.andThen_ok, Sem.run_pure], rv⟩
    · cases h
  case h_5 x =>
    split at h
    · rename_i i o hx; injection h with h; subst h
      have r1 := hr x (by simp [Op.operands]) _ hx
      generalize hv : ρ x = v at r1
      cases r1 with
      | ptr _ _ b hf => exact ⟨_, by simp only [execOp, hv]; rfl, .ptr _ _ b hf⟩
    · rename_i c o hx; injection h with h; subst h
      have r1 := hr x (by simp [Op.operands]) _ hx
      generalize hv : ρ x = v at r1
      cases r1 with
      | ept _ _ b o' c' hc hrr h1 => exact ⟨_, by simp only [execOp, hv]; rfl, .ept _ _ b o' c' hc hrr h1⟩
    · rename_i t v' hx; injection h with h; subst h
      have r1 := hr x (by simp [Op.operands]) _ hx
      generalize hv : ρ x = v at r1
      cases r1 with
      | iface _ _ u hu => exact ⟨_, by simp only [execOp, hv]; rfl, .iface _ _ u hu⟩
    · rename_i f c hx; injection h with h; subst h
      have r1 := hr x (by simp [Op.operands]) _ hx
      generalize hv : ρ x = v at r1
      cases r1 with
      | fn _ _ vs hl hh => exact ⟨_, by simp only [execOp, hv]; rfl, .fn _ _ vs hl hh⟩
    · rename_i f b c hx; injection h with h; subst h
      have r1 := hr x (by simp [Op.operands]) _ hx
      generalize hv : ρ x = v at r1
      cases r1 with
      | mfn _ _ _ us vs kl k hl hh => exact ⟨_, by simp only [execOp, hv]; rfl, .mfn _ _ _ us vs kl k hl hh⟩
    · cases h
  case h_6 op t x y yt =>
    split at h
    · rename_i a b ha hb
      obtain ⟨z, hz, rz⟩ := binOp_sound (w := w) h (hr x (by simp [Op.operands]) _ ha) (hr y (by simp [Op.operands]) _ hb) (yt := yt)
      refine ⟨z, ?_, rz⟩
      simp only [Sem.run_bind] at hz
      simp only [execOp, Sem.run_bind, hz, Result.andThen_ok, Sem.run_pure]
    · cases h
  case h_7 op t x =>
    split at h
    · rename_i a ha
      obtain ⟨z, hz, rz⟩ := unOp_sound (w := w) h (hr x (by simp [Op.operands]) _ ha)
      exact ⟨z, by simp only [execOp, Sem.run_bind, hz, Result.andThen_ok, Sem.run_pure], rz⟩
    · cases h
  case h_8 src d x =>
    split at h
    · rename_i a ha
      obtain ⟨z, hz, rz⟩ := conv_sound (w := w) h (hr x (by simp [Op.operands]) _ ha)
      exact ⟨z, by simp only [execOp, Sem.run_bind, hz, Result.andThen_ok, Sem.run_pure], rz⟩
    · cases h
  case h_9 t x =>
    split at h
    · cases h
    · rename_i a d hni ha hd
      injection h with h; subst h
      refine ⟨.iface t (ρ x), ?_, .iface _ _ _ (hr x (by simp [Op.operands]) _ ha)⟩
      simp only [execOp, Instr.makeInterface, Sem.run_bind, run_underlying' hd, Result.andThen_ok]
      cases d <;> first | rfl | exact absurd rfl (hni _)
    · cases h
  case h_10 f first captured =>
    split at h
    · rename_i h0
      cases hc : evalL env captured.toList with
      | none => simp [hc] at h
      | some vs =>
        simp only [hc, Option.map_some, Option.some.injEq] at h; subst h
        obtain ⟨h1, h2⟩ := evalL_rel captured.toList vs hc (fun x hx => hr x (by simp only [Op.operands, Array.toList_append, List.mem_append]; exact .inr hx))
        have hf : first = #[] := Array.eq_empty_of_size_eq_zero h0
        subst hf
        refine ⟨.func (.func f) #[] (captured.map ρ), by simp [execOp, Instr.makeFunc], .fn f vs _ (by simpa using h1) ?_⟩
        intro i hi
        have := h2 i hi
        simpa [List.getD_eq_getElem?_getD, Array.getD_eq_getD_getElem?] using this
    · split at h
      · rename_i bs cs hb hc
        injection h with h; subst h
        obtain ⟨h1, h2⟩ := evalL_rel captured.toList cs hc (fun x hx => hr x (by simp only [Op.operands, Array.toList_append, List.mem_append]; exact .inr hx))
        obtain ⟨k1, k2⟩ := evalL_rel first.toList bs hb (fun x hx => hr x (by simp only [Op.operands, Array.toList_append, List.mem_append]; exact .inl hx))
        refine ⟨.func (.func f) (first.map ρ) (captured.map ρ), by simp [execOp, Instr.makeFunc], .mfn f bs cs _ _ (by simpa using k1) ?_ (by simpa using h1) ?_⟩
        · intro i hi
          have := k2 i hi
          simpa [List.getD_eq_getElem?_getD, Array.getD_eq_getD_getElem?] using this
        · intro i hi
          have := h2 i hi
          simpa [List.getD_eq_getElem?_getD, Array.getD_eq_getD_getElem?] using this
      · cases h
  case h_11 t x lo hi mx =>
    split at h
    · rename_i a l hh m ha hl hhi hm
      obtain ⟨z, hz, rz⟩ := slice_sound (w := w) h (hr x (by simp [Op.operands]) _ ha) (optA_rel hl fun y hy => hr y (by simp [Op.operands]; simp at hy; simp [hy])) (optA_rel hhi fun y hy => hr y (by simp [Op.operands]; simp at hy; simp [hy])) (optA_rel hm fun y hy => hr y (by simp [Op.operands]; simp at hy; simp [hy]))
      exact ⟨z, by simp only [execOp, Sem.run_bind, hz, Result.andThen_ok, Sem.run_pure], rz⟩
    · cases h
  case h_12 s x f =>
    split at h
    · rename_i id off o hx ho
      injection h with h; subst h
      have := hr x (by simp [Op.operands]) _ hx
      generalize hv : ρ x = v at this
      cases this with
      | ptr _ _ b hf => exact ⟨_, by simp only [execOp, hv, Sem.run_bind, run_fieldAt ho, Result.andThen_ok, Sem.run_pure], .ptr _ _ b hf⟩
    · rename_i cs off o hx ho
      injection h with h; subst h
      have := hr x (by simp [Op.operands]) _ hx
      generalize hv : ρ x = v at this
      cases this with
      | ept _ _ b o' c hc hrr h1 =>
        refine ⟨.pointer (some ⟨b, o' + off + o, none⟩), by simp only [execOp, hv, Sem.run_bind, run_fieldAt ho, Result.andThen_ok, Sem.run_pure], ?_⟩
        rw [Nat.add_assoc]
        exact .ept cs _ b o' c hc hrr h1
    · cases h
  case h_13 t x f =>
    split at h
    · rename_i cs fields hx hu
      split at h
      · rename_i fd hf
        obtain ⟨vs, hvs, cvs⟩ := agg_inv (hr x (by simp [Op.operands]) _ hx)
        obtain ⟨z, hz, rz⟩ := part_sound (w := w) h cvs
        refine ⟨z, ?_, rz⟩
        simp only [execOp, Instr.field, Sem.run_bind, run_underlying' hu, Result.andThen_ok, hf, hvs, asAgg, Sem.run_pure, hz]
      · cases h
    · cases h
  case h_14 t x i =>
    split at h
    · rename_i a b ha hb
      obtain ⟨z, hz, rz⟩ := indexAddr_sound (w := w) h (hr x (by simp [Op.operands]) _ ha) (hr i (by simp [Op.operands]) _ hb)
      exact ⟨z, by simp only [execOp, Sem.run_bind, hz, Result.andThen_ok, Sem.run_pure], rz⟩
    · cases h
  case h_15 t x i =>
    split at h
    · rename_i a b ha hb
      obtain ⟨z, hz, rz⟩ := index_sound (w := w) h (hr x (by simp [Op.operands]) _ ha) (hr i (by simp [Op.operands]) _ hb)
      exact ⟨z, by simp only [execOp, Sem.run_bind, hz, Result.andThen_ok, Sem.run_pure], rz⟩
    · cases h
  case h_16 t i =>
    split at h
    · rename_i vs ht
      have := hr t (by simp [Op.operands]) _ ht
      generalize hv : ρ t = v at this
      cases this with
      | tup _ us hl hh =>
        have hlt : i < vs.length := by
          rcases Nat.lt_or_ge i vs.length with hlt | hge
          · exact hlt
          · rw [List.getElem?_eq_none hge] at h; cases h
        have hlt' : i < us.size := by omega
        refine ⟨us.getD i undef, ?_, ?_⟩
        · simp only [execOp, hv, Instr.extract, Sem.run_bind, Array.getElem?_eq_getElem hlt', Sem.run_pure, Result.andThen_ok, Array.getD_eq_getD_getElem?, Option.getD_some]
        · have := hh i hlt
          rw [List.getD_eq_getElem?_getD, h, Option.getD_some] at this
          exact this
    · cases h
  case h_17 args argTypes =>
    split at h
    · rename_i x t hargs htys
      have ea : args = #[x] := by apply Array.ext'; simpa using hargs
      have et : argTypes = #[t] := by apply Array.ext'; simpa using htys
      subst ea; subst et
      have hx : ∀ y, evalO env x = some y → Rep P M y (ρ x) := hr x (by simp [Op.operands, Call.operands])
      have key : ∀ d v n, P.underlying t = some d → ρ x = v → (Builtin.len_ #[t] ty #[v]).run P w = .ok (.int .i64 n) w → (execOp ρ { dst := dst, op := .call { callee := .builtin .len, args := #[x], argTypes := #[t] }, type := ty, pos := pos, after := after, guard := guard }).run P w = .ok (.value (.int .i64 n)) w := by
        intro d v n hd hv hl
        simp only [execOp, resolve, Sem.run_bind, Sem.run_pure, Result.andThen_ok, invoke, builtin, List.map_toArray, List.map_cons, List.map_nil, hv, hl]
      split at h
      · rename_i s hu he
        have e := str_inv (hx _ he)
        injection h with h; subst h
        refine ⟨_, key _ _ s.length hu e ?_, .int _ _⟩
        simp only [Builtin.len_, List.getElem?_toArray, List.getElem?_cons_zero, Sem.run_bind, run_underlying' hu, Result.andThen_ok, Sem.run_pure]; rfl
      · rename_i el e xs sp hu he
        have r1 := hx _ he
        injection h with h; subst h
        generalize hv : ρ x = v at r1
        cases r1 with
        | lst _ _ _ a cap sz b off c hsz hz hall hcap ha hc hr h1 =>
          refine ⟨_, key _ _ xs.length hu hv ?_, .int _ _⟩
          simp only [Builtin.len_, List.getElem?_toArray, List.getElem?_cons_zero, Sem.run_bind, run_underlying' hu, Result.andThen_ok, Sem.run_pure]; rfl
      · rename_i el e id off n hu he
        have r1 := hx _ he
        injection h with h; subst h
        generalize hv : ρ x = v at r1
        cases r1 with
        | sl _ _ _ _ b cap sz hf hsz hz hb hl =>
          refine ⟨_, key _ _ n hu hv ?_, .int _ _⟩
          simp only [Builtin.len_, List.getElem?_toArray, List.getElem?_cons_zero, Sem.run_bind, run_underlying' hu, Result.andThen_ok, Sem.run_pure]; rfl
      · rename_i el e id off n hu he
        have r1 := hx _ he
        injection h with h; subst h
        generalize hv : ρ x = v at r1
        cases r1 with
        | vw _ _ _ _ b cap hf hl =>
          refine ⟨_, key _ _ n hu hv ?_, .int _ _⟩
          simp only [Builtin.len_, List.getElem?_toArray, List.getElem?_cons_zero, Sem.run_bind, run_underlying' hu, Result.andThen_ok, Sem.run_pure]; rfl
      · rename_i el hu he
        have r1 := hx _ he
        injection h with h; subst h
        generalize hv : ρ x = v at r1
        cases r1 with
        | nils =>
          refine ⟨_, key _ _ 0 hu hv ?_, .int _ _⟩
          simp only [Builtin.len_, List.getElem?_toArray, List.getElem?_cons_zero, Sem.run_bind, run_underlying' hu, Result.andThen_ok, Sem.run_pure]; rfl
      · rename_i n el y hu he
        injection h with h; subst h
        refine ⟨_, key _ _ n hu rfl ?_, .int _ _⟩
        simp only [Builtin.len_, List.getElem?_toArray, List.getElem?_cons_zero, Sem.run_bind, run_underlying' hu, Result.andThen_ok, Sem.run_pure]; rfl
      · rename_i k e hu he
        have r1 := hx _ he
        injection h with h; subst h
        generalize hv : ρ x = v at r1
        cases r1 with
        | nilm =>
          refine ⟨_, key _ _ 0 hu hv ?_, .int _ _⟩
          simp only [Builtin.len_, List.getElem?_toArray, List.getElem?_cons_zero, Sem.run_bind, run_underlying' hu, Result.andThen_ok, Sem.run_pure]; rfl
      · cases h
    · cases h
  case h_18 args at_ =>
    split at h
    · rename_i x r' hv
      obtain ⟨h1, h2⟩ := evalL_rel args.toList (x :: r') hv (fun y hy => hr y (by simpa [Op.operands, Call.operands] using hy))
      obtain ⟨v, vs, hvs⟩ : ∃ v vs, args.toList.map ρ = v :: vs := by
        cases hq : args.toList.map ρ with
        | nil => rw [hq] at h1; cases h1
        | cons v vs => exact ⟨v, vs, rfl⟩
      rw [hvs] at h1 h2
      obtain ⟨z, z1, z2⟩ := max_sound (w := w) r' vs x r v h (by simpa using h2 0 (by simp)) (by simpa using h1) (fun i hi => by have := h2 (i + 1) (by simp; omega); simpa using this)
      refine ⟨z, ?_, z2⟩
      have hm : (Builtin.max_ at_ ty (args.map ρ)).run P w = .ok z w := by
        unfold Builtin.max_
        rw [Array.toList_map, hvs]
        exact z1
      simp only [execOp, resolve, Sem.run_bind, Sem.run_pure, Result.andThen_ok, invoke, builtin, hm]
    · cases h
  case h_19 args at_ =>
    split at h
    · rename_i x r' hv
      obtain ⟨h1, h2⟩ := evalL_rel args.toList (x :: r') hv (fun y hy => hr y (by simpa [Op.operands, Call.operands] using hy))
      obtain ⟨v, vs, hvs⟩ : ∃ v vs, args.toList.map ρ = v :: vs := by
        cases hq : args.toList.map ρ with
        | nil => rw [hq] at h1; cases h1
        | cons v vs => exact ⟨v, vs, rfl⟩
      rw [hvs] at h1 h2
      obtain ⟨z, z1, z2⟩ := min_sound (w := w) r' vs x r v h (by simpa using h2 0 (by simp)) (by simpa using h1) (fun i hi => by have := h2 (i + 1) (by simp; omega); simpa using this)
      refine ⟨z, ?_, z2⟩
      have hm : (Builtin.min_ at_ ty (args.map ρ)).run P w = .ok z w := by
        unfold Builtin.min_
        rw [Array.toList_map, hvs]
        exact z1
      simp only [execOp, resolve, Sem.run_bind, Sem.run_pure, Result.andThen_ok, invoke, builtin, hm]
    · cases h
  case h_20 x xt t ok =>
    split at h
    · cases h
    · rename_i t' v d hne hx hu
      cases hb : Nat.beq t' t with
      | false => rw [hb] at h; cases h
      | true =>
        have ht : t' = t := Nat.eq_of_beq_eq_true hb
        subst ht
        rw [hb] at h
        have := hr x (by simp [Op.operands]) _ hx
        generalize hv : ρ x = u at this
        cases this with
        | iface _ _ u' ru =>
          have hrun : (Instr.typeAssert (.iface t' u') xt t' ok).run P w = .ok (if ok then .tuple #[u', .bool true] else u') w := by
            unfold Instr.typeAssert
            simp only [Sem.run_bind, run_underlying' hu, Result.andThen_ok]
            cases d <;> first
              | exact absurd rfl (hne _ _ _ rfl)
              | simp
          refine ⟨if ok then .tuple #[u', .bool true] else u', by simp only [execOp, hv, Sem.run_bind, hrun, Result.andThen_ok, Sem.run_pure], ?_⟩
          cases ok with
          | true =>
            injection h with h; subst h
            refine .tup _ _ rfl fun i hi => ?_
            match i, hi with
            | 0, _ => exact ru
            | 1, _ => exact .bool true
          | false =>
            injection h with h; subst h
            exact ru
    · cases h
  case h_21 => cases h

end
end Go.Proofs.YtomheegfobcijaaGreatDoor.Am

/- What is known of the program's variables, whose blocks nobody writes: a seat's own. -/
namespace Go.Proofs.YtomheegfobcijaaGreatDoor.Am

/-- So many blocks lie there from the start. -/
def glN : Nat := 2
/-- What they hold. -/
def GlobIs (h : Nat → Option Obj) : Prop := ∃ tp p t fr, h 1 = some (.cells #[Value.iface tp p] t fr)

end Go.Proofs.YtomheegfobcijaaGreatDoor.Am

/- What the abstract machine's memory has to do with Go's: blocks, lists that may be written on, and what a step leaves as it was. -/
namespace Go.Proofs.YtomheegfobcijaaGreatDoor.Am
set_option linter.unusedVariables false
set_option linter.unusedSimpArgs false
open Go.RowKit

/-- What is held of memory beside the values: up to where a block is written no more, where the machine's blocks lie, how large they are, whose end a block's is; blocks of the machine's below 'lo' are not written. -/
structure Gh where
  lim : Nat → Nat
  f : Nat → Option Nat
  bs : Nat → Nat
  owner : Nat → Option Loc
  lo : Nat

def pmOf (w : World) (G : Gh) (b o : Nat) : Option Value := if o < G.lim b then w.cell? ⟨b, o, none⟩ else none
def Gh.mem (G : Gh) (w : World) : Mem := ⟨pmOf w G, G.f, G.bs⟩

/-- The blocks that may be written. -/
def Foot (G : Gh) (b : Nat) : Prop := ((∃ id, G.lo ≤ id ∧ G.f id = some b) ∧ G.lim b = 0) ∨ (G.owner b).isSome = true
/-- The variables hold what is known of them, and nobody writes them. -/
structure Held (G : Gh) (w : World) : Prop where
  lt : ∀ b, b < glN → b < w.heap.size ∧ ¬ Foot G b
  is : GlobIs fun b => if b < glN then w.heap[b]? else none
structure GOk (G : Gh) (w : World) : Prop where
  fin : ∀ id b, G.f id = some b → b < w.heap.size ∧ G.owner b = none
  new : ∀ b, w.heap.size ≤ b → G.lim b = 0 ∧ G.owner b = none ∧ G.bs b = 0
  held : Held G w

/-- A block of the machine's, as it lies in memory: a row of cells. -/
def CellsAt (P : Program) (M : Mem) (w : World) (b : Nat) (k : Blk) : Prop :=
  ∃ cs, w.heap[b]? = some (.cells cs k.e (0, 0)) ∧ k.cs.length ≤ cs.size ∧ cs.size = M.bs b ∧ (∀ j, j < k.cs.length → Rep P M (k.cs.getD j .undef) (cs.getD j undef)) ∧ ∀ j, j < k.cs.length → (cs.getD j undef).oneCell' = true
/-- The jump that a round has left. -/
def pendOf : Nat → Nat → Option Code
  | 0, _ => none
  | 1, _ => some .ret
  | _, x => some (.exit x)
def stateOf : Nat → LoopState
  | 0 => .ready
  | 1 => .busy
  | 2 => .done
  | _ => .exhausted
/-- A loop's record. -/
def LoopAt1 (P : Program) (M : Mem) (w : World) (b : Nat) (k : Blk) : Prop :=
  ∃ (L : Loop) (st kind x : Nat) (vars : Nat → List Nat) (env : List (Nat × AV)),
    w.heap[b]? = some (.loop L) ∧ some k = recA st kind x (.rcd vars L.tmps.size env L.params.toList L.assign L.body) ∧ L.state = stateOf st ∧ L.pending = pendOf kind x ∧
    (codeOk L.assign && noRange L.assign && (codeOk L.body && noRange L.body)) = true ∧ ∀ s, Rep P M (look env s) (L.tmps.getD s undef)
/-- A map. -/
def MapAt (P : Program) (M : Mem) (w : World) (b : Nat) (k : Blk) : Prop :=
  ∃ (l : List (AV × AV)) (es : Array MapEntry) (clock : Nat), w.heap[b]? = some (.map es clock) ∧ (k = mapBlk l ∨ k = mapFz l) ∧ es.toList.length = l.length ∧
    (∀ j, j < l.length → ∀ p e, l[j]? = some p → es.toList[j]? = some e → Rep P M p.1 e.key ∧ Rep P M p.2 e.val) ∧ MapKept.Stamped es clock
def LoopAt (P : Program) (M : Mem) (w : World) (b : Nat) (k : Blk) : Prop := LoopAt1 P M w b k ∨ MapAt P M w b k ∨ k = anyBlk
def BlkAt (P : Program) (M : Mem) (w : World) (b : Nat) (k : Blk) : Prop := (Nat.beq k.e LOOP = false → CellsAt P M w b k) ∧ (Nat.beq k.e LOOP = true → LoopAt P M w b k)

/-- There is a block at this number. -/
def Live (H : List (Option Blk)) (id : Nat) : Prop := ∃ k, H[id]? = some (some k)
theorem Live.lt {H : List (Option Blk)} {id : Nat} (h : Live H id) : id < H.length := by
  obtain ⟨k, hk⟩ := h; exact (List.getElem?_eq_some_iff.1 hk).1
theorem Live.append {H : List (Option Blk)} {id : Nat} (h : Live H id) (E : List (Option Blk)) : Live (H ++ E) id := by
  obtain ⟨k, hk⟩ := h
  exact ⟨k, by rw [List.getElem?_append_left (Live.lt ⟨k, hk⟩)]; exact hk⟩
theorem Live.set {H : List (Option Blk)} {id : Nat} (h : Live H id) (j : Nat) (k : Blk) : Live (H.set j (some k)) id := by
  by_cases hj : j = id
  · subst hj; exact ⟨k, by rw [List.getElem?_set_self h.lt]⟩
  · obtain ⟨q, hq⟩ := h; exact ⟨q, by rw [List.getElem?_set_ne hj]; exact hq⟩

/-- And Go's memory has it. -/
def Mapped (G : Gh) (H : List (Option Blk)) (id : Nat) : Prop := Live H id ∧ ∃ b, G.f id = some b
theorem Mapped.lt {G : Gh} {H : List (Option Blk)} {id : Nat} (h : Mapped G H id) : id < H.length := h.1.lt
theorem Mapped.append {G : Gh} {H : List (Option Blk)} {id : Nat} (h : Mapped G H id) (E : List (Option Blk)) : Mapped G (H ++ E) id := ⟨h.1.append E, h.2⟩
theorem Mapped.set {G : Gh} {H : List (Option Blk)} {id : Nat} (h : Mapped G H id) (j : Nat) (k : Blk) : Mapped G (H.set j (some k)) id := ⟨h.1.set j k, h.2⟩
theorem Mapped.mono {G G' : Gh} {H : List (Option Blk)} {id : Nat} (h : Mapped G H id) (hf : ∀ i b, G.f i = some b → G'.f i = some b) : Mapped G' H id := ⟨h.1, let ⟨b, hb⟩ := h.2; ⟨b, hf _ _ hb⟩⟩

structure HeapRel (P : Program) (G : Gh) (H : List (Option Blk)) (w : World) : Prop where
  dom : ∀ id b, G.f id = some b → Live H id
  blk : ∀ id b k, G.f id = some b → H[id]? = some (some k) → BlkAt P (G.mem w) w b k
  inj : ∀ i j b k l, G.f i = some b → G.f j = some b → H[i]? = some (some k) → H[j]? = some (some l) → k.cs ≠ [] → l.cs ≠ [] → i = j
  lim : ∀ id b k, G.f id = some b → H[id]? = some (some k) → k.cs ≠ [] → isFz k = false → G.lim b = 0

/-- How a list's block is marked: not at all, or behind its cells (where it was made of a string). -/
def frOk (n : Nat) (fr : Nat × Nat) : Prop := fr = (0, 0) ∨ fr.1 = n
/-- A list in a block of its own, from the block's first cell on. -/
def RowF (w : World) (e : TypeId) (size : Nat) (v : Value) (n : Nat) (xs : List Value) : Prop :=
  xs.length = n * size ∧ ((v = .slice none 0 0 ∧ n = 0) ∨
    ∃ g cap cur, v = .slice (some ⟨g, 0, none⟩) n cap ∧ 0 ≤ g ∧ (∃ fr, w.heap[g]? = some (.cells cur e fr) ∧ frOk cur.size fr) ∧ n ≤ cap ∧ cap ≤ maxLen ∧ cur.size = cap * size ∧ cur.toList.take (n * size) = xs)
theorem RowF.nil (w : World) (e : TypeId) (size : Nat) : RowF w e size (.slice none 0 0) 0 [] := ⟨by simp, .inl ⟨rfl, rfl⟩⟩
theorem RowF.kept {w w' : World} {e : TypeId} {size n : Nat} {v : Value} {xs : List Value} {row : Option Nat} (h : RowF w e size v n xs) (hg : w.grownBy w' row) (hne : v.ownBlock = none ∨ v.ownBlock ≠ row) : RowF w' e size v n xs := by
  refine ⟨h.1, ?_⟩
  rcases h.2 with h | ⟨g, cap, cur, hv, h0, ⟨fr, hh, hfr⟩, r⟩
  · exact .inl h
  · refine .inr ⟨g, cap, cur, hv, h0, ⟨fr, ?_, hfr⟩, r⟩
    rw [hg.block g (Array.getElem?_eq_some_iff.1 hh).1 ?_]
    · exact hh
    · intro e
      rcases hne with h | h
      · rw [hv] at h; cases h
      · rw [hv] at h; exact h e
theorem RowF.cells {w : World} {e : TypeId} {size n : Nat} {v : Value} {xs : List Value} (h : RowF w e size v n xs) {g : Nat} (hg : v.ownBlock = some g) : ∀ j u, xs[j]? = some u → w.cell? ⟨g, j, none⟩ = some u := by
  intro j u hu
  rcases h.2 with ⟨rfl, _⟩ | ⟨g', cap, cur, rfl, _, ⟨fr, hh, _⟩, _, _, _, ht⟩
  · cases hg
  · have : g' = g := by simpa [Value.ownBlock] using hg
    subst this
    subst ht
    have hj : j < n * size := by
      rcases Nat.lt_or_ge j (n * size) with h | h
      · exact h
      · rw [List.getElem?_take] at hu; rw [if_neg (by omega)] at hu; cases hu
    rw [List.getElem?_take, if_pos hj, Array.getElem?_toList] at hu
    simp [World.cell?, hh, hu]
/-- A list whose end is one's own. -/
def OwnAt (P : Program) (G : Gh) (w : World) (l : Loc) (x : AV) (v : Value) : Prop :=
  ∀ e xs, x = .lst e xs [] → ∃ sz cells, sizeT P e = some sz ∧ 0 < sz ∧ RowF w e sz v xs.length cells ∧ ∀ g, v.ownBlock = some g → G.owner g = some l ∧ G.lim g = xs.length * sz

structure OwnRel (P : Program) (G : Gh) (st : St) (t : Nat → Value) (w : World) : Prop where
  slot : ∀ s, owns st.own (.slot s) = true → OwnAt P G w (.slot s) (look st.env s) (t s)
  cell : ∀ id off b k cs, owns st.own (.cell id off) = true → G.f id = some b → st.H[id]? = some (some k) → w.heap[b]? = some (.cells cs k.e (0, 0)) → OwnAt P G w (.cell id off) (k.cs.getD off .undef) (cs.getD off undef)

/-- Nobody may write a block that nobody might. -/
def Off (G G' : Gh) (b : Nat) : Prop := ¬ Foot G' b ∧ ∀ id, G'.f id = some b → G.f id = some b
structure Ext (G : Gh) (w : World) (G' : Gh) (w' : World) : Prop where
  os : w'.os = w.os
  tape : w'.tape = w.tape
  output : w'.output = w.output
  size : w.heap.size ≤ w'.heap.size
  prot : ∀ b o v, pmOf w G b o = some v → pmOf w' G' b o = some v
  f : ∀ id b, G.f id = some b → G'.f id = some b
  bs : ∀ b, G.bs b ≤ G'.bs b
  foreign : ∀ b, b < w.heap.size → ¬ Foot G b → w'.heap[b]? = w.heap[b]? ∧ G'.lim b = G.lim b ∧ Off G G' b
  lo : G'.lo = G.lo := by rfl

theorem Ext.refl (G : Gh) (w : World) : Ext G w G w := ⟨rfl, rfl, rfl, Nat.le_refl _, fun _ _ _ h => h, fun _ _ h => h, fun _ => Nat.le_refl _, fun _ _ h => ⟨rfl, rfl, h, fun _ h => h⟩, rfl⟩
theorem Ext.trans {G G' G'' : Gh} {w w' w'' : World} (h : Ext G w G' w') (k : Ext G' w' G'' w'') : Ext G w G'' w'' :=
  ⟨k.os.trans h.os, k.tape.trans h.tape, k.output.trans h.output, Nat.le_trans h.size k.size, fun b o v e => k.prot b o v (h.prot b o v e), fun i b e => k.f i b (h.f i b e), fun b => Nat.le_trans (h.bs b) (k.bs b),
    fun b hb hf => by
      obtain ⟨a1, a2, a3⟩ := h.foreign b hb hf
      obtain ⟨b1, b2, b3⟩ := k.foreign b (Nat.lt_of_lt_of_le hb h.size) a3.1
      exact ⟨b1.trans a1, b2.trans a2, b3.1, fun id h => a3.2 id (b3.2 id h)⟩, k.lo.trans h.lo⟩
theorem Ext.held {G G' : Gh} {w w' : World} (h : Ext G w G' w') (k : Held G w) : Held G' w' := by
  refine ⟨fun b hb => ?_, ?_⟩
  · obtain ⟨h1, h2⟩ := k.lt b hb
    exact ⟨Nat.lt_of_lt_of_le h1 h.size, (h.foreign b h1 h2).2.2.1⟩
  · have e : (fun b => if b < glN then w'.heap[b]? else none) = fun b => if b < glN then w.heap[b]? else none := by
      funext b
      by_cases hb : b < glN
      · rw [if_pos hb, if_pos hb]
        obtain ⟨h1, h2⟩ := k.lt b hb
        exact (h.foreign b h1 h2).1
      · rw [if_neg hb, if_neg hb]
    rw [e]; exact k.is
theorem Ext.mem {G G' : Gh} {w w' : World} (h : Ext G w G' w') : (G.mem w).le (G'.mem w') := ⟨h.prot, h.f, h.bs⟩
theorem Ext.rep {P : Program} {G G' : Gh} {w w' : World} (h : Ext G w G' w') {x : AV} {v : Value} (r : Rep P (G.mem w) x v) : Rep P (G'.mem w') x v := r.mono h.mem
theorem Ext.below {G G' : Gh} {w w' : World} (h : Ext G w G' w') {B : Nat} (hB : B ≤ w.heap.size) (hf : ∀ b, b < B → ¬ Foot G b) : Below B w w' :=
  ⟨h.os, h.tape, h.output, h.size, fun k hk => (h.foreign k (by omega) (hf k hk)).1⟩

/-- A step that only makes memory. -/
structure Grow (G : Gh) (w : World) (G' : Gh) (w' : World) : Prop where
  below : Below w.heap.size w w'
  lim : ∀ b, b < w.heap.size → G'.lim b = G.lim b
  owner : ∀ b, b < w.heap.size → G'.owner b = G.owner b
  bs : ∀ b, b < w.heap.size → G'.bs b = G.bs b
  f : ∀ id b, G.f id = some b → G'.f id = some b
  fnew : ∀ id b, G'.f id = some b → G.f id = some b ∨ (G.f id = none ∧ w.heap.size ≤ b)
  lo : G'.lo = G.lo := by rfl

theorem cell_below {B : Nat} {w w' : World} (h : Below B w w') {b o : Nat} (hb : b < B) : w'.cell? ⟨b, o, none⟩ = w.cell? ⟨b, o, none⟩ := by
  unfold World.cell?; rw [h.block b hb]

theorem Grow.ext {G G' : Gh} {w w' : World} (h : Grow G w G' w') (g : GOk G w) : Ext G w G' w' where
  os := h.below.os
  tape := h.below.tape
  output := h.below.output
  size := h.below.size
  prot := by
    intro b o v e
    have hb : b < w.heap.size := by
      rcases Nat.lt_or_ge b w.heap.size with hb | hb
      · exact hb
      · have := (g.new b hb).1; simp [pmOf, this] at e
    unfold pmOf at *
    rw [h.lim b hb, cell_below h.below hb]; exact e
  f := h.f
  bs := by
    intro b
    rcases Nat.lt_or_ge b w.heap.size with hb | hb
    · rw [h.bs b hb]; exact Nat.le_refl _
    · rw [(g.new b hb).2.2]; exact Nat.zero_le _
  foreign := by
    intro b hb hf
    refine ⟨h.below.block b hb, h.lim b hb, ?_, fun id hid => (h.fnew id b hid).elim (fun h1 => h1) fun h1 => absurd h1.2 (by omega)⟩
    rintro (⟨⟨id, hi, hid⟩, hl⟩ | ho)
    · rcases h.fnew id b hid with h1 | ⟨_, h1⟩
      · exact hf (.inl ⟨⟨id, by rw [← h.lo]; exact hi, h1⟩, by rw [← h.lim b hb]; exact hl⟩)
      · omega
    · rw [h.owner b hb] at ho; exact hf (.inr ho)
  lo := h.lo

theorem Grow.refl (G : Gh) (w : World) : Grow G w G w := ⟨Below.refl _ _, fun _ _ => rfl, fun _ _ => rfl, fun _ _ => rfl, fun _ _ h => h, fun _ _ h => .inl h, rfl⟩

theorem BlkAt.to {P : Program} {M M' : Mem} {w w' : World} {b : Nat} {k : Blk} (r : BlkAt P M w b k) (hb : w'.heap[b]? = w.heap[b]?) (hbs : M'.bs b = M.bs b) (hm : M.le M') : BlkAt P M' w' b k := by
  refine ⟨fun hk => ?_, fun hk => ?_⟩
  · obtain ⟨cs, h1, h2, h3, h4, h5⟩ := r.1 hk
    exact ⟨cs, by rw [hb]; exact h1, h2, by rw [hbs]; exact h3, fun j hj => (h4 j hj).mono hm, h5⟩
  · rcases r.2 hk with ⟨L, st, kind, x, vars, env, h1, h2, h3, h4, h5, h6⟩ | ⟨l, es, cl, h1, h2, h3, h4⟩ | h
    · exact .inl ⟨L, st, kind, x, vars, env, by rw [hb]; exact h1, h2, h3, h4, h5, fun s => (h6 s).mono hm⟩
    rotate_left
    · exact .inr (.inr h)
    · exact .inr <| .inl ⟨l, es, cl, by rw [hb]; exact h1, h2, h3, fun j hj p e hp he => ⟨(h4.1 j hj p e hp he).1.mono hm, (h4.1 j hj p e hp he).2.mono hm⟩, h4.2⟩
theorem BlkAt.cells {P : Program} {M : Mem} {w : World} {b : Nat} {k : Blk} (h : CellsAt P M w b k) (hk : Nat.beq k.e LOOP = false) : BlkAt P M w b k := ⟨fun _ => h, fun e => by rw [hk] at e; cases e⟩
theorem LoopAt.kind {P : Program} {M : Mem} {w : World} {b : Nat} {k : Blk} (h : LoopAt P M w b k) : k.cs ≠ [] ∧ Nat.beq k.e LOOP = true := by
  rcases h with ⟨L, st, kind, x, vars, env, h1, h2, _⟩ | ⟨l, es, cl, h1, h2, _⟩ | rfl
  rotate_right
  · exact ⟨by simp [anyBlk], Nat.beq_refl _⟩
  · unfold recA at h2
    injection h2 with h2
    subst h2
    exact ⟨by simp, Nat.beq_refl _⟩
  · rcases h2 with rfl | rfl
    · exact ⟨by simp [mapBlk], Nat.beq_refl _⟩
    · exact ⟨by simp [mapFz], Nat.beq_refl _⟩
theorem BlkAt.cs_nil {P : Program} {M : Mem} {w : World} {b : Nat} {k : Blk} (h : BlkAt P M w b k) (hn : k.cs = []) : Nat.beq k.e LOOP = false := by
  cases hk : Nat.beq k.e LOOP with
  | false => rfl
  | true => exact absurd hn (h.2 hk).kind.1
theorem BlkAt.grow {P : Program} {G G' : Gh} {w w' : World} (h : Grow G w G' w') (g : GOk G w) {b : Nat} {k : Blk} (hb : b < w.heap.size) (r : BlkAt P (G.mem w) w b k) : BlkAt P (G'.mem w') w' b k :=
  r.to (h.below.block b hb) (h.bs b hb) (h.ext g).mem

theorem OwnAt.grow {P : Program} {G G' : Gh} {w w' : World} (h : Grow G w G' w') {l : Loc} {x : AV} {v : Value} (r : OwnAt P G w l x v) : OwnAt P G' w' l x v := by
  intro e xs hx
  obtain ⟨sz, cells, h1, h2, h3, h4⟩ := r e xs hx
  refine ⟨sz, cells, h1, h2, h3.kept ⟨h.below.os, h.below.tape, h.below.output, h.below.size, fun i hi _ => h.below.block i hi⟩ (row := none) (by cases v.ownBlock <;> simp), ?_⟩
  intro g hg
  have hlt : g < w.heap.size := by
    rcases h3.2 with ⟨rfl, _⟩ | ⟨g', cap, cur, rfl, _, ⟨fr, hh, _⟩, _⟩
    · simp [Value.ownBlock] at hg
    · have : g' = g := by simpa [Value.ownBlock] using hg
      subst this
      exact (Array.getElem?_eq_some_iff.1 hh).1
  rw [h.owner g hlt, h.lim g hlt]
  exact h4 g hg

/-- The heap's own relation behind a step that makes memory, and perhaps the machine's next block. -/
theorem HeapRel.grow {P : Program} {G G' : Gh} {w w' : World} {H : List (Option Blk)} (h : Grow G w G' w') (g : GOk G w) (hf : ∀ id b, G'.f id = some b → G.f id = some b) (r : HeapRel P G H w) : HeapRel P G' H w' where
  dom := fun id b e => r.dom id b (hf id b e)
  blk := fun id b k e hk => (r.blk id b k (hf id b e) hk).grow h g (g.fin id b (hf id b e)).1
  inj := fun i j b k l e1 e2 => r.inj i j b k l (hf i b e1) (hf j b e2)
  lim := fun id b k e hk hn hz => (h.lim b (g.fin id b (hf id b e)).1).trans (r.lim id b k (hf id b e) hk hn hz)

end Go.Proofs.YtomheegfobcijaaGreatDoor.Am

/- The abstract machine is right, seventh part: reading cells, and making memory. -/
namespace Go.Proofs.YtomheegfobcijaaGreatDoor.Am
set_option linter.unusedVariables false
set_option linter.unusedSimpArgs false
open Go.RowKit

section
variable {P : Program} {w : World}

def upd {α : Type} (g : Nat → α) (b : Nat) (v : α) : Nat → α := fun x => if x = b then v else g x
theorem upd_same {α : Type} (g : Nat → α) (b : Nat) (v : α) : upd g b v b = v := if_pos rfl
theorem upd_ne {α : Type} (g : Nat → α) {b x : Nat} (v : α) (h : x ≠ b) : upd g b v x = g x := if_neg h

/-! ### reading -/
theorem loadVar_sound {M : Mem} {t : TypeId} {b o n : Nat} {cs : List AV} {x : AV} (c : Nat → Value) (hs : sizeT P t = some n) (hl : cs.length = n) (h : ofCells P t cs = some x)
    (hc : ∀ j, j < n → w.cell? ⟨b, o + j, none⟩ = some (c j)) (hr : ∀ j, j < n → Rep P M (cs.getD j .undef) (c j)) (h1 : ∀ j, j < n → (c j).oneCell' = true) :
    ∃ u, (Instr.loadAt t (.pointer (some ⟨b, o, none⟩))).run P w = .ok u w ∧ Rep P M x u ∧ (cs.length = 1 → isAggT P t = some false → u = c 0) := by
  unfold ofCells at h
  have hcc : ∀ j, j < n → w.cell? ((⟨b, o, none⟩ : Addr).add j) = some (c j) := fun j hj => by rw [add_addr]; exact hc j hj
  split at h
  · rename_i hg
    injection h with h; subst h
    refine ⟨.agg ((List.range n).map c).toArray, ?_, .agg _ _ (by simp [hl]) ?_ ?_, ?_⟩
    · simp only [Instr.loadAt, Instr.sureAddr, loadVar, Sem.run_bind, Sem.run_pure, Result.andThen_ok, run_isAggT hg, if_true, run_sizeT hs, run_loadCells w _ n c hcc]
    · intro i hi; have := hr i (by omega); simpa [Array.getD_eq_getD_getElem?, hl ▸ hi] using this
    · intro i hi; have := h1 i (by omega); simpa [Array.getD_eq_getD_getElem?, hl ▸ hi] using this
    · intro _ hf; rw [hg] at hf; simp at hf
  · rename_i hg
    split at h
    · rename_i y
      split at h
      case isFalse => cases h
      injection h with h; subst h
      simp only [List.length_cons, List.length_nil] at hl
      subst hl
      have h0 := hc 0 (by omega)
      refine ⟨c 0, ?_, by simpa using hr 0 (by omega), fun _ _ => rfl⟩
      simp only [Nat.add_zero] at h0
      simp only [Instr.loadAt, Instr.sureAddr, loadVar, Sem.run_bind, Sem.run_pure, Result.andThen_ok, run_isAggT hg, Bool.false_eq_true, if_false, run_load, h0]
    · cases h
  · cases h

theorem pm_cell {G : Gh} {b o : Nat} {v : Value} (h : pmOf w G b o = some v) : w.cell? ⟨b, o, none⟩ = some v := by
  unfold pmOf at h; split at h; exact h; cases h

theorem blk_cell {M : Mem} {b : Nat} {k : Blk} (h : BlkAt P M w b k) (he : Nat.beq k.e LOOP = false) : ∃ cs, w.heap[b]? = some (.cells cs k.e (0, 0)) ∧ (∀ j, j < k.cs.length → w.cell? ⟨b, j, none⟩ = some (cs.getD j undef)) ∧ k.cs.length ≤ cs.size ∧
    (∀ j, j < k.cs.length → Rep P M (k.cs.getD j .undef) (cs.getD j undef)) ∧ ∀ j, j < k.cs.length → (cs.getD j undef).oneCell' = true := by
  obtain ⟨cs, h1, h2, h3, h4, h5⟩ := h.1 he
  refine ⟨cs, h1, ?_, h2, h4, h5⟩
  intro j hj
  have : j < cs.size := by omega
  simp [World.cell?, h1, this]

/-- 'loadA' is what the model's load is, where the block (if it is one of the machine's) lies as it should. -/
theorem load_sound {G : Gh} {H : List (Option Blk)} {t : TypeId} {p x : AV} {v : Value} (h : loadA P H t p = some x) (rp : Rep P (G.mem w) p v)
    (hb : ∀ id off b k, p = .ptr id off → G.f id = some b → H[id]? = some (some k) → BlkAt P (G.mem w) w b k) :
    ∃ u, (Instr.loadAt t v).run P w = .ok u w ∧ Rep P (G.mem w) x u ∧ (∀ id off b, p = .ptr id off → G.f id = some b → sizeT P t = some 1 → isAggT P t = some false → w.cell? ⟨b, off, none⟩ = some u) := by
  unfold loadA at h
  split at h
  · rename_i n hs
    split at h
    · rename_i id off
      split at h
      · rename_i cs hcs
        unfold readCells at hcs
        split at hcs
        · rename_i k hk
          split at hcs
          · rename_i hle0
            obtain ⟨hke, hle⟩ := hle0
            injection hcs with hcs; subst hcs
            cases rp with
            | ptr _ _ b hf =>
              obtain ⟨ds, hd, hcell, hsz, hrep, hone⟩ := blk_cell (hb id off b k rfl hf hk) hke
              have hl : ((k.cs.drop off).take n).length = n := by simp; omega
              obtain ⟨u, hu, ru, h1⟩ := loadVar_sound (w := w) (M := G.mem w) (b := b) (o := off) (fun j => ds.getD (off + j) undef) hs hl h (fun j hj => hcell _ (by omega))
                (fun j hj => by rw [getD_drop_take _ _ _ _ hj]; exact hrep _ (by omega)) (fun j hj => hone _ (by omega))
              refine ⟨u, hu, ru, ?_⟩
              intro id' off' b' e1 e2 e3 e4
              injection e1 with e1 e1'; subst e1; subst e1'
              change G.f id = some b at hf
              rw [hf] at e2; injection e2 with e2; subst e2
              rw [hs] at e3; injection e3 with e3
              rw [h1 (by omega) e4]
              exact hcell off (by omega)
          · cases hcs
        · cases hcs
      · cases h
    · rename_i cs off
      split at h
      · rename_i hle
        cases rp with
        | ept _ _ b o c hc hr h1 =>
          have hl : ((cs.drop off).take n).length = n := by simp; omega
          obtain ⟨u, hu, ru, _⟩ := loadVar_sound (w := w) (M := G.mem w) (b := b) (o := o + off) (fun j => c (off + j)) hs hl h
            (fun j hj => by have := pm_cell (hc (off + j) (by omega)); rw [← Nat.add_assoc] at this; exact this)
            (fun j hj => by rw [getD_drop_take _ _ _ _ hj]; exact hr _ (by omega)) (fun j hj => h1 _ (by omega))
          exact ⟨u, hu, ru, fun _ _ _ e => by cases e⟩
      · cases h
    · cases h
  · cases h

/-! ### a block of the machine's own -/
theorem alloc_heap_new (w : World) (o : Obj) : (w.alloc o).heap[w.heap.size]? = some o := heap_alloc_new w o

def Gh.map (G : Gh) (id b n : Nat) : Gh := { G with f := upd G.f id (some b), bs := upd G.bs b n }

theorem new_grow {G : Gh} (g : GOk G w) {id : Nat} (hid : G.f id = none) (cs : Array Value) (e : TypeId) : Grow G w (G.map id w.heap.size cs.size) (w.alloc (.cells cs e)) where
  below := (Below.refl _ _).alloc (Nat.le_refl _) _
  lim := fun _ _ => rfl
  owner := fun _ _ => rfl
  bs := fun b hb => upd_ne _ _ (by omega)
  f := fun i b h => by
    show upd G.f id _ i = _
    rw [upd_ne _ _ (by rintro rfl; rw [hid] at h; cases h)]; exact h
  fnew := fun i b h => by
    change upd G.f id (some w.heap.size) i = some b at h
    by_cases hi : i = id
    · subst hi; rw [upd_same] at h; injection h with h; exact .inr ⟨hid, by omega⟩
    · rw [upd_ne _ _ hi] at h; exact .inl h
theorem new_gok {G : Gh} (g : GOk G w) {id : Nat} (hid : G.f id = none) (cs : Array Value) (e : TypeId) : GOk (G.map id w.heap.size cs.size) (w.alloc (.cells cs e)) where
  fin := fun i b h => by
    change upd G.f id (some w.heap.size) i = some b at h
    by_cases hi : i = id
    · subst hi; rw [upd_same] at h; injection h with h; subst h
      obtain ⟨h1, h2, h3⟩ := g.new w.heap.size (Nat.le_refl _)
      exact ⟨by simp, h2⟩
    · rw [upd_ne _ _ hi] at h
      obtain ⟨h1, h2⟩ := g.fin i b h
      exact ⟨by simp; omega, h2⟩
  new := fun b hb => by
    simp only [World.size_alloc] at hb
    obtain ⟨h1, h2, h3⟩ := g.new b (by omega)
    exact ⟨h1, h2, by show upd _ _ _ b = 0; rw [upd_ne _ _ (by omega)]; exact h3⟩
  held := ((new_grow g hid cs e).ext g).held g.held
theorem new_blk {G : Gh} (g : GOk G w) {id : Nat} (hid : G.f id = none) {xs : List AV} {cs : Array Value} {e : TypeId} (hc : CellsRep P (G.mem w) xs cs) (he : Nat.beq e LOOP = false) :
    BlkAt P ((G.map id w.heap.size cs.size).mem (w.alloc (.cells cs e))) (w.alloc (.cells cs e)) w.heap.size ⟨e, xs⟩ :=
  BlkAt.cells ⟨cs, alloc_heap_new w _, by rw [hc.size]; exact Nat.le_refl _, (by show cs.size = upd G.bs w.heap.size cs.size w.heap.size; rw [upd_same]), fun j hj => ((new_grow g hid cs e).ext g).rep (hc.at_ j hj), hc.one⟩ he

/-- The machine's heap behind a new block of its own: H1 is the heap with the block at place id. -/
theorem new_heap {G : Gh} (g : GOk G w) {id : Nat} (hid : G.f id = none) {xs : List AV} {cs : Array Value} {e : TypeId} (hc : CellsRep P (G.mem w) xs cs) {H : List (Option Blk)} (r : HeapRel P G H w) (hH : H[id]? = some (some ⟨e, xs⟩)) (he : Nat.beq e LOOP = false) :
    HeapRel P (G.map id w.heap.size cs.size) H (w.alloc (.cells cs e)) := by
  have split_ : ∀ i b, (G.map id w.heap.size cs.size).f i = some b → (i = id ∧ b = w.heap.size) ∨ (i ≠ id ∧ G.f i = some b) := by
    intro i b h
    change upd G.f id (some w.heap.size) i = some b at h
    by_cases hi : i = id
    · subst hi; rw [upd_same] at h; injection h with h; exact .inl ⟨rfl, h.symm⟩
    · rw [upd_ne _ _ hi] at h; exact .inr ⟨hi, h⟩
  refine ⟨?_, ?_, ?_, ?_⟩
  · intro i b h
    rcases split_ i b h with ⟨rfl, rfl⟩ | ⟨_, h⟩
    · exact ⟨_, hH⟩
    · exact r.dom i b h
  · intro i b k h hk
    rcases split_ i b h with ⟨rfl, rfl⟩ | ⟨_, h⟩
    · rw [hH] at hk; injection hk with hk; injection hk with hk; subst hk
      exact new_blk g hid hc he
    · exact (r.blk i b k h hk).grow (new_grow g hid cs e) g (g.fin i b h).1
  · intro i j b k l h1 h2 hk hl n1 n2
    rcases split_ i b h1 with ⟨q1, q2⟩ | ⟨_, q1⟩ <;> rcases split_ j b h2 with ⟨q3, q4⟩ | ⟨_, q3⟩
    · rw [q1, q3]
    · have := (g.fin j _ q3).1; omega
    · have := (g.fin i _ q1).1; omega
    · exact r.inj i j b k l q1 q3 hk hl n1 n2
  · intro i b k h hk hn
    rcases split_ i b h with ⟨_, rfl⟩ | ⟨_, h⟩
    · exact fun _ => (g.new _ (Nat.le_refl _)).1
    · exact r.lim i b k h hk hn

/-! ### a list in a new block -/
def Gh.list (G : Gh) (b n : Nat) (o : Option Loc) : Gh := { G with lim := upd G.lim b n, owner := upd G.owner b o }

theorem list_grow {G : Gh} (g : GOk G w) {w' : World} (hb : Below w.heap.size w w') (n : Nat) (o : Option Loc) : Grow G w (G.list w.heap.size n o) w' where
  below := hb
  lim := fun b hb => upd_ne _ _ (by omega)
  owner := fun b hb => upd_ne _ _ (by omega)
  bs := fun _ _ => rfl
  f := fun _ _ h => h
  fnew := fun _ _ h => .inl h
theorem list_gok {G : Gh} (g : GOk G w) {w' : World} (hB : Below w.heap.size w w') (hb : w.heap.size < w'.heap.size) (n : Nat) (o : Option Loc) : GOk (G.list w.heap.size n o) w' where
  fin := fun i b h => by
    obtain ⟨h1, h3⟩ := g.fin i b h
    exact ⟨by omega, by show upd _ _ _ b = none; rw [upd_ne _ _ (by omega)]; exact h3⟩
  new := fun b hb' => by
    obtain ⟨h1, h2, h3⟩ := g.new b (by omega)
    exact ⟨by show upd _ _ _ b = 0; rw [upd_ne _ _ (by omega)]; exact h1, by show upd _ _ _ b = none; rw [upd_ne _ _ (by omega)]; exact h2, h3⟩
  held := ((list_grow g hB n o).ext g).held g.held

theorem list_rep {G : Gh} (g : GOk G w) {w' : World} (hb : Below w.heap.size w w') {cs : Array Value} {e0 : TypeId} {fr : Nat × Nat} (hn : w'.heap[w.heap.size]? = some (.cells cs e0 fr)) {e : TypeId} {xs : List AV} {sz cap : Nat} (o : Option Loc)
    (hsz : sizeT P e = some sz) (hz : 0 < sz) (hall : ∀ x ∈ xs, x.cells.length = sz) (hcap : xs.length ≤ cap)
    (hr : ∀ j, j < (flat xs).length → j < cs.size ∧ Rep P (G.mem w) ((flat xs).getD j .undef) (cs.getD j undef) ∧ (cs.getD j undef).oneCell' = true) :
    Rep P ((G.list w.heap.size (xs.length * sz) o).mem w') (.lst e xs []) (.slice (some ⟨w.heap.size, 0, none⟩) xs.length cap) := by
  have hfl := flat_len xs hall
  refine .lst e xs [] _ cap sz w.heap.size 0 (fun j => cs.getD j undef) hsz hz (by simpa using hall) (by simpa using hcap) (fun _ => rfl) ?_ ?_ ?_
  · intro j hj
    simp only [List.append_nil] at hj
    obtain ⟨h1, _, _⟩ := hr j hj
    show pmOf w' _ _ _ = _
    unfold pmOf
    have : (G.list w.heap.size (xs.length * sz) o).lim w.heap.size = xs.length * sz := upd_same _ _ _
    rw [this, if_pos (by omega)]
    simp [World.cell?, hn, h1]
  · intro j hj
    simp only [List.append_nil] at hj ⊢
    exact ((list_grow g hb _ o).ext g).rep (hr j hj).2.1
  · intro j hj
    simp only [List.append_nil] at hj
    exact (hr j hj).2.2

end
end Go.Proofs.YtomheegfobcijaaGreatDoor.Am
