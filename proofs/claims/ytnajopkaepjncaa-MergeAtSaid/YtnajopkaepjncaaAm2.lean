/- The abstract machine, second part: regions, statements, calls. Definitions alone. -/
import Derived.Test.YtnajopkaepjncaaAm1
namespace Go.Proofs.Ytnajopkaepjncaa.Am
set_option linter.unusedVariables false

def flat (xs : List AV) : List AV := xs.flatMap AV.cells

def Loc.beq : Loc → Loc → Bool
  | .slot a, .slot b => Nat.beq a b
  | .cell a b, .cell c d => Nat.beq a c && Nat.beq b d
  | _, _ => false
def Loc.lt : Loc → Loc → Bool
  | .slot a, .slot b => Nat.blt a b
  | .slot _, .cell _ _ => true
  | .cell _ _, .slot _ => false
  | .cell a b, .cell c d => Nat.blt a c || (Nat.beq a c && Nat.blt b d)
/-- In order, each once. -/
def insL (x : Loc) : List Loc → List Loc
  | [] => [x]
  | y :: r => cond (Loc.lt x y) (x :: y :: r) (cond (Loc.beq x y) (y :: r) (y :: insL x r))
def canon (l : List Loc) : List Loc := l.foldr insL []
def owns (own : List Loc) (l : Loc) : Bool := own.any (Loc.beq l)
def drop (own : List Loc) (l : Loc) : List Loc := own.filter fun m => !(Loc.beq l m)
def give (own : List Loc) (l : Loc) : List Loc := l :: drop own l
def Loc.isCell : Loc → Bool
  | .cell _ _ => true
  | .slot _ => false
/-- No cell of a piece of a block is one's own any more. -/
def dropCells (own : List Loc) (id off n : Nat) : List Loc :=
  own.filter fun
    | .cell i o => !(Nat.beq i id && Nat.ble off o && Nat.blt o (off + n))
    | .slot _ => true

/-- What the outside of a function tells its body: how calls end. -/
abbrev Out := AV × List (Option Blk) × List Loc
abbrev CallA := FuncId → List AV → List (Option Blk) → List Loc → Option Out

/-- What an operation comes to: its value, the heap, whose ends are whose; does the end of the value go with it? -/
structure Res where
  val : AV
  H : List (Option Blk)
  own : List Loc
  gives : Bool

def isTmp (t : Nat) : Operand → Bool
  | .tmp s => Nat.beq s t
  | _ => false
/-- Is a slot what some 'append' of the region appends to? -/
def appSrc (ops : List Oper) (t : Nat) : Bool :=
  ops.any fun o => match o.op with
    | .call { callee := .builtin .append, args, .. } => match args.toList with
      | [s, _] => isTmp t s
      | _ => false
    | _ => false
def appDst (ops : List Oper) : Option Nat → Bool
  | some d => appSrc ops d
  | none => false

/-- The elements that are appended. -/
def tailA (P : Program) (e : TypeId) (ts t : TypeId) (y : AV) : Option (List AV) :=
  match P.underlying t, y with
  | some (.slice e'), .lst e'' ys _ => if ts = t ∧ e'' = e then some ys else none
  | some (.slice e'), .nils => if ts = t then some [] else none
  | some .string, .str s => match P.underlying e, sizeT P e with
    | some (.int .u8), some 1 => some (s.map fun b => .int .u8 b.toNat)
    | _, _ => none
  | _, _ => none
def appendA (P : Program) (env : List (Nat × AV)) (H : List (Option Blk)) (own : List Loc) (s x : Operand) (ts tx : TypeId) : Option Res :=
  match P.underlying ts, evalO env s, evalO env x with
  | some (.slice e), some a, some b => match tailA P e ts tx b, P.info? e, zeroT P e with
    | some ys, some i, some z => match a with
      | .nils => if ys.length * i.bytes ≤ 140737488355328 ∧ ys.length ≤ 140737488355328 ∧ 0 < i.size ∧ z.length = i.size then some ⟨.lst e ys [], H, own, true⟩ else none
      | .lst e' xs [] => match s with
        | .tmp t => if owns own (.slot t) = true ∧ e' = e ∧ (xs.length + ys.length) * i.bytes ≤ 140737488355328 ∧ xs.length + ys.length ≤ 140737488355328 ∧ 0 < i.size ∧ z.length = i.size then
            some ⟨.lst e (xs ++ ys) [], H, drop own (.slot t), true⟩ else none
        | _ => none
      | _ => none
    | _, _, _ => none
  | _, _, _ => none

def byteA : AV → Option UInt8
  | .int .u8 n => some (UInt8.ofNat n.toNat)
  | _ => none
def natA (x : AV) : Option Nat :=
  match x with
  | .int _ n => if 0 ≤ n then some n.toNat else none
  | _ => none

/-- The method of a value behind an interface: its function, and the receiver that it takes. -/
def methodA (P : Program) (H : List (Option Blk)) (t : TypeId) (v : AV) (name : String) : Option (FuncId × AV) :=
  match P.info? t with
  | some i => match i.methods.find? (·.name == name) with
    | some m => if m.path.size = 0 then (match m.func, P.underlying t with
      | some (f, true), some (.pointer _) => some (f, v)
      | some (f, false), some (.pointer e) => match v with
        | .ptr _ _ => (loadA P H e v).map fun x => (f, x)
        | _ => none
      | some (f, false), some (.slice _) => some (f, v)
      | some (f, false), some (.struct _) => some (f, v)
      | some (f, false), some (.int _) => some (f, v)
      | _, _ => none) else none
    | none => none
  | none => none

def hasBody (P : Program) (f : FuncId) : Bool :=
  match P.funcs[f]? with
  | some fn => fn.body.isSome
  | none => false
def callA (call : CallA) (P : Program) (H : List (Option Blk)) (own : List Loc) (f : FuncId) (args : List AV) : Option Res :=
  cond (hasBody P f) (match call f args H (canon (own.filter Loc.isCell)) with
    | some (x, H', own') => some ⟨x, H', own.filter (fun l => !l.isCell) ++ own'.filter Loc.isCell, false⟩
    | none => none) none
def plainRes (H : List (Option Blk)) (own : List Loc) (x : Option AV) : Option Res := x.map fun v => ⟨v, H, own, false⟩

def core (call : CallA) (P : Program) (ops : List Oper) (o : Oper) (env : List (Nat × AV)) (H : List (Option Blk)) (own : List Loc) : Option Res :=
  match o.op with
  | .move (.tmp v) => some (cond (owns own (.slot v) && appDst ops o.dst) ⟨look env v, H, drop own (.slot v), true⟩ ⟨look env v, H, own, false⟩)
  | .load t a => match evalO env a with
    | some p => match loadA P H t p with
      | some x => match p with
        | .ptr id off => some (cond (owns own (.cell id off) && appDst ops o.dst && (sizeT P t == some 1) && (isAggT P t == some false)) ⟨x, H, drop own (.cell id off), true⟩ ⟨x, H, own, false⟩)
        | _ => some ⟨x, H, own, false⟩
      | none => none
    | none => none
  | .alloc e => match zeroT P e with
    | some z => some ⟨.ptr H.length 0, H ++ [some ⟨e, z⟩], own, false⟩
    | none => none
  | .box e x => match evalO env x with
    | some v => if 0 < v.cells.length then some ⟨.ptr H.length 0, H ++ [some ⟨e, v.cells⟩], own, false⟩ else none
    | none => none
  | .store t a x => match evalO env a, evalO env x with
    | some (.ptr id off), some v => match storeA P H t (.ptr id off) v with
      | some H' => some ⟨.tup [], H',
          (match x with
           | .tmp s => cond (owns own (.slot s) && v.isOne) (give (drop (dropCells own id off v.cells.length) (.slot s)) (.cell id off)) (dropCells own id off v.cells.length)
           | _ => dropCells own id off v.cells.length), false⟩
      | _ => none
    | _, _ => none
  | .assign x => match evalO env x with
    | some v => match x with
      | .tmp s => some (cond (owns own (.slot s)) ⟨v, H, drop own (.slot s), true⟩ ⟨v, H, own, false⟩)
      | _ => some ⟨v, H, own, false⟩
    | none => none
  | .buildSlice t len parts => match P.underlying t, evalParts env parts.toList with
    | some (.slice e), some ps => match sizeT P e, zeroT P e with
      | some sz, some z => if len * sz ≤ 16777216 ∧ 0 < sz ∧ z.length = sz then
          (match fillA (fun i => some (i * sz, sz)) (rep len z) ps with
           | some cs => match chop P e sz len cs with
             | some xs => some ⟨.lst e xs [], H, own, true⟩
             | none => none
           | none => none) else none
      | _, _ => none
    | _, _ => none
  | .makeSlice t len cap => match P.underlying t, evalO env len, evalO env cap with
    | some (.slice e), some n, some c => match natA n, natA c, P.info? e, zeroT P e with
      | some n, some c, some i, some z => if n ≤ c ∧ c * i.bytes ≤ 140737488355328 ∧ c ≤ 140737488355328 ∧ 0 < i.size ∧ z.length = i.size then
          (match ofCells P e z with
           | some x => some ⟨.lst e (List.replicate n x) [], H, own, true⟩
           | none => none) else none
      | _, _, _, _ => none
    | _, _, _ => none
  | .convert src dst x => match P.underlying src, P.underlying dst, evalO env x with
    | some .string, some (.slice e), some (.str s) => match P.underlying e, sizeT P e with
      | some (.int .u8), some 1 => some ⟨.lst e (s.map fun b => .int .u8 b.toNat) [], H, own, false⟩
      | _, _ => none
    | some (.slice e), some .string, some (.lst e' xs _) => match P.underlying e with
      | some (.int .u8) => if e = e' then plainRes H own ((xs.mapM byteA).map .str) else none
      | _ => none
    | some (.slice e), some .string, some .nils => match P.underlying e with
      | some (.int .u8) => some ⟨.str [], H, own, false⟩
      | _ => none
    | _, _, some a => plainRes H own (convA P src dst a)
    | _, _, none => none
  | .call { callee := .value f, args, .. } => match evalO env f, evalL env args.toList with
    | some (.fn g cap), some vs => callA call P H own g (vs ++ cap)
    | _, _ => none
  | .call { callee := .invoke r name, args, .. } => match evalO env r, evalL env args.toList with
    | some (.iface t v), some vs => match methodA P H t v name with
      | some (f, x) => callA call P H own f (x :: vs)
      | none => none
    | _, _ => none
  | .call { callee := .builtin .append, args, argTypes } => match args.toList, argTypes.toList with
    | [s, x], [ts, tx] => appendA P env H own s x ts tx
    | _, _ => none
  | op => plainRes H own (pureOp P env op)

def Res.put (r : Res) (nt : Nat) (env : List (Nat × AV)) (dst : Option Nat) : Option St :=
  match dst with
  | none => some ⟨env, r.H, r.own⟩
  | some d => if d < nt then some ⟨(d, r.val) :: env, r.H, cond r.gives (give r.own (.slot d)) (drop r.own (.slot d))⟩ else none
def allocOp (o : Oper) : Bool :=
  match o.op with
  | .alloc _ => true
  | .box _ _ => true
  | _ => false
/-- The how-manyth of the region's operations that make blocks puts its value into this slot? -/
def rank : List Oper → Nat → Option Nat
  | [], _ => none
  | o :: r, d => cond (allocOp o) (cond (o.dst == some d) (some 0) ((rank r d).map (· + 1))) (rank r d)
def allocs (ops : List Oper) : Nat := (ops.filter allocOp).length
/-- A block is made at a place that was kept for it. -/
def newAt (P : Program) (o : Oper) (env : List (Nat × AV)) (H : List (Option Blk)) (own : List Loc) (id : Nat) : Option Res :=
  match H[id]? with
  | some none => match o.op with
    | .alloc e => match zeroT P e with
      | some z => some ⟨.ptr id 0, H.set id (some ⟨e, z⟩), own, false⟩
      | none => none
    | .box e x => match evalO env x with
      | some v => if 0 < v.cells.length then some ⟨.ptr id 0, H.set id (some ⟨e, v.cells⟩), own, false⟩ else none
      | none => none
    | _ => none
  | _ => none
/-- Are there operations of which one has to stand ahead of the other only in some orders? -/
def late (ops : List Oper) : Bool := ops.any fun o => o.after.toList.any fun e => !(Region.binds .any e)
/-- There, blocks of the region's own are written, others are read. -/
def lateOk (base : Nat) (o : Oper) (env : List (Nat × AV)) : Bool :=
  match o.op with
  | .load _ a => match evalO env a with
    | some (.ptr id _) => Nat.blt id base
    | _ => true
  | .store _ a _ => match evalO env a with
    | some (.ptr id _) => Nat.ble base id
    | _ => true
  | _ => true
/-- Lists of these elements' types (or that are put into these slots) are written into: they lie in blocks of the machine's own. -/
def mutT (e : TypeId) (dst : Option Nat) : Bool := [4, 61].any (Nat.beq e) || match dst with
  | some d => ([(39, 64)] : List (Nat × Nat)).any fun p => Nat.beq p.1 e && Nat.beq p.2 d
  | none => false
/-- Does an operation make a list that is written into? -/
def slElem (P : Program) (dst : Option Nat) (op : Op) : Option TypeId :=
  match op with
  | .makeSlice t _ _ => match P.underlying t with
    | some (.slice e) => cond (mutT e dst) (some e) none
    | _ => none
  | .call { callee := .builtin .append, argTypes, .. } => match argTypes.toList with
    | ts :: _ => match P.underlying ts with
      | some (.slice e) => cond (mutT e dst) (some e) none
      | _ => none
    | _ => none
  | _ => none
/-- Such lists, made. What is appended to is dead behind it. -/
def newSl (P : Program) (e : TypeId) (op : Op) (env : List (Nat × AV)) (H : List (Option Blk)) (own : List Loc) : Option Res :=
  match op with
  | .makeSlice t len cap => match P.underlying t, evalO env len, evalO env cap with
    | some (.slice e'), some n, some c => match natA n, natA c, P.info? e, zeroT P e with
      | some n, some c, some i, some z => if e' = e ∧ n ≤ c ∧ c * i.bytes ≤ 140737488355328 ∧ c ≤ 140737488355328 ∧ 0 < i.size ∧ z.length = i.size then
          some ⟨.sl e H.length 0 n, H ++ [some ⟨e, rep c z⟩], own, false⟩ else none
      | _, _, _, _ => none
    | _, _, _ => none
  | .call { callee := .builtin .append, args, argTypes } => match args.toList, argTypes.toList with
    | [s, x], [ts, tx] => match P.underlying ts, evalO env s, evalO env x with
      | some (.slice e'), some a, some b => match tailA P e ts tx b, P.info? e, zeroT P e with
        | some ys, some i, some z => match a with
          | .nils => if e' = e ∧ 0 < ys.length ∧ ys.length * i.bytes ≤ 140737488355328 ∧ ys.length ≤ 140737488355328 ∧ 0 < i.size ∧ z.length = i.size then
              some ⟨.sl e H.length 0 ys.length, H ++ [some ⟨e, flat ys⟩], own, false⟩ else none
          | .sl e'' id off len => match H[id]? with
            | some (some k) => if e' = e ∧ e'' = e ∧ k.e = e ∧ off = 0 ∧ 0 < k.cs.length ∧ len * i.size ≤ k.cs.length ∧ (len + ys.length) * i.bytes ≤ 140737488355328 ∧ len + ys.length ≤ 140737488355328 ∧ 0 < i.size ∧ z.length = i.size then
                some ⟨.sl e H.length 0 (len + ys.length), H.set id (some ⟨e, []⟩) ++ [some ⟨e, k.cs.take (len * i.size) ++ flat ys⟩], own, false⟩ else none
            | _ => none
          | _ => none
        | _, _, _ => none
      | _, _, _ => none
    | _, _ => none
  | _ => none
/-- 'core', where blocks are made at kept places: in regions that draw their order. -/
def coreP (call : CallA) (P : Program) (pre : Option (Nat × Bool)) (ops : List Oper) (o : Oper) (env : List (Nat × AV)) (H : List (Option Blk)) (own : List Loc) : Option Res :=
  match pre with
  | none => match slElem P o.dst o.op with
    | some e => newSl P e o.op env H own
    | none => core call P ops o env H own
  | some (base, lt) => cond (allocOp o) (match o.dst with
    | some d => match rank ops d with
      | some k => newAt P o env H own (base + k)
      | none => none
    | none => none) (cond (lt && !(lateOk base o env)) none (core call P ops o env H own))
def stepOp (call : CallA) (P : Program) (nt : Nat) (pre : Option (Nat × Bool)) (ops : List Oper) (o : Oper) (st : St) : Option St :=
  match coreP call P pre ops o st.env st.H st.own with
  | some r => r.put nt st.env o.dst
  | none => none

/-- Is an operation asked for? none: it can't be told. -/
def wantedA (ops : List Oper) (env : List (Nat × AV)) (o : Oper) : Option Bool :=
  match o.guard with
  | none => some true
  | some (j, want) => match ops[j]? with
    | some { dst := some d, .. } => match look env d with
      | .bool b => some (b == want)
      | .tup [] => some false
      | _ => none
    | _ => none
def stepW (call : CallA) (P : Program) (nt : Nat) (pre : Option (Nat × Bool)) (ops : List Oper) (o : Oper) (st : St) : Option St :=
  match wantedA ops st.env o with
  | some true => stepOp call P nt pre ops o st
  | some false => Res.put ⟨.tup [], st.H, st.own, false⟩ nt st.env o.dst
  | none => none
def runOps (call : CallA) (P : Program) (nt : Nat) (pre : Option (Nat × Bool)) (ops : List Oper) : List Oper → St → Option St
  | [], st => some st
  | o :: r, st => match stepW call P nt pre ops o st with
    | some st' => runOps call P nt pre ops r st'
    | none => none

/-- Does an operation ask whose an end is, or turn that? -/
def ends (ops : List Oper) (o : Oper) : Bool :=
  match o.op with
  | .move (.tmp _) => appDst ops o.dst
  | .load _ _ => appDst ops o.dst
  | .store _ _ _ => true
  | .assign _ => true
  | .call { callee := .value _, .. } => true
  | .call { callee := .invoke _ _, .. } => true
  | .call { callee := .builtin .append, .. } => true
  | _ => false
def keep (vars : List Nat) (st : St) : St :=
  { st with env := vars.map (fun s => (s, look st.env s)), own := st.own.filter fun
      | .slot s => vars.any (Nat.beq s)
      | .cell _ _ => true }

inductive Ex where
  | normal
  | exit (id : Nat)
  | ret

/-- What is known of a program's functions by heart: which slots outlive a region, which calls go by a law of their own. -/
structure Know where
  vars : FuncId → Nat → List Nat
  short : FuncId → Option (List AV → List (Option Blk) → List Loc → Option Out)

def execWith (call : CallA) (P : Program) (vars : Nat → List Nat) (nt : Nat) (self : Code → St → Option (Ex × St)) : Code → St → Option (Ex × St)
  | .skip, st => some (.normal, st)
  | .region id ops draw, st => match cond draw (runOps call P nt (some (st.H.length, late ops.toList)) ops.toList ops.toList { st with H := st.H ++ List.replicate (allocs ops.toList) none }) (runOps call P nt none ops.toList ops.toList st) with
    | some st' => some (.normal, keep (vars id) st')
    | none => none
  | .seq a b, st => match self a st with
    | some (.normal, st') => self b st'
    | r => r
  | .cond c a b, st => match evalO st.env c with
    | some (.bool t) => cond t (self a st) (self b st)
    | _ => none
  | .block id c, st => match self c st with
    | some (.exit i, st') => cond (Nat.beq i id) (some (.normal, st')) (some (.exit i, st'))
    | r => r
  | .loop c, st => match self c st with
    | some (.normal, st') => self (.loop c) st'
    | r => r
  | .exit id, st => some (.exit id, st)
  | .label _, st => some (.normal, st)
  | .ret, st => some (.ret, st)
  | _, _ => none

def resultA (P : Program) (st : St) : ResultVar → Option AV
  | .tmp t => some (look st.env t)
  | .cell a t => match look st.env a with
    | .ptr id off => loadA P st.H t (.ptr id off)
    | _ => none
def resultsA (P : Program) (st : St) (rs : List ResultVar) : Option AV :=
  match rs with
  | [r] => resultA P st r
  | rs => (rs.mapM (resultA P st)).map .tup
def zipArgs : Nat → List AV → List (Nat × AV)
  | _, [] => []
  | k, x :: r => (k, x) :: zipArgs (k + 1) r

def bodyA (ex : (Nat → List Nat) → Nat → Code → St → Option (Ex × St)) (P : Program) (K : Know) (f : FuncId) (args : List AV) (H : List (Option Blk)) (own : List Loc) : Option Out :=
  match P.funcs[f]? with
  | some fn => match fn.body with
    | some c => if args.length ≤ fn.ntmps then
        (match ex (K.vars f) fn.ntmps c ⟨zipArgs 0 args, H, own.filter Loc.isCell⟩ with
         | some (.ret, st) => (resultsA P st fn.results.toList).map fun x => (x, st.H, st.own.filter Loc.isCell)
         | some (.normal, st) => (resultsA P st fn.results.toList).map fun x => (x, st.H, st.own.filter Loc.isCell)
         | _ => none) else none
    | none => none
  | none => none

mutual
def exec (P : Program) (K : Know) : Nat → (Nat → List Nat) → Nat → Code → St → Option (Ex × St)
  | 0, _, _, _, _ => none
  | n + 1, vars, nt, c, st => execWith (callN P K n) P vars nt (exec P K n vars nt) c st
def callN (P : Program) (K : Know) : Nat → CallA
  | 0, _, _, _, _ => none
  | n + 1, f, args, H, own => match K.short f with
    | some g => g args H own
    | none => bodyA (exec P K n) P K f args H own
end

end Go.Proofs.Ytnajopkaepjncaa.Am
