/- Walks, first part: what an operation asks, as a proposition that unfolds step by step. Definitions alone. -/
import Derived.Test.YtnajopkaepjncaaM2
import GoSem.ClaimChange
import Derived.ChangeReads
import Derived.RowKit
/- Walks, first part: what an operation asks, as a proposition that unfolds step by step. Definitions alone. -/
namespace Go.Proofs.Ytnajopkaepjncaa.Am
set_option linter.unusedVariables false

/-- A state, with the owned slots and the owned cells apart. -/
structure S2 where
  env : List (Nat × AV)
  H : List (Option Blk)
  slots : List Nat
  cells : List (Nat × Nat)
structure R2 where
  val : AV
  H : List (Option Blk)
  slots : List Nat
  cells : List (Nat × Nat)
  gives : Bool

def ownOf (slots : List Nat) (cells : List (Nat × Nat)) : List Loc := slots.map Loc.slot ++ cells.map fun p => Loc.cell p.1 p.2
def has (slots : List Nat) (s : Nat) : Bool := slots.any (Nat.beq s)
def drp (slots : List Nat) (s : Nat) : List Nat := slots.filter fun q => !(Nat.beq s q)

/-- A value is looked at. -/
def frc (v : AV) (k : AV → Prop) : Prop :=
  match v with
  | .undef => k .undef
  | .bool b => k (.bool b)
  | .int a b => k (.int a b)
  | .str s => k (.str s)
  | .agg cs => k (.agg cs)
  | .tup cs => k (.tup cs)
  | .nils => k .nils
  | .lst e xs sp => k (.lst e xs sp)
  | .sl e i o l => k (.sl e i o l)
  | .nilp => k .nilp
  | .ptr i o => k (.ptr i o)
  | .ept cs o => k (.ept cs o)
  | .nilfn => k .nilfn
  | .fn f c => k (.fn f c)
  | .nili => k .nili
  | .iface t v => k (.iface t v)
  | .nilm => k .nilm
  | .map i => k (.map i)
/-- A list that stands written out is looked at, end to end. -/
def frcS : List Nat → (List Nat → Prop) → Prop
  | [], k => k []
  | a :: r, k => frcS r fun r' => k (a :: r')
def frcL : List AV → (List AV → Prop) → Prop
  | [], k => k []
  | a :: r, k => frc a fun a' => frcL r fun r' => k (a' :: r')
/-- Its parts, too. -/
def frcA (v : AV) (k : AV → Prop) : Prop :=
  match v with
  | .agg cs => frcL cs fun cs => k (.agg cs)
  | v => frc v k
def frcM : List AV → (List AV → Prop) → Prop
  | [], k => k []
  | a :: r, k => frcA a fun a' => frcM r fun r' => k (a' :: r')
def frcD (v : AV) (k : AV → Prop) : Prop :=
  match v with
  | .agg cs => frcL cs fun cs => k (.agg cs)
  | .lst e xs sp => frcM xs fun xs => k (.lst e xs sp)
  | v => frc v k
def wOpt (x : Option AV) (k : AV → Prop) : Prop :=
  match x with
  | some v => frc v k
  | none => False
def wO (env : List (Nat × AV)) (x : Operand) (k : AV → Prop) : Prop := wOpt (evalO env x) k
def wL (env : List (Nat × AV)) : List Operand → (List AV → Prop) → Prop
  | [], k => k []
  | x :: r, k => wO env x fun v => wL env r fun vs => k (v :: vs)
def wOptO (env : List (Nat × AV)) (x : Option Operand) (k : Option AV → Prop) : Prop :=
  match x with
  | none => k none
  | some x => wO env x fun v => k (some v)

def isArith : BinOp → Bool
  | .add => true
  | .sub => true
  | .mul => true
  | .quo => true
  | .rem => true
  | .and => true
  | .or => true
  | .xor => true
  | .andNot => true
  | .shl => true
  | .shr => true
  | _ => false
def wBin (P : Program) (op : BinOp) (t : TypeId) (x y : Operand) (a b : AV) (k : AV → Prop) : Prop :=
  match a, b with
  | .int _ _, .int _ _ => match isArith op with
    | true => ∃ v, binOpA P op t x y a b = some v ∧ k v
    | false => wOpt (binOpA P op t x y a b) k
  | .str _, .str _ => match isArith op with
    | true => ∃ v, binOpA P op t x y a b = some v ∧ k v
    | false => wOpt (binOpA P op t x y a b) k
  | _, _ => ∃ v, binOpA P op t x y a b = some v ∧ k v
def wIdxA (P : Program) (t : TypeId) (x i : AV) (k : AV → Prop) : Prop :=
  match P.underlying t, i, x with
  | some (.slice elem), .int _ n, .lst e xs _ => match Nat.beq e elem with
    | true => 0 ≤ n ∧ ∃ v, xs[n.toNat]? = some v ∧ k (.ept v.cells 0)
    | false => False
  | _, _, _ => ∃ v, indexAddrA P t x i = some v ∧ k v

/-- 'buildA', by lists. -/
def buildB (P : Program) (t : TypeId) (parts : List (Nat × AV)) : Option AV :=
  match zeroT P t, P.underlying t with
  | some z, some (.struct fields) => match fields.toList.all fun f => (sizeT P f.type).isSome with
    | true => (fillA (places P fields) z parts).map .agg
    | false => none
  | some z, some (.array _ elem) => match sizeT P elem with
    | some size => (fillA (fun i => some (i * size, size)) z parts).map .agg
    | none => none
  | _, _ => none
theorem buildB_eq (P : Program) (t : TypeId) (parts : List (Nat × AV)) : buildB P t parts = buildA P t parts := by
  unfold buildB buildA
  cases zeroT P t with
  | none => rfl
  | some z =>
    cases P.underlying t with
    | none => rfl
    | some d =>
      cases d with
      | struct fields =>
        simp only
        rw [Array.all_toList]
        cases fields.all fun f => (sizeT P f.type).isSome <;> rfl
      | array n elem => simp only; cases sizeT P elem <;> rfl
      | _ => rfl
def wPure (P : Program) (env : List (Nat × AV)) (op : Op) (k : AV → Prop) : Prop :=
  match op with
  | .binOp op t x y _ => wO env x fun a => wO env y fun b => wBin P op t x y a b k
  | .unOp op _ x => wO env x fun a => match a with
    | .int _ _ => ∃ v, unOpA op a = some v ∧ k v
    | _ => wOpt (unOpA op a) k
  | .indexAddr t x i => wO env x fun a => wO env i fun b => wIdxA P t a b k
  | .index t x i => wO env x fun a => wO env i fun b => ∃ v, indexA P t a b = some v ∧ k v
  | .build t parts => match evalParts env parts.toList with
    | some ps => match buildB P t ps with
      | some v => frcD v k
      | none => False
    | none => False
  | .slice t x lo hi mx => wO env x fun a => wOptO env lo fun l => wOptO env hi fun h => wOptO env mx fun m => ∃ v, sliceA P t a l h m = some v ∧ k v
  | op => wOpt (pureOp P env op) k

/-- What is known of a call, whatever the fuel, from some on. -/
def Ev (p : Nat → Prop) : Prop := ∃ N, ∀ n, N ≤ n → p n
def SetEq (own own' : List Loc) : Prop := ∀ l, l ∈ own ↔ l ∈ own'
def CallsA (P : Program) (K : Know) (f : FuncId) (args : List AV) (H : List (Option Blk)) (cells : List (Nat × Nat)) (x : AV) (H' : List (Option Blk)) (cells' : List (Nat × Nat)) : Prop :=
  ∀ own, SetEq own (ownOf [] cells) → ∃ own', SetEq own' (ownOf [] cells') ∧ Ev fun n => callN P K n f args H own = some (x, H', own')

def wCall (P : Program) (K : Know) (f : FuncId) (args : List AV) (s : S2) (k : R2 → Prop) : Prop :=
  match hasBody P f with
  | true => ∃ x H' cells', CallsA P K f args s.H s.cells x H' cells' ∧ frc x fun x => k ⟨x, H', s.slots, cells', false⟩
  | false => False
def wMoved (slots : List Nat) (x : Operand) (k : List Nat → Bool → Prop) : Prop :=
  match x with
  | .tmp v => match has slots v with
    | true => k (drp slots v) true
    | false => k slots false
  | _ => k slots false
def wAppend (P : Program) (s : S2) (x y : Operand) (ts ty : TypeId) (k : R2 → Prop) : Prop :=
  wO s.env x fun a => wO s.env y fun b =>
  match P.underlying ts with
  | some (.slice e) => match P.info? e, zeroT P e with
    | some i, some z => ∃ ys, tailA P e ts ty b = some ys ∧ (match a with
      | .nils => ys.length * i.bytes ≤ 140737488355328 ∧ ys.length ≤ 140737488355328 ∧ 0 < i.size ∧ z.length = i.size ∧ k ⟨.lst e ys [], s.H, s.slots, s.cells, true⟩
      | .lst e' xs [] => match x with
        | .tmp t => has s.slots t = true ∧ e' = e ∧ (xs.length + ys.length) * i.bytes ≤ 140737488355328 ∧ xs.length + ys.length ≤ 140737488355328 ∧ 0 < i.size ∧ z.length = i.size ∧ ∃ zs, xs ++ ys = zs ∧ k ⟨.lst e zs [], s.H, drp s.slots t, s.cells, true⟩
        | _ => False
      | _ => False)
    | _, _ => False
  | _ => False
def wStored (s : S2) (x : Operand) (v : AV) (id off : Nat) (k : List Nat → List (Nat × Nat) → Prop) : Prop :=
  wMoved s.slots x fun sl mv => match mv && v.isOne with
    | true => ∃ cs, (∀ p, p ∈ cs ↔ p = (id, off) ∨ (p ∈ s.cells ∧ ¬ (p.1 = id ∧ off ≤ p.2 ∧ p.2 < off + v.cells.length))) ∧ k sl cs
    | false => ∃ cs, (∀ p, p ∈ cs ↔ (p ∈ s.cells ∧ ¬ (p.1 = id ∧ off ≤ p.2 ∧ p.2 < off + v.cells.length))) ∧ k s.slots cs

/-- A piece of a block, read. -/
def wRd (P : Program) (t : TypeId) (off : Nat) (cs : List AV) (k : AV → Prop) : Prop :=
  match sizeT P t with
  | some n => match Nat.ble (off + n) cs.length with
    | true => wOpt (ofCells P t ((cs.drop off).take n)) k
    | false => False
  | none => False
def wCore (P : Program) (K : Know) (ops : List Oper) (o : Oper) (s : S2) (k : R2 → Prop) : Prop :=
  match o.op with
  | .move (.tmp v) => frc (look s.env v) fun x => match has s.slots v && appDst ops o.dst with
    | true => k ⟨x, s.H, drp s.slots v, s.cells, true⟩
    | false => k ⟨x, s.H, s.slots, s.cells, false⟩
  | .load t a => wO s.env a fun p => match p with
    | .ptr id off => ∃ b, s.H[id]? = some (some b) ∧ wRd P t off b.cs fun v => (match appDst ops o.dst && (sizeT P t == some 1) && (isAggT P t == some false) with
      | true => ((id, off) ∈ s.cells ∧ ∃ cs, (∀ p, p ∈ cs ↔ p ∈ s.cells ∧ p ≠ (id, off)) ∧ k ⟨v, s.H, s.slots, cs, true⟩) ∨ ((id, off) ∉ s.cells ∧ k ⟨v, s.H, s.slots, s.cells, false⟩)
      | false => k ⟨v, s.H, s.slots, s.cells, false⟩)
    | p => wOpt (loadA P s.H t p) fun v => k ⟨v, s.H, s.slots, s.cells, false⟩
  | .alloc e => match zeroT P e with
    | some z => ∃ id, s.H.length = id ∧ ∃ H', s.H ++ [some ⟨e, z⟩] = H' ∧ k ⟨.ptr id 0, H', s.slots, s.cells, false⟩
    | none => False
  | .box e x => wO s.env x fun v => 0 < v.cells.length ∧ ∃ id, s.H.length = id ∧ ∃ H', s.H ++ [some ⟨e, v.cells⟩] = H' ∧ k ⟨.ptr id 0, H', s.slots, s.cells, false⟩
  | .store t a x => wO s.env a fun p => wO s.env x fun v => match p with
    | .ptr id off => match sizeT P t with
      | some n => ∃ b, s.H[id]? = some (some b) ∧ v.cells.length = n ∧ 0 < n ∧ off + n ≤ b.cs.length ∧ ∃ H', s.H.set id (some ⟨b.e, splice b.cs off v.cells⟩) = H' ∧ wStored s x v id off fun sl cs => k ⟨.tup [], H', sl, cs, false⟩
      | none => False
    | _ => False
  | .assign x => wO s.env x fun v => wMoved s.slots x fun sl mv => k ⟨v, s.H, sl, s.cells, mv⟩
  | .buildSlice t len parts => match core (fun _ _ _ _ => none) P ops o s.env [] [] with
    | some r => frcD r.val fun v => k ⟨v, s.H, s.slots, s.cells, true⟩
    | none => False
  | .makeSlice t len cap => wO s.env len fun n => wO s.env cap fun c => match P.underlying t with
    | some (.slice e) => match natA n, natA c, P.info? e, zeroT P e with
      | some n, some c, some i, some z => n ≤ c ∧ c * i.bytes ≤ 140737488355328 ∧ c ≤ 140737488355328 ∧ 0 < i.size ∧ z.length = i.size ∧ (match ofCells P e z with
        | some x => ∃ zs, List.replicate n x = zs ∧ k ⟨.lst e zs [], s.H, s.slots, s.cells, true⟩
        | none => False)
      | _, _, _, _ => False
    | _ => False
  | .convert src dst x => wO s.env x fun a => ∃ v, core (fun _ _ _ _ => none) P ops o s.env [] [] = some ⟨v, [], [], false⟩ ∧ k ⟨v, s.H, s.slots, s.cells, false⟩
  | .call { callee := .value f, args, .. } => wO s.env f fun fv => match fv with
    | .fn g cap => wL s.env args.toList fun vs => wCall P K g (vs ++ cap) s k
    | _ => False
  | .call { callee := .invoke r name, args, .. } => wO s.env r fun rv => match rv with
    | .iface t v => wL s.env args.toList fun vs => ∃ f x, methodA P s.H t v name = some (f, x) ∧ wCall P K f (x :: vs) s k
    | _ => False
  | .call { callee := .builtin .append, args, argTypes } => match args.toList, argTypes.toList with
    | [x, y], [ts, ty] => wAppend P s x y ts ty k
    | _, _ => False
  | op => wPure P s.env op fun v => k ⟨v, s.H, s.slots, s.cells, false⟩

def gSlot (ops : List Oper) (d : Nat) : Bool := ops.any fun o => match o.guard with
  | some (j, _) => match ops[j]? with
    | some p => p.dst == some d
    | none => false
  | none => false
def putOwn2 (slots : List Nat) (gives : Bool) (d : Nat) : List Nat :=
  match gives with
  | true => d :: drp slots d
  | false => drp slots d
/-- The value is put; where a guard asks for it, it is told which it is. -/
def wPut (nt : Nat) (ops : List Oper) (env : List (Nat × AV)) (dst : Option Nat) (r : R2) (k : S2 → Prop) : Prop :=
  match dst with
  | none => frcS r.slots fun sl => k ⟨env, r.H, sl, r.cells⟩
  | some d => match Nat.blt d nt with
    | true => match r.val, gSlot ops d with
      | .bool b, true => frcS (putOwn2 r.slots r.gives d) fun sl => (b = true → k ⟨(d, .bool true) :: env, r.H, sl, r.cells⟩) ∧ (b = false → k ⟨(d, .bool false) :: env, r.H, sl, r.cells⟩)
      | v, _ => frcS (putOwn2 r.slots r.gives d) fun sl => k ⟨(d, v) :: env, r.H, sl, r.cells⟩
    | false => False
def wNew (P : Program) (o : Oper) (s : S2) (id : Nat) (k : R2 → Prop) : Prop :=
  s.H[id]? = some none ∧ match o.op with
    | .alloc e => match zeroT P e with
      | some z => ∃ H', s.H.set id (some ⟨e, z⟩) = H' ∧ k ⟨.ptr id 0, H', s.slots, s.cells, false⟩
      | none => False
    | .box e x => wO s.env x fun v => 0 < v.cells.length ∧ ∃ H', s.H.set id (some ⟨e, v.cells⟩) = H' ∧ k ⟨.ptr id 0, H', s.slots, s.cells, false⟩
    | _ => False
/-- A list that is written into is made. -/
def wSl (P : Program) (e : TypeId) (op : Op) (s : S2) (k : R2 → Prop) : Prop :=
  match op with
  | .makeSlice t len cap => wO s.env len fun n => wO s.env cap fun c => match P.underlying t with
    | some (.slice e') => match P.info? e, zeroT P e with
      | some i, some z => ∃ n', natA n = some n' ∧ ∃ c', natA c = some c' ∧ e' = e ∧ n' ≤ c' ∧ c' * i.bytes ≤ 140737488355328 ∧ c' ≤ 140737488355328 ∧ 0 < i.size ∧ z.length = i.size ∧ ∃ id, s.H.length = id ∧ ∃ zs, rep c' z = zs ∧ ∃ H', s.H ++ [some ⟨e, zs⟩] = H' ∧ k ⟨.sl e id 0 n', H', s.slots, s.cells, false⟩
      | _, _ => False
    | _ => False
  | .call { callee := .builtin .append, args, argTypes } => match args.toList, argTypes.toList with
    | [x, y], [ts, tx] => wO s.env x fun a => wO s.env y fun b => match P.underlying ts with
      | some (.slice e') => match P.info? e, zeroT P e with
        | some i, some z => ∃ ys, tailA P e ts tx b = some ys ∧ (match a with
          | .nils => e' = e ∧ 0 < ys.length ∧ ys.length * i.bytes ≤ 140737488355328 ∧ ys.length ≤ 140737488355328 ∧ 0 < i.size ∧ z.length = i.size ∧ ∃ id, s.H.length = id ∧ ∃ H', s.H ++ [some ⟨e, flat ys⟩] = H' ∧ k ⟨.sl e id 0 ys.length, H', s.slots, s.cells, false⟩
          | .sl e'' id off len => ∃ b, s.H[id]? = some (some b) ∧ e' = e ∧ e'' = e ∧ b.e = e ∧ off = 0 ∧ 0 < b.cs.length ∧ len * i.size ≤ b.cs.length ∧ (len + ys.length) * i.bytes ≤ 140737488355328 ∧ len + ys.length ≤ 140737488355328 ∧ 0 < i.size ∧ z.length = i.size ∧
              ∃ id', s.H.length = id' ∧ ∃ H', s.H.set id (some ⟨e, []⟩) ++ [some ⟨e, b.cs.take (len * i.size) ++ flat ys⟩] = H' ∧ ∃ m, len + ys.length = m ∧ k ⟨.sl e id' 0 m, H', s.slots, s.cells, false⟩
          | _ => False)
        | _, _ => False
      | _ => False
    | _, _ => False
  | _ => False
def wCoreS (P : Program) (K : Know) (ops : List Oper) (o : Oper) (s : S2) (k : R2 → Prop) : Prop :=
  match slElem P o with
  | some e => wSl P e o.op s k
  | none => wCore P K ops o s k
def wCoreP (P : Program) (K : Know) (pre : Option (Nat × Bool)) (ops : List Oper) (o : Oper) (s : S2) (k : R2 → Prop) : Prop :=
  match pre with
  | none => wCoreS P K ops o s k
  | some (base, lt) => match allocOp o with
    | true => match o.dst with
      | some d => match rank ops d with
        | some q => wNew P o s (base + q) k
        | none => False
      | none => False
    | false => match lt with
      | true => lateOk base o s.env = true ∧ wCoreS P K ops o s k
      | false => wCoreS P K ops o s k
def wStep (P : Program) (K : Know) (nt : Nat) (pre : Option (Nat × Bool)) (ops : List Oper) (o : Oper) (s : S2) (k : S2 → Prop) : Prop :=
  match wantedA ops s.env o with
  | some true => wCoreP P K pre ops o s fun r => wPut nt ops s.env o.dst r k
  | some false => wPut nt ops s.env o.dst ⟨.tup [], s.H, s.slots, s.cells, false⟩ k
  | none => False
def wOps (P : Program) (K : Know) (nt : Nat) (pre : Option (Nat × Bool)) (ops : List Oper) : List Oper → S2 → (S2 → Prop) → Prop
  | [], s, k => k s
  | o :: r, s, k => wStep P K nt pre ops o s fun s1 => wOps P K nt pre ops r s1 k
def wKeep (env : List (Nat × AV)) : List Nat → (List (Nat × AV) → Prop) → Prop
  | [], k => k []
  | v :: r, k => frc (look env v) fun x => wKeep env r fun l => k ((v, x) :: l)
def wKept (vars : List Nat) (s : S2) (k : S2 → Prop) : Prop := wKeep s.env vars fun l => frcS (s.slots.filter fun q => vars.any (Nat.beq q)) fun sl => k ⟨l, s.H, sl, s.cells⟩

/-- The relation that the machine's states stand in. -/
structure Sim (s : S2) (st : St) : Prop where
  env : ∀ k, look st.env k = look s.env k
  H : st.H = s.H
  own : SetEq st.own (ownOf s.slots s.cells)

def W (P : Program) (K : Know) (vars : Nat → List Nat) (nt : Nat) (c : Code) (s : S2) (Q : Ex → S2 → Prop) : Prop :=
  ∃ e s', Q e s' ∧ ∀ st, Sim s st → ∃ st', Sim s' st' ∧ Ev fun n => exec P K n vars nt c st = some (e, st')

def wC (P : Program) (K : Know) (vars : Nat → List Nat) (nt : Nat) : Code → S2 → (Ex → S2 → Prop) → Prop
  | .skip, s, Q => Q .normal s
  | .region id ops draw, s, Q => match draw with
    | false => wOps P K nt none ops.toList ops.toList s fun s1 => wKept (vars id) s1 (Q .normal)
    | true => ∃ b, s.H.length = b ∧ ∃ H', s.H ++ List.replicate (allocs ops.toList) none = H' ∧ wOps P K nt (some (b, late ops.toList)) ops.toList ops.toList { s with H := H' } fun s1 => wKept (vars id) s1 (Q .normal)
  | .seq a b, s, Q => wC P K vars nt a s fun e s1 => match e with
    | .normal => wC P K vars nt b s1 Q
    | .exit i => Q (.exit i) s1
    | .ret => Q .ret s1
  | .cond c a b, s, Q => wO s.env c fun v => match v with
    | .bool t => (t = true → wC P K vars nt a s Q) ∧ (t = false → wC P K vars nt b s Q)
    | _ => False
  | .block id c, s, Q => wC P K vars nt c s fun e s1 => match e with
    | .normal => Q .normal s1
    | .exit i => match Nat.beq i id with
      | true => Q .normal s1
      | false => Q (.exit i) s1
    | .ret => Q .ret s1
  | .loop c, s, Q => W P K vars nt (.loop c) s Q
  | .exit id, s, Q => Q (.exit id) s
  | .label _, s, Q => Q .normal s
  | .ret, s, Q => Q .ret s
  | _, _, _ => False

end Go.Proofs.Ytnajopkaepjncaa.Am

/- Walks, second part: what an operation asks is enough. -/
namespace Go.Proofs.Ytnajopkaepjncaa.Am
set_option linter.unusedVariables false
set_option linter.unusedSimpArgs false

section
variable {P : Program} {K : Know}

theorem Ev.of {p : Nat → Prop} (h : ∀ n, p n) : Ev p := ⟨0, fun n _ => h n⟩
theorem Ev.mono {p q : Nat → Prop} (h : Ev p) (k : ∀ n, p n → q n) : Ev q := by obtain ⟨N, hN⟩ := h; exact ⟨N, fun n hn => k n (hN n hn)⟩
theorem Ev.both {p q : Nat → Prop} (h : Ev p) (k : Ev q) : Ev fun n => p n ∧ q n := by
  obtain ⟨N, hN⟩ := h; obtain ⟨M, hM⟩ := k
  exact ⟨max N M, fun n hn => ⟨hN n (by omega), hM n (by omega)⟩⟩
theorem Ev.succ {p q : Nat → Prop} (h : Ev p) (k : ∀ n, p n → q (n + 1)) : Ev q := by
  obtain ⟨N, hN⟩ := h
  refine ⟨N + 1, fun n hn => ?_⟩
  obtain ⟨m, rfl⟩ : ∃ m, n = m + 1 := ⟨n - 1, by omega⟩
  exact k m (hN m (by omega))

theorem frc_iff (v : AV) (k : AV → Prop) : frc v k ↔ k v := by cases v <;> exact Iff.rfl
theorem frcS_iff : ∀ (l : List Nat) (k : List Nat → Prop), frcS l k ↔ k l
  | [], k => Iff.rfl
  | a :: r, k => frcS_iff r fun r' => k (a :: r')
theorem frcL_iff : ∀ (l : List AV) (k : List AV → Prop), frcL l k ↔ k l
  | [], k => Iff.rfl
  | a :: r, k => by unfold frcL; rw [frc_iff]; exact frcL_iff r fun r' => k (a :: r')
theorem frcA_iff (v : AV) (k : AV → Prop) : frcA v k ↔ k v := by
  unfold frcA
  split
  · exact frcL_iff _ _
  · exact frc_iff _ _
theorem frcM_iff : ∀ (l : List AV) (k : List AV → Prop), frcM l k ↔ k l
  | [], k => Iff.rfl
  | a :: r, k => by unfold frcM; rw [frcA_iff]; exact frcM_iff r fun r' => k (a :: r')
theorem frcD_iff (v : AV) (k : AV → Prop) : frcD v k ↔ k v := by
  unfold frcD
  split
  · exact frcL_iff _ _
  · exact frcM_iff _ _
  · exact frc_iff _ _
theorem wOpt_to {x : Option AV} {k : AV → Prop} (h : wOpt x k) : ∃ v, x = some v ∧ k v := by
  unfold wOpt at h
  split at h
  · exact ⟨_, rfl, (frc_iff _ _).1 h⟩
  · exact h.elim
theorem wO_to {env : List (Nat × AV)} {x : Operand} {k : AV → Prop} (h : wO env x k) : ∃ v, evalO env x = some v ∧ k v := wOpt_to h
theorem wL_to {env : List (Nat × AV)} : ∀ {l : List Operand} {k : List AV → Prop}, wL env l k → ∃ vs, evalL env l = some vs ∧ k vs
  | [], _, h => ⟨[], rfl, h⟩
  | x :: r, k, h => by
    obtain ⟨v, h1, h2⟩ := wO_to h
    obtain ⟨vs, h3, h4⟩ := wL_to h2
    exact ⟨v :: vs, by simp only [evalL, h1, h3], h4⟩
theorem wOptO_to {env : List (Nat × AV)} {x : Option Operand} {k : Option AV → Prop} (h : wOptO env x k) : ∃ v, optA env x = some v ∧ k v := by
  cases x with
  | none => exact ⟨none, rfl, h⟩
  | some x =>
    obtain ⟨v, h1, h2⟩ := wO_to h
    exact ⟨some v, by simp only [optA, h1, Option.map_some], h2⟩
theorem wBin_to {op : BinOp} {t : TypeId} {x y : Operand} {a b : AV} {k : AV → Prop} (h : wBin P op t x y a b k) : ∃ v, binOpA P op t x y a b = some v ∧ k v := by
  unfold wBin at h
  split at h
  · split at h
    · exact h
    · exact wOpt_to h
  · split at h
    · exact h
    · exact wOpt_to h
  · exact h
theorem wIdxA_to {t : TypeId} {a b : AV} {k : AV → Prop} (h : wIdxA P t a b k) : ∃ v, indexAddrA P t a b = some v ∧ k v := by
  unfold wIdxA at h
  split at h
  · rename_i elem _ n e xs _ hu
    split at h
    · rename_i he
      obtain ⟨h0, v, hv, hk⟩ := h
      refine ⟨_, ?_, hk⟩
      have hlt := (List.getElem?_eq_some_iff.1 hv).1
      have hin : inRange n xs.length = true := by unfold inRange; simp; omega
      have : e = elem := Nat.eq_of_beq_eq_true he
      unfold indexAddrA
      simp only [hu, this, hin, hv, decide_true, Bool.and_self, if_true, Option.map_some]
    · exact h.elim
  · exact h
theorem wPure_to {env : List (Nat × AV)} {op : Op} {k : AV → Prop} (h : wPure P env op k) : ∃ v, pureOp P env op = some v ∧ k v := by
  unfold wPure at h
  split at h
  · obtain ⟨a, h1, h⟩ := wO_to h
    obtain ⟨b, h2, h⟩ := wO_to h
    obtain ⟨v, h3, h⟩ := wBin_to h
    exact ⟨v, by simp only [pureOp, h1, h2]; exact h3, h⟩
  · obtain ⟨a, h1, h⟩ := wO_to h
    split at h
    · obtain ⟨v, h3, h⟩ := h
      exact ⟨v, by simp only [pureOp, h1]; exact h3, h⟩
    · obtain ⟨v, h3, h⟩ := wOpt_to h
      exact ⟨v, by simp only [pureOp, h1]; exact h3, h⟩
  · obtain ⟨a, h1, h⟩ := wO_to h
    obtain ⟨b, h2, h⟩ := wO_to h
    obtain ⟨v, h3, h⟩ := wIdxA_to h
    exact ⟨v, by simp only [pureOp, h1, h2]; exact h3, h⟩
  · obtain ⟨a, h1, h⟩ := wO_to h
    obtain ⟨b, h2, h⟩ := wO_to h
    obtain ⟨v, h3, h⟩ := h
    exact ⟨v, by simp only [pureOp, h1, h2]; exact h3, h⟩
  · split at h
    · rename_i ps hps
      split at h
      · rename_i v hv
        rw [buildB_eq] at hv
        exact ⟨v, by simp only [pureOp, hps]; exact hv, (frcD_iff _ _).1 h⟩
      · exact h.elim
    · exact h.elim
  · obtain ⟨a, h1, h⟩ := wO_to h
    obtain ⟨b, h2, h⟩ := wOptO_to h
    obtain ⟨c, h3, h⟩ := wOptO_to h
    obtain ⟨d, h4, h⟩ := wOptO_to h
    obtain ⟨v, h5, h⟩ := h
    exact ⟨v, by simp only [pureOp, h1, h2, h3, h4]; exact h5, h⟩
  · exact wOpt_to h

/-! ### owned slots and cells -/
theorem mem_ownOf {slots : List Nat} {cells : List (Nat × Nat)} {l : Loc} : l ∈ ownOf slots cells ↔ (∃ s, s ∈ slots ∧ l = .slot s) ∨ ∃ p, p ∈ cells ∧ l = .cell p.1 p.2 := by
  unfold ownOf
  rw [List.mem_append, List.mem_map, List.mem_map]
  constructor
  · rintro (⟨s, h1, h2⟩ | ⟨p, h1, h2⟩)
    · exact .inl ⟨s, h1, h2.symm⟩
    · exact .inr ⟨p, h1, h2.symm⟩
  · rintro (⟨s, h1, h2⟩ | ⟨p, h1, h2⟩)
    · exact .inl ⟨s, h1, h2.symm⟩
    · exact .inr ⟨p, h1, h2.symm⟩
theorem slot_ownOf {slots : List Nat} {cells : List (Nat × Nat)} {s : Nat} : Loc.slot s ∈ ownOf slots cells ↔ s ∈ slots := by
  rw [mem_ownOf]
  constructor
  · rintro (⟨q, h1, h2⟩ | ⟨p, h1, h2⟩)
    · injection h2 with h2; subst h2; exact h1
    · cases h2
  · exact fun h => .inl ⟨s, h, rfl⟩
theorem cell_ownOf {slots : List Nat} {cells : List (Nat × Nat)} {i o : Nat} : Loc.cell i o ∈ ownOf slots cells ↔ (i, o) ∈ cells := by
  rw [mem_ownOf]
  constructor
  · rintro (⟨q, h1, h2⟩ | ⟨p, h1, h2⟩)
    · cases h2
    · injection h2 with h2 h3; subst h2; subst h3; exact h1
  · exact fun h => .inr ⟨(i, o), h, rfl⟩
theorem mem_has {slots : List Nat} {s : Nat} : has slots s = true ↔ s ∈ slots := by
  unfold has
  rw [List.any_eq_true]
  constructor
  · rintro ⟨q, h1, h2⟩; have := Nat.eq_of_beq_eq_true h2; subst this; exact h1
  · intro h; exact ⟨s, h, Nat.beq_refl s⟩
theorem mem_drp {slots : List Nat} {s q : Nat} : q ∈ drp slots s ↔ q ∈ slots ∧ q ≠ s := by
  unfold drp
  rw [List.mem_filter]
  constructor
  · rintro ⟨h1, h2⟩
    refine ⟨h1, fun e => ?_⟩
    subst e
    rw [Nat.beq_refl] at h2; cases h2
  · rintro ⟨h1, h2⟩
    refine ⟨h1, ?_⟩
    cases hb : Nat.beq s q with
    | false => rfl
    | true => exact absurd (Nat.eq_of_beq_eq_true hb).symm h2
theorem setEq_owns {own : List Loc} {slots : List Nat} {cells : List (Nat × Nat)} (h : SetEq own (ownOf slots cells)) (v : Nat) : owns own (.slot v) = has slots v := by
  rw [Bool.eq_iff_iff, owns_iff, mem_has, h, slot_ownOf]
theorem setEq_ownsc {own : List Loc} {slots : List Nat} {cells : List (Nat × Nat)} (h : SetEq own (ownOf slots cells)) (i o : Nat) : owns own (.cell i o) = true ↔ (i, o) ∈ cells := by
  rw [owns_iff, h, cell_ownOf]
theorem setEq_drop {own : List Loc} {slots : List Nat} {cells : List (Nat × Nat)} (h : SetEq own (ownOf slots cells)) (v : Nat) : SetEq (drop own (.slot v)) (ownOf (drp slots v) cells) := by
  intro l
  rw [mem_drop, h]
  cases l with
  | slot s => rw [slot_ownOf, slot_ownOf, mem_drp]; simp
  | cell i o => rw [cell_ownOf, cell_ownOf]; simp
theorem setEq_give {own : List Loc} {slots : List Nat} {cells : List (Nat × Nat)} (h : SetEq own (ownOf slots cells)) (v : Nat) : SetEq (give own (.slot v)) (ownOf (v :: drp slots v) cells) := by
  intro l
  rw [mem_give, h]
  cases l with
  | slot s =>
    rw [slot_ownOf, slot_ownOf, List.mem_cons, mem_drp]
    constructor
    · rintro (h | ⟨h1, h2⟩)
      · injection h with h; exact .inl h
      · exact .inr ⟨h1, fun e => h2 (by rw [e])⟩
    · rintro (h | ⟨h1, h2⟩)
      · exact .inl (by rw [h])
      · exact .inr ⟨h1, fun e => by injection e with e; exact h2 e⟩
  | cell i o => rw [cell_ownOf, cell_ownOf]; simp

/-- 'core' does so, whatever the list of what is owned looks like. -/
def CoreTo (P : Program) (K : Know) (ops : List Oper) (o : Oper) (s : S2) (r : R2) : Prop :=
  ∀ own, SetEq own (ownOf s.slots s.cells) → ∃ own', SetEq own' (ownOf r.slots r.cells) ∧ Ev fun n => core (callN P K n) P ops o s.env s.H own = some ⟨r.val, r.H, own', r.gives⟩

theorem wCall_to {f : FuncId} {args : List AV} {s : S2} {k : R2 → Prop} (h : wCall P K f args s k) :
    ∃ r, k r ∧ ∀ own, SetEq own (ownOf s.slots s.cells) → ∃ own', SetEq own' (ownOf r.slots r.cells) ∧ Ev fun n => callA (callN P K n) P s.H own f args = some ⟨r.val, r.H, own', r.gives⟩ := by
  unfold wCall at h
  split at h
  case h_2 => exact h.elim
  rename_i hb
  obtain ⟨x, H', cells', hc, hk⟩ := h
  rw [frc_iff] at hk
  refine ⟨_, hk, fun own hown => ?_⟩
  have h1 : SetEq (canon (own.filter Loc.isCell)) (ownOf [] s.cells) := by
    intro l
    rw [mem_canon, List.mem_filter, hown]
    cases l with
    | slot s => rw [slot_ownOf, slot_ownOf]; simp [Loc.isCell]
    | cell i o => rw [cell_ownOf, cell_ownOf]; simp [Loc.isCell]
  obtain ⟨own1, h2, h3⟩ := hc _ h1
  refine ⟨own.filter (fun l => !l.isCell) ++ own1.filter Loc.isCell, ?_, h3.mono fun n hn => ?_⟩
  · intro l
    rw [List.mem_append, List.mem_filter, List.mem_filter, hown, h2]
    cases l with
    | slot s => rw [slot_ownOf, slot_ownOf, slot_ownOf]; simp [Loc.isCell]
    | cell i o => rw [cell_ownOf, cell_ownOf, cell_ownOf]; simp [Loc.isCell]
  · simp only [callA, hb, cond_true, hn]

theorem wMoved_to {slots : List Nat} {cells : List (Nat × Nat)} {x : Operand} {k : List Nat → Bool → Prop} (h : wMoved slots x k) : ∃ sl mv, k sl mv ∧
    ((∃ v, x = .tmp v ∧ has slots v = true ∧ sl = drp slots v ∧ mv = true) ∨ (sl = slots ∧ mv = false ∧ ∀ v, x = .tmp v → has slots v = false)) := by
  unfold wMoved at h
  split at h
  · rename_i v
    split at h
    · rename_i hh; exact ⟨_, _, h, .inl ⟨v, rfl, hh, rfl, rfl⟩⟩
    · rename_i hh; exact ⟨_, _, h, .inr ⟨rfl, rfl, fun w e => by injection e with e; subst e; exact hh⟩⟩
  · rename_i hne
    exact ⟨_, _, h, .inr ⟨rfl, rfl, fun v e => absurd e (hne v)⟩⟩

end
end Go.Proofs.Ytnajopkaepjncaa.Am

/- Walks, third part: operations. -/
namespace Go.Proofs.Ytnajopkaepjncaa.Am
set_option linter.unusedVariables false
set_option linter.unusedSimpArgs false

section
variable {P : Program} {K : Know} {ops : List Oper}

/-- One answer for all fuels. -/
theorem core_all {o : Oper} {s : S2} {r : R2} (h : ∀ own, SetEq own (ownOf s.slots s.cells) → ∃ own', SetEq own' (ownOf r.slots r.cells) ∧ ∀ call, core call P ops o s.env s.H own = some ⟨r.val, r.H, own', r.gives⟩) : CoreTo P K ops o s r := by
  intro own hown
  obtain ⟨own', h1, h2⟩ := h own hown
  exact ⟨own', h1, Ev.of fun n => h2 _⟩

theorem wAppend_to {s : S2} {x y : Operand} {ts ty : TypeId} {k : R2 → Prop} (h : wAppend P s x y ts ty k) :
    ∃ r, k r ∧ ∀ own, SetEq own (ownOf s.slots s.cells) → ∃ own', SetEq own' (ownOf r.slots r.cells) ∧ appendA P s.env s.H own x y ts ty = some ⟨r.val, r.H, own', r.gives⟩ := by
  unfold wAppend at h
  obtain ⟨a, h1, h⟩ := wO_to h
  obtain ⟨b, h2, h⟩ := wO_to h
  split at h
  case h_2 => exact h.elim
  rename_i e hu
  split at h
  case h_2 => exact h.elim
  rename_i i z hi hz
  obtain ⟨ys, hys, h⟩ := h
  split at h
  · obtain ⟨c1, c2, c3, c4, hk⟩ := h
    refine ⟨_, hk, fun own hown => ⟨own, hown, ?_⟩⟩
    unfold appendA
    simp only [hu, h1, h2, hys, hi, hz]
    rw [if_pos ⟨c1, c2, c3, c4⟩]
  · cases x with
    | tmp t =>
      simp only at h
      obtain ⟨c0, c1, c2, c3, c4, c5, zs, rfl, hk⟩ := h
      refine ⟨_, hk, fun own hown => ⟨drop own (.slot t), setEq_drop hown t, ?_⟩⟩
      unfold appendA
      simp only [hu, h1, h2, hys, hi, hz]
      rw [if_pos ⟨by rw [setEq_owns hown]; exact c0, c1, c2, c3, c4, c5⟩]
    | const c => exact h.elim
    | global c => exact h.elim
    | func c => exact h.elim
  · exact h.elim

theorem wStored_to {s : S2} {x : Operand} {v : AV} {id off : Nat} {k : List Nat → List (Nat × Nat) → Prop} (h : wStored s x v id off k) :
    ∃ sl cs, k sl cs ∧ ∀ own, SetEq own (ownOf s.slots s.cells) → SetEq (match (generalizing := false) x with
           | .tmp s => cond (owns own (.slot s) && v.isOne) (give (drop (dropCells own id off v.cells.length) (.slot s)) (.cell id off)) (dropCells own id off v.cells.length)
           | _ => dropCells own id off v.cells.length) (ownOf sl cs) := by
  have hd : ∀ own, SetEq own (ownOf s.slots s.cells) → ∀ l, l ∈ dropCells own id off v.cells.length ↔ (∃ q, q ∈ s.slots ∧ l = .slot q) ∨ ∃ p, (p ∈ s.cells ∧ ¬ (p.1 = id ∧ off ≤ p.2 ∧ p.2 < off + v.cells.length)) ∧ l = .cell p.1 p.2 := by
    intro own hown l
    unfold dropCells
    rw [List.mem_filter, hown, mem_ownOf]
    cases l with
    | slot q => simp
    | cell i o =>
      constructor
      · rintro ⟨h1 | ⟨p, h1, h2⟩, h3⟩
        · obtain ⟨q, _, h⟩ := h1; cases h
        · injection h2 with e1 e2
          subst e1; subst e2
          refine .inr ⟨p, ⟨h1, ?_⟩, rfl⟩
          rintro ⟨g1, g2, g3⟩
          simp only [g1, Nat.beq_refl, Bool.true_and, Bool.not_eq_true', Bool.and_eq_false_iff] at h3
          rcases h3 with h3 | h3
          · rw [Nat.ble_eq.mpr g2] at h3; cases h3
          · rw [Nat.blt_eq.mpr g3] at h3; cases h3
      · rintro (⟨q, _, h⟩ | ⟨p, ⟨h1, h2⟩, h3⟩)
        · cases h
        · injection h3 with e1 e2
          subst e1; subst e2
          refine ⟨.inr ⟨p, h1, rfl⟩, ?_⟩
          simp only [Bool.not_eq_true', Bool.and_eq_false_iff]
          by_cases g1 : p.1 = id
          · by_cases g2 : off ≤ p.2
            · refine .inr ?_
              cases hb : Nat.blt p.2 (off + v.cells.length) with
              | false => rfl
              | true => exact absurd ⟨g1, g2, Nat.blt_eq.mp hb⟩ h2
            · refine .inl (.inr ?_)
              cases hb : Nat.ble off p.2 with
              | false => rfl
              | true => exact absurd (Nat.ble_eq.mp hb) g2
          · refine .inl (.inl ?_)
            cases hb : Nat.beq p.1 id with
            | false => rfl
            | true => exact absurd (Nat.eq_of_beq_eq_true hb) g1
  unfold wStored at h
  obtain ⟨sl, mv, h, hcase⟩ := wMoved_to (cells := s.cells) h
  split at h
  · rename_i hb
    rw [Bool.and_eq_true] at hb
    obtain ⟨cs, hcs, hk⟩ := h
    rcases hcase with ⟨q, rfl, hh, rfl, _⟩ | ⟨_, hm, _⟩
    · refine ⟨_, _, hk, fun own hown => ?_⟩
      simp only [setEq_owns hown, hh, hb.2, Bool.and_self, cond_true]
      intro l
      rw [mem_give, mem_drop, hd own hown, mem_ownOf]
      constructor
      · rintro (h | ⟨⟨h1 | ⟨p, h1, h2⟩, h3⟩, h4⟩)
        · exact .inr ⟨(id, off), (hcs _).2 (.inl rfl), h⟩
        · obtain ⟨q', h1, h2⟩ := h1
          subst h2
          exact .inl ⟨q', mem_drp.2 ⟨h1, fun e => h3 (by rw [e])⟩, rfl⟩
        · exact .inr ⟨p, (hcs p).2 (.inr h1), h2⟩
      · rintro (⟨q', h1, h2⟩ | ⟨p, h1, h2⟩)
        · subst h2
          rw [mem_drp] at h1
          exact .inr ⟨⟨.inl ⟨q', h1.1, rfl⟩, fun e => by injection e with e; exact h1.2 e⟩, by intro e; cases e⟩
        · rcases (hcs p).1 h1 with e | e
          · subst e; exact .inl h2
          · by_cases hl : l = .cell id off
            · exact .inl hl
            · exact .inr ⟨⟨.inr ⟨p, e, h2⟩, by rw [h2]; intro e; cases e⟩, hl⟩
    · rw [hm] at hb; cases hb.1
  · rename_i hb
    obtain ⟨cs, hcs, hk⟩ := h
    refine ⟨_, _, hk, fun own hown => ?_⟩
    have hfin : SetEq (dropCells own id off v.cells.length) (ownOf s.slots cs) := by
      intro l
      rw [hd own hown, mem_ownOf]
      constructor
      · rintro (h | ⟨p, h1, h2⟩)
        · exact .inl h
        · exact .inr ⟨p, (hcs p).2 h1, h2⟩
      · rintro (h | ⟨p, h1, h2⟩)
        · exact .inl h
        · exact .inr ⟨p, (hcs p).1 h1, h2⟩
    cases x with
    | tmp q =>
      simp only [setEq_owns hown]
      rcases hcase with ⟨q', e, hh, _, hm⟩ | ⟨_, hm, hall⟩
      · injection e with e; subst e
        rw [hm, Bool.true_and] at hb
        rw [hb, Bool.and_false]; exact hfin
      · rw [hall q rfl, Bool.false_and]; exact hfin
    | const c => exact hfin
    | global c => exact hfin
    | func c => exact hfin

theorem wCore_to {o : Oper} {s : S2} {k : R2 → Prop} (h : wCore P K ops o s k) : ∃ r, k r ∧ CoreTo P K ops o s r := by
  obtain ⟨dst, op, ty, pos, after, guard⟩ := o
  unfold wCore at h
  simp only at h
  split at h
  · -- move
    rename_i v
    rw [frc_iff] at h
    split at h
    · rename_i hb
      refine ⟨_, h, core_all fun own hown => ⟨drop own (.slot v), setEq_drop hown v, fun call => ?_⟩⟩
      simp only [core, setEq_owns hown, hb, cond_true]
    · rename_i hb
      refine ⟨_, h, core_all fun own hown => ⟨own, hown, fun call => ?_⟩⟩
      simp only [core, setEq_owns hown, hb, cond_false]
  · -- load
    rename_i t a
    obtain ⟨p, hp, h⟩ := wO_to h
    split at h
    · rename_i id off
      obtain ⟨b, hbk, h⟩ := h
      obtain ⟨v, hv, h⟩ : ∃ v, loadA P s.H t (.ptr id off) = some v ∧ _ := by
        unfold wRd at h
        split at h
        · rename_i n hn
          split at h
          · rename_i hle
            obtain ⟨v, hv, h⟩ := wOpt_to h
            refine ⟨v, ?_, h⟩
            unfold loadA readCells
            simp only [hn, hbk, if_pos (Nat.ble_eq.mp hle), hv]
          · exact h.elim
        · exact h.elim
      split at h
      · rename_i hb
        rcases h with ⟨hm, cs, hcs, h⟩ | ⟨hm, h⟩
        · refine ⟨_, h, core_all fun own hown => ⟨drop own (.cell id off), ?_, fun call => ?_⟩⟩
          · intro l
            rw [mem_drop, hown]
            cases l with
            | slot q => rw [slot_ownOf, slot_ownOf]; simp
            | cell i o =>
              rw [cell_ownOf, cell_ownOf, hcs]
              constructor
              · rintro ⟨h1, h2⟩; exact ⟨h1, fun e => h2 (by injection e with e1 e2; rw [e1, e2])⟩
              · rintro ⟨h1, h2⟩; exact ⟨h1, fun e => h2 (by injection e with e1 e2; rw [e1, e2])⟩
          · simp only [core, hp, hv, (setEq_ownsc hown id off).2 hm, Bool.true_and, hb, cond_true]
        · refine ⟨_, h, core_all fun own hown => ⟨own, hown, fun call => ?_⟩⟩
          have : owns own (.cell id off) = false := by
            cases ho : owns own (.cell id off) with
            | false => rfl
            | true => exact absurd ((setEq_ownsc hown id off).1 ho) hm
          simp only [core, hp, hv, this, Bool.false_and, cond_false]
      · rename_i hb
        refine ⟨_, h, core_all fun own hown => ⟨own, hown, fun call => ?_⟩⟩
        have : (owns own (.cell id off) && appDst ops dst && (sizeT P t == some 1) && (isAggT P t == some false)) = false := by
          rw [Bool.and_assoc, Bool.and_assoc, ← Bool.and_assoc (appDst ops dst), hb, Bool.and_false]
        simp only [core, hp, hv, this, cond_false]
    · rename_i hne
      obtain ⟨v, hv, h⟩ := wOpt_to h
      refine ⟨_, h, core_all fun own hown => ⟨own, hown, fun call => ?_⟩⟩
      simp only [core, hp, hv]
  · -- alloc
    rename_i e
    split at h
    · rename_i z hz
      obtain ⟨id, rfl, H', rfl, h⟩ := h
      exact ⟨_, h, core_all fun own hown => ⟨own, hown, fun call => by simp only [core, hz]⟩⟩
    · exact h.elim
  · -- box
    rename_i e x
    obtain ⟨v, hv, h0, id, rfl, H', rfl, h⟩ := wO_to h
    exact ⟨_, h, core_all fun own hown => ⟨own, hown, fun call => by simp only [core, hv, if_pos h0]⟩⟩
  · -- store
    rename_i t a x
    obtain ⟨p, hp, h1⟩ := wO_to h
    clear h
    obtain ⟨v, hv, h2⟩ := wO_to h1
    clear h1
    cases p with
    | ptr id off =>
      simp only at h2
      cases hn : sizeT P t with
      | none => rw [hn] at h2; exact h2.elim
      | some n =>
        rw [hn] at h2
        obtain ⟨b, hbk, c1, c2, c3, H', hH', h3⟩ := h2
        have hst : storeA P s.H t (.ptr id off) v = some H' := by
          unfold storeA
          simp only [hn, hbk]
          rw [if_pos ⟨c1, c2, c3⟩, hH']
        obtain ⟨sl, cs, hk, hown⟩ := wStored_to h3
        clear h3
        refine ⟨_, hk, core_all fun own ho => ⟨_, hown own ho, fun call => ?_⟩⟩
        simp only [core, hp, hv, hst]
        cases x <;> rfl
    | _ => exact h2.elim
  · -- assign
    rename_i x
    obtain ⟨v, hv, h⟩ := wO_to h
    obtain ⟨sl, mv, h, hcase⟩ := wMoved_to (cells := s.cells) h
    rcases hcase with ⟨q, rfl, hh, rfl, rfl⟩ | ⟨rfl, rfl, hall⟩
    · refine ⟨_, h, core_all fun own hown => ⟨drop own (.slot q), setEq_drop hown q, fun call => ?_⟩⟩
      simp only [core, hv, setEq_owns hown, hh, cond_true]
    · refine ⟨_, h, core_all fun own hown => ⟨own, hown, fun call => ?_⟩⟩
      cases x with
      | tmp q => simp only [core, hv, setEq_owns hown, hall q rfl, cond_false]
      | const c => simp only [core, hv]
      | global c => simp only [core, hv]
      | func c => simp only [core, hv]
  · -- buildSlice
    rename_i t len parts
    split at h
    · rename_i r hr
      rw [frcD_iff] at h
      refine ⟨_, h, core_all fun own hown => ⟨own, hown, fun call => ?_⟩⟩
      simp only [core] at hr ⊢
      split at hr
      · rename_i e ps h1 h2
        split at hr
        · rename_i sz z h3 h4
          split at hr
          · rename_i hc
            split at hr
            · rename_i cs h5
              split at hr
              · rename_i xs h6
                injection hr with hr; subst hr
                simp only [h1, h2, h3, h4, if_pos hc, h5, h6]
              · cases hr
            · cases hr
          · cases hr
        · cases hr
      · cases hr
    · exact h.elim
  · -- makeSlice
    rename_i t l c
    obtain ⟨n, hn, h⟩ := wO_to h
    obtain ⟨cp, hcp, h⟩ := wO_to h
    split at h
    · rename_i e hu
      split at h
      · rename_i n' c' i z h1 h2 h3 h4
        obtain ⟨c1, c2, c3, c4, c5, h⟩ := h
        split at h
        · rename_i x hx
          obtain ⟨zs, rfl, h⟩ := h
          refine ⟨_, h, core_all fun own hown => ⟨own, hown, fun call => ?_⟩⟩
          simp only [core, hu, hn, hcp, h1, h2, h3, h4]
          rw [if_pos ⟨c1, c2, c3, c4, c5⟩]
          simp only [hx]
        · exact h.elim
      · exact h.elim
    · exact h.elim
  · -- convert
    rename_i src dst' x
    obtain ⟨a, ha, v, hv, h⟩ := wO_to h
    refine ⟨_, h, core_all fun own hown => ⟨own, hown, fun call => ?_⟩⟩
    have h1 := (core_heap (P := P) (call := fun _ _ _ _ => none) (ops := ops) (o := { dst := dst, op := .convert src dst' x, type := ty, pos := pos, after := after, guard := guard }) rfl rfl hv).2 s.H (fun t a id off e => by cases e)
    have h2 := (core_own (P := P) (call := fun _ _ _ _ => none) (ops := ops) (o := { dst := dst, op := .convert src dst' x, type := ty, pos := pos, after := after, guard := guard }) rfl h1).2 own
    exact h2
  · -- a function's value
    rename_i f args at_
    obtain ⟨fv, hf, h⟩ := wO_to h
    split at h
    · rename_i g cap
      obtain ⟨vs, hvs, h⟩ := wL_to h
      obtain ⟨r, hk, hc⟩ := wCall_to h
      refine ⟨r, hk, fun own hown => ?_⟩
      obtain ⟨own', h1, h2⟩ := hc own hown
      exact ⟨own', h1, h2.mono fun n hn => by simp only [core, hf, hvs]; exact hn⟩
    · exact h.elim
  · -- a method
    rename_i r name args at_
    obtain ⟨rv, hr, h⟩ := wO_to h
    split at h
    · rename_i t v
      obtain ⟨vs, hvs, f, x, hm, h⟩ := wL_to h
      obtain ⟨r, hk, hc⟩ := wCall_to h
      refine ⟨r, hk, fun own hown => ?_⟩
      obtain ⟨own', h1, h2⟩ := hc own hown
      exact ⟨own', h1, h2.mono fun n hn => by simp only [core, hr, hvs, hm]; exact hn⟩
    · exact h.elim
  · -- append
    rename_i args at_
    split at h
    · rename_i x y ts ty' e1 e2
      obtain ⟨r, hk, hc⟩ := wAppend_to h
      refine ⟨r, hk, core_all fun own hown => ?_⟩
      obtain ⟨own', h1, h2⟩ := hc own hown
      exact ⟨own', h1, fun call => by simp only [core, e1, e2]; exact h2⟩
    · exact h.elim
  · -- the others
    rename_i op' n1 n2 n3 n4 n5 n6 n7 n8 n9 n10 n11 n12
    obtain ⟨v, hv, h⟩ := wPure_to h
    refine ⟨_, h, core_all fun own hown => ⟨own, hown, fun call => ?_⟩⟩
    unfold core
    simp only
    rw [hv]; rfl

end
end Go.Proofs.Ytnajopkaepjncaa.Am

/- Walks, fourth part: regions, statements, calls. -/
namespace Go.Proofs.Ytnajopkaepjncaa.Am
set_option linter.unusedVariables false
set_option linter.unusedSimpArgs false

section
variable {P : Program} {K : Know} {ops : List Oper} {nt : Nat}

theorem wNew_to {o : Oper} {s : S2} {id : Nat} {k : R2 → Prop} (h : wNew P o s id k) : ∃ r, k r ∧ r.slots = s.slots ∧ r.cells = s.cells ∧ ∀ own, newAt P o s.env s.H own id = some ⟨r.val, r.H, own, r.gives⟩ := by
  obtain ⟨hh, h⟩ := h
  split at h
  · rename_i e he
    split at h
    · rename_i z hz
      obtain ⟨H', rfl, hk⟩ := h
      exact ⟨_, hk, rfl, rfl, fun own => by unfold newAt; rw [hh, he]; simp only [hz]⟩
    · exact h.elim
  · rename_i e x he
    obtain ⟨v, hv, h0, H', rfl, hk⟩ := wO_to h
    exact ⟨_, hk, rfl, rfl, fun own => by unfold newAt; rw [hh, he]; simp only [hv, if_pos h0]⟩
  · exact h.elim

theorem wSl_to {e : TypeId} {op : Op} {s : S2} {k : R2 → Prop} (h : wSl P e op s k) : ∃ r, k r ∧ r.slots = s.slots ∧ r.cells = s.cells ∧ ∀ own, newSl P e op s.env s.H own = some ⟨r.val, r.H, own, r.gives⟩ := by
  unfold wSl at h
  split at h
  · rename_i t len cap
    obtain ⟨n, hn, h⟩ := wO_to h
    obtain ⟨c, hc, h⟩ := wO_to h
    split at h
    · rename_i e' hu
      split at h
      · rename_i i z h3 h4
        obtain ⟨n', h1, c', h2, rfl, q2, q3, q4, q5, q6, id, rfl, zs, rfl, H', rfl, hk⟩ := h
        exact ⟨_, hk, rfl, rfl, fun own => by unfold newSl; simp only [hu, hn, hc, h1, h2, h3, h4]; rw [if_pos ⟨trivial, q2, q3, q4, q5, q6⟩]⟩
      · exact h.elim
    · exact h.elim
  · rename_i args argTypes
    split at h
    · rename_i x y ts tx ha ht
      obtain ⟨a, hav, h⟩ := wO_to h
      obtain ⟨b, hbv, h⟩ := wO_to h
      split at h
      · rename_i e' hu
        split at h
        · rename_i i z h3 h4
          obtain ⟨ys, hys, h⟩ := h
          split at h
          · obtain ⟨rfl, q2, q3, q4, q5, q6, id, rfl, H', rfl, hk⟩ := h
            exact ⟨_, hk, rfl, rfl, fun own => by unfold newSl; simp only [ha, ht, hu, hav, hbv, h3, h4, hys]; rw [if_pos ⟨trivial, q2, q3, q4, q5, q6⟩]⟩
          · rename_i e'' id off len
            obtain ⟨b', hb', rfl, q2, q3, q4, q5, q6, q7, q8, q9, q10, id', rfl, H', rfl, m, rfl, hk⟩ := h
            exact ⟨_, hk, rfl, rfl, fun own => by unfold newSl; simp only [ha, ht, hu, hav, hbv, h3, h4, hys, hb']; rw [if_pos ⟨trivial, q2, q3, q4, q5, q6, q7, q8, q9, q10⟩]⟩
          · exact h.elim
        · exact h.elim
      · exact h.elim
    · exact h.elim
  · exact h.elim
def CorePTo (P : Program) (K : Know) (pre : Option (Nat × Bool)) (ops : List Oper) (o : Oper) (s : S2) (r : R2) : Prop :=
  ∀ own, SetEq own (ownOf s.slots s.cells) → ∃ own', SetEq own' (ownOf r.slots r.cells) ∧ Ev fun n => coreP (callN P K n) P pre ops o s.env s.H own = some ⟨r.val, r.H, own', r.gives⟩

def CoreSTo (P : Program) (K : Know) (ops : List Oper) (o : Oper) (s : S2) (r : R2) : Prop :=
  ∀ own, SetEq own (ownOf s.slots s.cells) → ∃ own', SetEq own' (ownOf r.slots r.cells) ∧ Ev fun n => coreS (callN P K n) P ops o s.env s.H own = some ⟨r.val, r.H, own', r.gives⟩
theorem wCoreS_to {o : Oper} {s : S2} {k : R2 → Prop} (h : wCoreS P K ops o s k) : ∃ r, k r ∧ CoreSTo P K ops o s r := by
  unfold wCoreS at h
  split at h
  · rename_i e he
    obtain ⟨r, hk, h1, h2, h3⟩ := wSl_to h
    exact ⟨r, hk, fun own hown => ⟨own, by rw [h1, h2]; exact hown, Ev.of fun n => by simp only [coreS, he]; exact h3 own⟩⟩
  · rename_i he
    obtain ⟨r, hk, hc⟩ := wCore_to h
    refine ⟨r, hk, fun own hown => ?_⟩
    obtain ⟨own', h1, h2⟩ := hc own hown
    exact ⟨own', h1, h2.mono fun n hn => by simp only [coreS, he]; exact hn⟩
theorem wCoreP_to {pre : Option (Nat × Bool)} {o : Oper} {s : S2} {k : R2 → Prop} (h : wCoreP P K pre ops o s k) : ∃ r, k r ∧ CorePTo P K pre ops o s r := by
  unfold wCoreP at h
  split at h
  · obtain ⟨r, hk, hc⟩ := wCoreS_to h
    exact ⟨r, hk, hc⟩
  · rename_i base lt
    split at h
    · rename_i ha
      split at h
      · rename_i d hd
        split at h
        · rename_i q hq
          obtain ⟨r, hk, h1, h2, h3⟩ := wNew_to h
          refine ⟨r, hk, fun own hown => ⟨own, by rw [h1, h2]; exact hown, Ev.of fun n => ?_⟩⟩
          simp only [coreP, ha, cond_true, hd, hq]
          exact h3 own
        · exact h.elim
      · exact h.elim
    · rename_i ha
      split at h
      · obtain ⟨hl, h⟩ := h
        obtain ⟨r, hk, hc⟩ := wCoreS_to h
        refine ⟨r, hk, fun own hown => ?_⟩
        obtain ⟨own', h1, h2⟩ := hc own hown
        refine ⟨own', h1, h2.mono fun n hn => ?_⟩
        simp only [coreP, ha, cond_false, hl, Bool.not_true, Bool.and_false]
        exact hn
      · obtain ⟨r, hk, hc⟩ := wCoreS_to h
        refine ⟨r, hk, fun own hown => ?_⟩
        obtain ⟨own', h1, h2⟩ := hc own hown
        refine ⟨own', h1, h2.mono fun n hn => ?_⟩
        simp only [coreP, ha, cond_false, Bool.false_and]
        exact hn

theorem wPut_to {env : List (Nat × AV)} {dst : Option Nat} {r : R2} {k : S2 → Prop} (h : wPut nt ops env dst r k) :
    ∃ s1, k s1 ∧ ∀ own' env0, SetEq own' (ownOf r.slots r.cells) → (∀ q, look env0 q = look env q) → ∃ st1, Res.put ⟨r.val, r.H, own', r.gives⟩ nt env0 dst = some st1 ∧ Sim s1 st1 := by
  unfold wPut at h
  split at h
  · rw [frcS_iff] at h
    exact ⟨_, h, fun own' env0 ho he => ⟨_, rfl, he, rfl, ho⟩⟩
  · rename_i d
    split at h
    case h_2 => exact h.elim
    rename_i hlt
    have hd : d < nt := Nat.blt_eq.mp hlt
    have key : ∀ v, r.val = v → k ⟨(d, v) :: env, r.H, putOwn2 r.slots r.gives d, r.cells⟩ → ∃ s1, k s1 ∧ ∀ own' env0, SetEq own' (ownOf r.slots r.cells) → (∀ q, look env0 q = look env q) → ∃ st1, Res.put ⟨r.val, r.H, own', r.gives⟩ nt env0 (some d) = some st1 ∧ Sim s1 st1 := by
      intro v hv hk
      subst hv
      refine ⟨_, hk, fun own' env0 ho he => ⟨_, put_iff.2 ⟨fun q e => by injection e with e; subst e; exact hd, rfl⟩, ?_, rfl, ?_⟩⟩
      · intro q
        simp only [putEnv, look_cons, he]
      · unfold putOwn putOwn2
        cases r.gives with
        | true => exact setEq_give ho d
        | false => exact setEq_drop ho d
    split at h
    · rename_i b hv _
      rw [frcS_iff] at h
      cases b with
      | true => exact key _ hv (h.1 rfl)
      | false => exact key _ hv (h.2 rfl)
    · rw [frcS_iff] at h; exact key _ rfl h

/-- A step, from all states that are as good. -/
def StepTo (P : Program) (K : Know) (nt : Nat) (pre : Option (Nat × Bool)) (ops : List Oper) (o : Oper) (s s1 : S2) : Prop :=
  ∀ st, Sim s st → ∃ st1, Sim s1 st1 ∧ Ev fun n => stepW (callN P K n) P nt pre ops o st = some st1
theorem wStep_to {pre : Option (Nat × Bool)} {o : Oper} {s : S2} {k : S2 → Prop} (h : wStep P K nt pre ops o s k) : ∃ s1, k s1 ∧ StepTo P K nt pre ops o s s1 := by
  unfold wStep at h
  split at h
  · rename_i hw
    obtain ⟨r, h, hc⟩ := wCoreP_to h
    obtain ⟨s1, hk, hp⟩ := wPut_to h
    refine ⟨s1, hk, fun st hs => ?_⟩
    obtain ⟨own', h1, h2⟩ := hc st.own hs.own
    obtain ⟨st1, h3, h4⟩ := hp own' st.env h1 hs.env
    refine ⟨st1, h4, h2.mono fun n hn => ?_⟩
    unfold stepW stepOp
    rw [wanted_env (env' := s.env) fun q _ => hs.env q, hw]
    simp only
    rw [coreP_env (env' := s.env) fun q _ => hs.env q, hs.H, hn]
    exact h3
  · rename_i hw
    obtain ⟨s1, hk, hp⟩ := wPut_to h
    refine ⟨s1, hk, fun st hs => ?_⟩
    obtain ⟨st1, h3, h4⟩ := hp st.own st.env hs.own hs.env
    refine ⟨st1, h4, Ev.of fun n => ?_⟩
    unfold stepW
    rw [wanted_env (env' := s.env) fun q _ => hs.env q, hw]
    simp only
    rw [hs.H]
    exact h3
  · exact h.elim
theorem wOps_to {pre : Option (Nat × Bool)} : ∀ {l : List Oper} {s : S2} {k : S2 → Prop}, wOps P K nt pre ops l s k →
    ∃ s1, k s1 ∧ ∀ st, Sim s st → ∃ st1, Sim s1 st1 ∧ Ev fun n => runOps (callN P K n) P nt pre ops l st = some st1
  | [], s, k, h => ⟨s, h, fun st hs => ⟨st, hs, Ev.of fun n => rfl⟩⟩
  | o :: l, s, k, h => by
    obtain ⟨s1, h1, h2⟩ := wStep_to h
    obtain ⟨s2, h3, h4⟩ := wOps_to h1
    refine ⟨s2, h3, fun st hs => ?_⟩
    obtain ⟨st1, h5, h6⟩ := h2 st hs
    obtain ⟨st2, h7, h8⟩ := h4 st1 h5
    exact ⟨st2, h7, (h6.both h8).mono fun n hn => by simp only [runOps, hn.1]; exact hn.2⟩
theorem wKeep_to {env : List (Nat × AV)} : ∀ {vars : List Nat} {k : List (Nat × AV) → Prop}, wKeep env vars k → k (vars.map fun s => (s, look env s))
  | [], _, h => h
  | v :: r, k, h => by
    unfold wKeep at h
    rw [frc_iff] at h
    exact wKeep_to (k := fun l => k ((v, look env v) :: l)) h
theorem look_map_eq {env env' : List (Nat × AV)} (h : ∀ k, look env k = look env' k) : ∀ vars : List Nat, (vars.map fun s => (s, look env s)) = vars.map fun s => (s, look env' s) := by
  intro vars
  apply List.map_congr_left
  intro s _
  rw [h]
theorem sim_keep {vars : List Nat} {s : S2} {st : St} (h : Sim s st) : Sim ⟨vars.map fun q => (q, look s.env q), s.H, s.slots.filter fun q => vars.any (Nat.beq q), s.cells⟩ (keep vars st) := by
  refine ⟨?_, h.H, ?_⟩
  · intro k
    show look (vars.map fun q => (q, look st.env q)) k = _
    rw [look_map_eq h.env]
  · intro l
    show l ∈ st.own.filter _ ↔ _
    rw [List.mem_filter, h.own]
    cases l with
    | slot q => rw [slot_ownOf, slot_ownOf, List.mem_filter]
    | cell i o => rw [cell_ownOf, cell_ownOf]; simp
theorem sim_holes {s : S2} {st : St} (h : Sim s st) (m : Nat) : Sim { s with H := s.H ++ List.replicate m none } { st with H := st.H ++ List.replicate m none } := ⟨h.env, by rw [h.H], h.own⟩

theorem W_mono {vars : Nat → List Nat} {c : Code} {s : S2} {Q Q' : Ex → S2 → Prop} (h : W P K vars nt c s Q) (k : ∀ e s, Q e s → Q' e s) : W P K vars nt c s Q' := by
  obtain ⟨e, s', h1, h2⟩ := h
  exact ⟨e, s', k e s' h1, h2⟩

theorem wC_to {vars : Nat → List Nat} : ∀ {c : Code} {s : S2} {Q : Ex → S2 → Prop}, wC P K vars nt c s Q → W P K vars nt c s Q := by
  intro c
  induction c with
  | skip => intro s Q h; exact ⟨_, _, h, fun st hs => ⟨st, hs, ⟨1, fun n hn => by obtain ⟨m, rfl⟩ : ∃ m, n = m + 1 := ⟨n - 1, by omega⟩; rfl⟩⟩⟩
  | region id ops draw =>
    intro s Q h
    simp only [wC] at h
    cases draw with
    | false =>
      simp only at h
      obtain ⟨s1, h1, h2⟩ := wOps_to h
      have h3 := wKeep_to h1
      rw [frcS_iff] at h3
      refine ⟨_, _, h3, fun st hs => ?_⟩
      obtain ⟨st1, h4, h5⟩ := h2 st hs
      exact ⟨_, sim_keep h4, h5.succ fun n hn => by simp only [exec, execWith, cond_false, hn]⟩
    | true =>
      simp only at h
      obtain ⟨b, rfl, H', rfl, h⟩ := h
      obtain ⟨s1, h1, h2⟩ := wOps_to h
      have h3 := wKeep_to h1
      rw [frcS_iff] at h3
      refine ⟨_, _, h3, fun st hs => ?_⟩
      obtain ⟨st1, h4, h5⟩ := h2 _ (sim_holes hs _)
      refine ⟨_, sim_keep h4, h5.succ fun n hn => ?_⟩
      simp only [exec, execWith, cond_true]
      rw [← hs.H] at hn
      rw [hn]
  | seq a b iha ihb =>
    intro s Q h
    simp only [wC] at h
    obtain ⟨e, s1, h1, h2⟩ := iha h
    cases e with
    | normal =>
      obtain ⟨e', s2, h3, h4⟩ := ihb h1
      refine ⟨e', s2, h3, fun st hs => ?_⟩
      obtain ⟨st1, h5, h6⟩ := h2 st hs
      obtain ⟨st2, h7, h8⟩ := h4 st1 h5
      exact ⟨st2, h7, (h6.both h8).succ fun n hn => by simp only [exec, execWith, hn.1]; exact hn.2⟩
    | exit i =>
      refine ⟨.exit i, s1, h1, fun st hs => ?_⟩
      obtain ⟨st1, h5, h6⟩ := h2 st hs
      exact ⟨st1, h5, h6.succ fun n hn => by simp only [exec, execWith, hn]⟩
    | ret =>
      refine ⟨.ret, s1, h1, fun st hs => ?_⟩
      obtain ⟨st1, h5, h6⟩ := h2 st hs
      exact ⟨st1, h5, h6.succ fun n hn => by simp only [exec, execWith, hn]⟩
  | cond c a b iha ihb =>
    intro s Q h
    simp only [wC] at h
    obtain ⟨v, hv, h⟩ := wO_to h
    split at h
    · rename_i t
      have hev : ∀ st, Sim s st → evalO st.env c = some (.bool t) := fun st hs => by
        rw [← hv]; exact evalO_env fun q _ => hs.env q
      cases t with
      | true =>
        obtain ⟨e, s1, h1, h2⟩ := iha (h.1 rfl)
        refine ⟨e, s1, h1, fun st hs => ?_⟩
        obtain ⟨st1, h5, h6⟩ := h2 st hs
        exact ⟨st1, h5, h6.succ fun n hn => by simp only [exec, execWith, hev st hs, cond_true]; exact hn⟩
      | false =>
        obtain ⟨e, s1, h1, h2⟩ := ihb (h.2 rfl)
        refine ⟨e, s1, h1, fun st hs => ?_⟩
        obtain ⟨st1, h5, h6⟩ := h2 st hs
        exact ⟨st1, h5, h6.succ fun n hn => by simp only [exec, execWith, hev st hs, cond_false]; exact hn⟩
    · exact h.elim
  | block id c ih =>
    intro s Q h
    simp only [wC] at h
    obtain ⟨e, s1, h1, h2⟩ := ih h
    cases e with
    | normal =>
      refine ⟨.normal, s1, h1, fun st hs => ?_⟩
      obtain ⟨st1, h5, h6⟩ := h2 st hs
      exact ⟨st1, h5, h6.succ fun n hn => by simp only [exec, execWith, hn]⟩
    | exit i =>
      simp only at h1
      cases hb : Nat.beq i id with
      | true =>
        rw [hb] at h1
        refine ⟨.normal, s1, h1, fun st hs => ?_⟩
        obtain ⟨st1, h5, h6⟩ := h2 st hs
        exact ⟨st1, h5, h6.succ fun n hn => by simp only [exec, execWith, hn, hb, cond_true]⟩
      | false =>
        rw [hb] at h1
        refine ⟨.exit i, s1, h1, fun st hs => ?_⟩
        obtain ⟨st1, h5, h6⟩ := h2 st hs
        exact ⟨st1, h5, h6.succ fun n hn => by simp only [exec, execWith, hn, hb, cond_false]⟩
    | ret =>
      refine ⟨.ret, s1, h1, fun st hs => ?_⟩
      obtain ⟨st1, h5, h6⟩ := h2 st hs
      exact ⟨st1, h5, h6.succ fun n hn => by simp only [exec, execWith, hn]⟩
  | loop c ih => intro s Q h; simp only [wC] at h; exact h
  | exit id => intro s Q h; exact ⟨_, _, h, fun st hs => ⟨st, hs, ⟨1, fun n hn => by obtain ⟨m, rfl⟩ : ∃ m, n = m + 1 := ⟨n - 1, by omega⟩; rfl⟩⟩⟩
  | label id => intro s Q h; exact ⟨_, _, h, fun st hs => ⟨st, hs, ⟨1, fun n hn => by obtain ⟨m, rfl⟩ : ∃ m, n = m + 1 := ⟨n - 1, by omega⟩; rfl⟩⟩⟩
  | ret => intro s Q h; exact ⟨_, _, h, fun st hs => ⟨st, hs, ⟨1, fun n hn => by obtain ⟨m, rfl⟩ : ∃ m, n = m + 1 := ⟨n - 1, by omega⟩; rfl⟩⟩⟩
  | _ => intro s Q h; exact False.elim h

/-- A round of a loop. -/
theorem W_round {vars : Nat → List Nat} {c : Code} {s : S2} {Q : Ex → S2 → Prop} (h : W P K vars nt c s fun e s1 => match e with
    | .normal => W P K vars nt (.loop c) s1 Q
    | .exit i => Q (.exit i) s1
    | .ret => Q .ret s1) : W P K vars nt (.loop c) s Q := by
  obtain ⟨e, s1, h1, h2⟩ := h
  cases e with
  | normal =>
    obtain ⟨e', s2, h3, h4⟩ := h1
    refine ⟨e', s2, h3, fun st hs => ?_⟩
    obtain ⟨st1, h5, h6⟩ := h2 st hs
    obtain ⟨st2, h7, h8⟩ := h4 st1 h5
    exact ⟨st2, h7, (h6.both h8).succ fun n hn => by
      have h9 := hn.1
      have h10 := hn.2
      simp only [exec, execWith, h9]; exact h10⟩
  | exit i =>
    refine ⟨.exit i, s1, h1, fun st hs => ?_⟩
    obtain ⟨st1, h5, h6⟩ := h2 st hs
    exact ⟨st1, h5, h6.succ fun n hn => by simp only [exec, execWith, hn]⟩
  | ret =>
    refine ⟨.ret, s1, h1, fun st hs => ?_⟩
    obtain ⟨st1, h5, h6⟩ := h2 st hs
    exact ⟨st1, h5, h6.succ fun n hn => by simp only [exec, execWith, hn]⟩
theorem wC_loop {vars : Nat → List Nat} {c : Code} {s : S2} {Q : Ex → S2 → Prop} (h : wC P K vars nt c s fun e s1 => match e with
    | .normal => W P K vars nt (.loop c) s1 Q
    | .exit i => Q (.exit i) s1
    | .ret => Q .ret s1) : W P K vars nt (.loop c) s Q := W_round (wC_to h)

/-- What a function's results come to. -/
def resA2 (P : Program) (s : S2) (rs : List ResultVar) : Option AV := resultsA P ⟨s.env, s.H, []⟩ rs
theorem resA_sim {s : S2} {st : St} (h : Sim s st) (rs : List ResultVar) : resultsA P st rs = resA2 P s rs := by
  have h1 : ∀ r, resultA P st r = resultA P ⟨s.env, s.H, []⟩ r := by
    intro r
    cases r with
    | tmp t => simp only [resultA, h.env]
    | cell a t => simp only [resultA, h.env, h.H]
  have h2 : resultA P st = resultA P ⟨s.env, s.H, []⟩ := funext h1
  unfold resA2 resultsA
  rw [h2]

/-! ### more fuel tells the same -/
def CallLe (c c' : CallA) : Prop := ∀ f args H own r, c f args H own = some r → c' f args H own = some r
theorem callA_mono {c c' : CallA} (h : CallLe c c') {H : List (Option Blk)} {own : List Loc} {f : FuncId} {args : List AV} {r : Res} (hr : callA c P H own f args = some r) : callA c' P H own f args = some r := by
  unfold callA at hr ⊢
  cases hb : hasBody P f with
  | false => rw [hb] at hr; cases hr
  | true =>
    rw [hb] at hr
    simp only [cond_true] at hr ⊢
    split at hr
    · rename_i x H' own' hc
      rw [h _ _ _ _ _ hc]; exact hr
    · cases hr
theorem core_mono {c c' : CallA} (h : CallLe c c') {o : Oper} {env : List (Nat × AV)} {H : List (Option Blk)} {own : List Loc} {r : Res} (hr : core c P ops o env H own = some r) : core c' P ops o env H own = some r := by
  obtain ⟨dst, op, ty, pos, after, guard⟩ := o
  cases op
  case call cl =>
    obtain ⟨callee, args, at_⟩ := cl
    cases callee with
    | value f =>
      simp only [core] at hr ⊢
      split at hr
      · exact callA_mono h hr
      · cases hr
    | invoke rv name =>
      simp only [core] at hr ⊢
      split at hr
      · split at hr
        · exact callA_mono h hr
        · cases hr
      · cases hr
    | builtin b =>
      cases b
      case append => exact hr
      all_goals exact hr
  case move x => cases x <;> exact hr
  all_goals exact hr
theorem coreS_mono {c c' : CallA} (h : CallLe c c') {o : Oper} {env : List (Nat × AV)} {H : List (Option Blk)} {own : List Loc} {r : Res} (hr : coreS c P ops o env H own = some r) : coreS c' P ops o env H own = some r := by
  unfold coreS at hr ⊢
  split at hr
  · exact hr
  · exact core_mono h hr
theorem stepW_mono {c c' : CallA} (h : CallLe c c') {pre : Option (Nat × Bool)} {o : Oper} {st st' : St} (hr : stepW c P nt pre ops o st = some st') : stepW c' P nt pre ops o st = some st' := by
  have hP : ∀ r, coreP c P pre ops o st.env st.H st.own = some r → coreP c' P pre ops o st.env st.H st.own = some r := by
    intro r hr
    rcases pre with _ | ⟨base, lt⟩
    · simp only [coreP] at hr ⊢
      exact coreS_mono h hr
    · simp only [coreP] at hr ⊢
      cases ha : allocOp o with
      | true => rw [ha] at hr; exact hr
      | false =>
        rw [ha] at hr
        simp only [cond_false] at hr ⊢
        cases hl : (lt && !(lateOk base o st.env)) with
        | true => rw [hl] at hr; cases hr
        | false => rw [hl] at hr; exact coreS_mono h hr
  unfold stepW at hr ⊢
  split at hr
  · unfold stepOp at hr ⊢
    split at hr
    · rename_i r hc
      rw [hP r hc]; exact hr
    · cases hr
  · exact hr
  · cases hr
theorem runOps_mono {c c' : CallA} (h : CallLe c c') {pre : Option (Nat × Bool)} : ∀ {l : List Oper} {st st' : St}, runOps c P nt pre ops l st = some st' → runOps c' P nt pre ops l st = some st'
  | [], _, _, hr => hr
  | o :: l, st, st', hr => by
    simp only [runOps] at hr ⊢
    split at hr
    · rename_i s1 h1
      rw [stepW_mono h h1]; exact runOps_mono h hr
    · cases hr
theorem exec_succ (n : Nat) (vars : Nat → List Nat) (nt : Nat) (c : Code) (st : St) : exec P K (n + 1) vars nt c st = execWith (callN P K n) P vars nt (exec P K n vars nt) c st := rfl
theorem fuel_mono : ∀ n, CallLe (callN P K n) (callN P K (n + 1)) ∧ ∀ vars nt c st r, exec P K n vars nt c st = some r → exec P K (n + 1) vars nt c st = some r := by
  intro n
  induction n with
  | zero => exact ⟨fun f args H own r h => by simp [callN] at h, fun vars nt c st r h => by simp [exec] at h⟩
  | succ n ih =>
    obtain ⟨ih1, ih2⟩ := ih
    refine ⟨?_, ?_⟩
    · intro f args H own r h
      simp only [callN] at h ⊢
      split at h
      · exact h
      · have key : ∀ r, bodyA (exec P K n) P K f args H own = some r → bodyA (exec P K (n + 1)) P K f args H own = some r := by
          intro r h
          unfold bodyA at h ⊢
          split at h
          · rename_i fn hfn
            split at h
            · rename_i c hc
              split at h
              · rename_i hle
                simp only [hfn, hc, if_pos hle]
                split at h
                · rename_i hst; rw [ih2 _ _ _ _ _ hst]; exact h
                · rename_i hst; rw [ih2 _ _ _ _ _ hst]; exact h
                · cases h
              · cases h
            · cases h
          · cases h
        unfold fzOut at h ⊢
        cases hz : K.fz f with
        | false => rw [hz] at h; exact key r h
        | true =>
          rw [hz] at h
          simp only [cond_true] at h ⊢
          split at h
          · rename_i x H1 own1 hb
            rw [key _ hb]; exact h
          · cases h
    · intro vars nt c st r h
      cases c with
      | skip => exact h
      | region id ops draw =>
        rw [exec_succ] at h ⊢
        simp only [execWith] at h ⊢
        split at h
        · rename_i st' hst
          have : (cond draw (runOps (callN P K (n + 1)) P nt (some (st.H.length, late ops.toList)) ops.toList ops.toList { st with H := st.H ++ List.replicate (allocs ops.toList) none }) (runOps (callN P K (n + 1)) P nt none ops.toList ops.toList st)) = some st' := by
            cases draw with
            | true => exact runOps_mono ih1 hst
            | false => exact runOps_mono ih1 hst
          rw [this]; exact h
        · cases h
      | seq a b =>
        rw [exec_succ] at h ⊢
        simp only [execWith] at h ⊢
        split at h
        · rename_i st' hst; rw [ih2 _ _ _ _ _ hst]; exact ih2 _ _ _ _ _ h
        · rename_i hne
          have h' := ih2 _ _ _ _ _ h
          rw [h']
          obtain ⟨e, st'⟩ := r
          cases e with
          | normal => exact absurd h (hne st')
          | exit i => rfl
          | ret => rfl
      | cond c a b =>
        rw [exec_succ] at h ⊢
        simp only [execWith] at h ⊢
        split at h
        · rename_i t ht
          cases t with
          | true => exact ih2 _ _ _ _ _ h
          | false => exact ih2 _ _ _ _ _ h
        · cases h
      | block id c =>
        rw [exec_succ] at h ⊢
        simp only [execWith] at h ⊢
        split at h
        · rename_i i st' hst; rw [ih2 _ _ _ _ _ hst]; exact h
        · rename_i hne
          have h' := ih2 _ _ _ _ _ h
          rw [h']
          obtain ⟨e, st'⟩ := r
          cases e with
          | normal => rfl
          | exit i => exact absurd h (hne i st')
          | ret => rfl
      | loop c =>
        rw [exec_succ] at h ⊢
        simp only [execWith] at h ⊢
        split at h
        · rename_i st' hst; rw [ih2 _ _ _ _ _ hst]; exact ih2 _ _ _ _ _ h
        · rename_i hne
          have h' := ih2 _ _ _ _ _ h
          rw [h']
          obtain ⟨e, st'⟩ := r
          cases e with
          | normal => exact absurd h (hne st')
          | exit i => rfl
          | ret => rfl
      | exit id => exact h
      | label id => exact h
      | ret => exact h
      | _ => exact absurd h (by rw [exec_succ]; simp [execWith])
theorem callN_mono {n m : Nat} (h : n ≤ m) {f : FuncId} {args : List AV} {H : List (Option Blk)} {own : List Loc} {r : Out} (hr : callN P K n f args H own = some r) : callN P K m f args H own = some r := by
  induction h with
  | refl => exact hr
  | step _ ih => exact (fuel_mono _).1 _ _ _ _ _ ih
theorem setEq_nil {own : List Loc} (h : SetEq own (ownOf [] [])) : own = [] := by
  cases own with
  | nil => rfl
  | cons l r => have := (h l).1 (by simp); cases this
/-- A call that is run to its end. -/
theorem calls_run {f : FuncId} {args : List AV} {H H' : List (Option Blk)} {x : AV} (n : Nat) (h : callN P K n f args H [] = some (x, H', [])) : CallsA P K f args H [] x H' [] := by
  intro own hown
  rw [setEq_nil hown]
  exact ⟨[], fun _ => Iff.rfl, ⟨n, fun m hm => callN_mono hm h⟩⟩

end
end Go.Proofs.Ytnajopkaepjncaa.Am

/- Walks, fifth part: small laws. -/
namespace Go.Proofs.Ytnajopkaepjncaa.Am
set_option linter.unusedVariables false

/-- A call that only makes memory. -/
def Gives (P : Program) (K : Know) (f : FuncId) (args : List AV) (x : AV) : Prop := ∀ H cells, ∃ E, CallsA P K f args H cells x (H ++ E) cells

/-- A place in a function's text: false: the first part, true: the second. -/
def Code.sub : Code → List Bool → Code
  | c, [] => c
  | .seq a _, false :: r => Code.sub a r
  | .seq _ b, true :: r => Code.sub b r
  | .cond _ a _, false :: r => Code.sub a r
  | .cond _ _ b, true :: r => Code.sub b r
  | .block _ c, _ :: r => Code.sub c r
  | .loop c, _ :: r => Code.sub c r
  | c, _ => c
def at_ (f : Func) (p : List Bool) : Code := match f.body with
  | some c => Code.sub c p
  | none => .skip
def More (H H' : List (Option Blk)) : Prop := ∃ E, H' = H ++ E
theorem More.refl (H : List (Option Blk)) : More H H := ⟨[], (List.append_nil H).symm⟩
theorem More.trans {A B C : List (Option Blk)} (h : More A B) (k : More B C) : More A C := by
  obtain ⟨E, rfl⟩ := h; obtain ⟨F, rfl⟩ := k; exact ⟨E ++ F, by rw [List.append_assoc]⟩
theorem More.app (H E : List (Option Blk)) : More H (H ++ E) := ⟨E, rfl⟩
theorem dec_true {p : Prop} [Decidable p] (h : decide p = true) : p := of_decide_eq_true h
theorem dec_false {p : Prop} [Decidable p] (h : decide p = false) : ¬ p := of_decide_eq_false h

theorem get_last {α : Type} (H : List α) (a : α) : (H ++ [a])[H.length]? = some a := by simp
theorem get_app {α : Type} {H : List α} {i : Nat} {a : α} (h : H[i]? = some a) (E : List α) : (H ++ E)[i]? = some a := by rw [List.getElem?_append_left (List.getElem?_eq_some_iff.1 h).1]; exact h
theorem wrap_i64 {n : Int} (h0 : -9223372036854775808 ≤ n) (h1 : n < 9223372036854775808) : IntKind.i64.wrap n = n := by
  have : IntKind.i64.wrap n = (n + 9223372036854775808) % 18446744073709551616 - 9223372036854775808 := by
    simp [IntKind.wrap, IntKind.bits, IntKind.signed]
    split <;> omega
  rw [this]; omega
/-- One more, one less. -/
theorem int_eq {m n : Int} (h : m = n) : some (AV.int .i64 m) = some (AV.int .i64 n) := by rw [h]
theorem i64_eq {m n : Int} (h : m = n) (h0 : -9223372036854775808 ≤ n) (h1 : n < 9223372036854775808) : some (AV.int .i64 (IntKind.i64.wrap m)) = some (AV.int .i64 n) := by rw [h, wrap_i64 h0 h1]
theorem bool_eq {a b : Bool} (h : a = b) : some (AV.bool a) = some (AV.bool b) := by rw [h]

end Go.Proofs.Ytnajopkaepjncaa.Am

/- Walks, sixth part: the same with a state's parts handed on one by one, so that they unfold fast. -/
namespace Go.Proofs.Ytnajopkaepjncaa.Am
set_option linter.unusedVariables false

abbrev Env := List (Nat × AV)
abbrev Hp := List (Option Blk)
abbrev Cl := List (Nat × Nat)
abbrev K5 := AV → Hp → List Nat → Cl → Bool → Prop
abbrev K4 := Env → Hp → List Nat → Cl → Prop

def cCall (P : Program) (K : Know) (f : FuncId) (args : List AV) (H : Hp) (slots : List Nat) (cells : Cl) (k : K5) : Prop :=
  hasBody P f = true ∧ ∃ x H' cells', CallsA P K f args H cells x H' cells' ∧ frc x fun x => k x H' slots cells' false
def cAppend (P : Program) (env : Env) (H : Hp) (slots : List Nat) (cells : Cl) (x y : Operand) (ts ty : TypeId) (k : K5) : Prop :=
  wO env x fun a => wO env y fun b =>
  match P.underlying ts with
  | some (.slice e) => match P.info? e, zeroT P e with
    | some i, some z => ∃ ys, tailA P e ts ty b = some ys ∧ (match a with
      | .nils => ys.length * i.bytes ≤ 140737488355328 ∧ ys.length ≤ 140737488355328 ∧ 0 < i.size ∧ z.length = i.size ∧ k (.lst e ys []) H slots cells true
      | .lst e' xs [] => match x with
        | .tmp t => has slots t = true ∧ e' = e ∧ (xs.length + ys.length) * i.bytes ≤ 140737488355328 ∧ xs.length + ys.length ≤ 140737488355328 ∧ 0 < i.size ∧ z.length = i.size ∧ ∃ zs, xs ++ ys = zs ∧ k (.lst e zs []) H (drp slots t) cells true
        | _ => False
      | _ => False)
    | _, _ => False
  | _ => False
def cStored (slots : List Nat) (cells : Cl) (x : Operand) (v : AV) (id off : Nat) (k : List Nat → Cl → Prop) : Prop :=
  wMoved slots x fun sl mv => match mv && v.isOne with
    | true => ∃ cs, (∀ p, p ∈ cs ↔ p = (id, off) ∨ (p ∈ cells ∧ ¬ (p.1 = id ∧ off ≤ p.2 ∧ p.2 < off + v.cells.length))) ∧ k sl cs
    | false => ∃ cs, (∀ p, p ∈ cs ↔ (p ∈ cells ∧ ¬ (p.1 = id ∧ off ≤ p.2 ∧ p.2 < off + v.cells.length))) ∧ k slots cs

def cCore (P : Program) (K : Know) (ops : List Oper) (o : Oper) (env : Env) (H : Hp) (slots : List Nat) (cells : Cl) (k : K5) : Prop :=
  match o.op with
  | .move (.tmp v) => frc (look env v) fun x => match has slots v && appDst ops o.dst with
    | true => k x H (drp slots v) cells true
    | false => k x H slots cells false
  | .load t a => wO env a fun p => match p with
    | .ptr id off => ∃ b, H[id]? = some (some b) ∧ wRd P t off b.cs fun v => (match appDst ops o.dst && (sizeT P t == some 1) && (isAggT P t == some false) with
      | true => ((id, off) ∈ cells ∧ ∃ cs, (∀ p, p ∈ cs ↔ p ∈ cells ∧ p ≠ (id, off)) ∧ k v H slots cs true) ∨ ((id, off) ∉ cells ∧ k v H slots cells false)
      | false => k v H slots cells false)
    | p => wOpt (loadA P H t p) fun v => k v H slots cells false
  | .alloc e => match zeroT P e with
    | some z => ∃ id, H.length = id ∧ ∃ H', H ++ [some ⟨e, z⟩] = H' ∧ k (.ptr id 0) H' slots cells false
    | none => False
  | .box e x => wO env x fun v => 0 < v.cells.length ∧ ∃ id, H.length = id ∧ ∃ H', H ++ [some ⟨e, v.cells⟩] = H' ∧ k (.ptr id 0) H' slots cells false
  | .store t a x => wO env a fun p => wO env x fun v => match p with
    | .ptr id off => match sizeT P t with
      | some n => ∃ b, H[id]? = some (some b) ∧ v.cells.length = n ∧ 0 < n ∧ off + n ≤ b.cs.length ∧ ∃ H', H.set id (some ⟨b.e, splice b.cs off v.cells⟩) = H' ∧ cStored slots cells x v id off fun sl cs => k (.tup []) H' sl cs false
      | none => False
    | _ => False
  | .assign x => wO env x fun v => wMoved slots x fun sl mv => k v H sl cells mv
  | .buildSlice t len parts => match core (fun _ _ _ _ => none) P ops o env [] [] with
    | some r => frcD r.val fun v => k v H slots cells true
    | none => False
  | .makeSlice t len cap => wO env len fun n => wO env cap fun c => match P.underlying t with
    | some (.slice e) => match natA n, natA c, P.info? e, zeroT P e with
      | some n, some c, some i, some z => n ≤ c ∧ c * i.bytes ≤ 140737488355328 ∧ c ≤ 140737488355328 ∧ 0 < i.size ∧ z.length = i.size ∧ (match ofCells P e z with
        | some x => ∃ zs, List.replicate n x = zs ∧ k (.lst e zs []) H slots cells true
        | none => False)
      | _, _, _, _ => False
    | _ => False
  | .convert src dst x => wO env x fun a => ∃ v, core (fun _ _ _ _ => none) P ops o env [] [] = some ⟨v, [], [], false⟩ ∧ k v H slots cells false
  | .call { callee := .value f, args, .. } => wO env f fun fv => match fv with
    | .fn g cap => wL env args.toList fun vs => cCall P K g (vs ++ cap) H slots cells k
    | _ => False
  | .call { callee := .invoke r name, args, .. } => wO env r fun rv => match rv with
    | .iface t v => wL env args.toList fun vs => ∃ f x, methodA P H t v name = some (f, x) ∧ cCall P K f (x :: vs) H slots cells k
    | _ => False
  | .call { callee := .builtin .append, args, argTypes } => match args.toList, argTypes.toList with
    | [x, y], [ts, ty] => cAppend P env H slots cells x y ts ty k
    | _, _ => False
  | op => wPure P env op fun v => k v H slots cells false

def cPut (nt : Nat) (ops : List Oper) (env : Env) (dst : Option Nat) (v : AV) (H : Hp) (slots : List Nat) (cells : Cl) (gives : Bool) (k : K4) : Prop :=
  match dst with
  | none => frcS slots fun sl => k env H sl cells
  | some d => match Nat.blt d nt with
    | true => frc v fun v => match v, gSlot ops d with
      | .bool b, true => frcS (putOwn2 slots gives d) fun sl => (b = true → k ((d, .bool true) :: env) H sl cells) ∧ (b = false → k ((d, .bool false) :: env) H sl cells)
      | v, _ => frcS (putOwn2 slots gives d) fun sl => k ((d, v) :: env) H sl cells
    | false => False
def cNew (P : Program) (o : Oper) (env : Env) (H : Hp) (slots : List Nat) (cells : Cl) (id : Nat) (k : K5) : Prop :=
  H[id]? = some none ∧ match o.op with
    | .alloc e => match zeroT P e with
      | some z => ∃ H', H.set id (some ⟨e, z⟩) = H' ∧ k (.ptr id 0) H' slots cells false
      | none => False
    | .box e x => wO env x fun v => 0 < v.cells.length ∧ ∃ H', H.set id (some ⟨e, v.cells⟩) = H' ∧ k (.ptr id 0) H' slots cells false
    | _ => False
/-- A list that is written into is made. -/
def cSl (P : Program) (e : TypeId) (op : Op) (env : Env) (H : Hp) (slots : List Nat) (cells : Cl) (k : K5) : Prop :=
  match op with
  | .makeSlice t len cap => wO env len fun n => wO env cap fun c => match P.underlying t with
    | some (.slice e') => match P.info? e, zeroT P e with
      | some i, some z => ∃ n', natA n = some n' ∧ ∃ c', natA c = some c' ∧ e' = e ∧ n' ≤ c' ∧ c' * i.bytes ≤ 140737488355328 ∧ c' ≤ 140737488355328 ∧ 0 < i.size ∧ z.length = i.size ∧ ∃ id, H.length = id ∧ ∃ zs, rep c' z = zs ∧ ∃ H', H ++ [some ⟨e, zs⟩] = H' ∧ k (.sl e id 0 n') H' slots cells false
      | _, _ => False
    | _ => False
  | .call { callee := .builtin .append, args, argTypes } => match args.toList, argTypes.toList with
    | [x, y], [ts, tx] => wO env x fun a => wO env y fun b => match P.underlying ts with
      | some (.slice e') => match P.info? e, zeroT P e with
        | some i, some z => ∃ ys, tailA P e ts tx b = some ys ∧ (match a with
          | .nils => e' = e ∧ 0 < ys.length ∧ ys.length * i.bytes ≤ 140737488355328 ∧ ys.length ≤ 140737488355328 ∧ 0 < i.size ∧ z.length = i.size ∧ ∃ id, H.length = id ∧ ∃ H', H ++ [some ⟨e, flat ys⟩] = H' ∧ k (.sl e id 0 ys.length) H' slots cells false
          | .sl e'' id off len => ∃ b, H[id]? = some (some b) ∧ e' = e ∧ e'' = e ∧ b.e = e ∧ off = 0 ∧ 0 < b.cs.length ∧ len * i.size ≤ b.cs.length ∧ (len + ys.length) * i.bytes ≤ 140737488355328 ∧ len + ys.length ≤ 140737488355328 ∧ 0 < i.size ∧ z.length = i.size ∧
              ∃ id', H.length = id' ∧ ∃ H', H.set id (some ⟨e, []⟩) ++ [some ⟨e, b.cs.take (len * i.size) ++ flat ys⟩] = H' ∧ ∃ m, len + ys.length = m ∧ k (.sl e id' 0 m) H' slots cells false
          | _ => False)
        | _, _ => False
      | _ => False
    | _, _ => False
  | _ => False
def cCoreS (P : Program) (K : Know) (ops : List Oper) (o : Oper) (env : Env) (H : Hp) (slots : List Nat) (cells : Cl) (k : K5) : Prop :=
  match slElem P o with
  | some e => cSl P e o.op env H slots cells k
  | none => cCore P K ops o env H slots cells k
def cCoreP (P : Program) (K : Know) (pre : Option (Nat × Bool)) (ops : List Oper) (o : Oper) (env : Env) (H : Hp) (slots : List Nat) (cells : Cl) (k : K5) : Prop :=
  match pre with
  | none => cCoreS P K ops o env H slots cells k
  | some (base, lt) => match allocOp o with
    | true => match o.dst with
      | some d => match rank ops d with
        | some q => cNew P o env H slots cells (base + q) k
        | none => False
      | none => False
    | false => match lt with
      | true => lateOk base o env = true ∧ cCoreS P K ops o env H slots cells k
      | false => cCoreS P K ops o env H slots cells k
def cStep (P : Program) (K : Know) (nt : Nat) (pre : Option (Nat × Bool)) (ops : List Oper) (o : Oper) (env : Env) (H : Hp) (slots : List Nat) (cells : Cl) (k : K4) : Prop :=
  match wantedA ops env o with
  | some true => cCoreP P K pre ops o env H slots cells fun v H' sl cl g => cPut nt ops env o.dst v H' sl cl g k
  | some false => cPut nt ops env o.dst (.tup []) H slots cells false k
  | none => False
def cOps (P : Program) (K : Know) (nt : Nat) (pre : Option (Nat × Bool)) (ops : List Oper) : List Oper → Env → Hp → List Nat → Cl → K4 → Prop
  | [], env, H, slots, cells, k => k env H slots cells
  | o :: r, env, H, slots, cells, k => cStep P K nt pre ops o env H slots cells fun env' H' sl cl => cOps P K nt pre ops r env' H' sl cl k
def cKept (vars : List Nat) (env : Env) (H : Hp) (slots : List Nat) (cells : Cl) (k : K4) : Prop :=
  wKeep env vars fun l => frcS (slots.filter fun q => vars.any (Nat.beq q)) fun sl => k l H sl cells
/-- A loop that ends in Q. -/
structure L (P : Program) (K : Know) (vars : Nat → List Nat) (nt : Nat) (c : Code) (env : Env) (H : Hp) (slots : List Nat) (cells : Cl) (Q : Ex → K4) : Prop where
  w : W P K vars nt (.loop c) ⟨env, H, slots, cells⟩ fun e s => Q e s.env s.H s.slots s.cells
/-- What a statement asks, so that it ends in Q. -/
def cC (P : Program) (K : Know) (vars : Nat → List Nat) (nt : Nat) : Code → Env → Hp → List Nat → Cl → (Ex → K4) → Prop
  | .skip, env, H, slots, cells, Q => Q .normal env H slots cells
  | .region id ops draw, env, H, slots, cells, Q => match draw with
    | false => cOps P K nt none ops.toList ops.toList env H slots cells fun env' H' sl cl => cKept (vars id) env' H' sl cl (Q .normal)
    | true => match allocs ops.toList with
      | 0 => ∃ b, H.length = b ∧ cOps P K nt (some (b, late ops.toList)) ops.toList ops.toList env H slots cells fun env' H' sl cl => cKept (vars id) env' H' sl cl (Q .normal)
      | m + 1 => ∃ b, H.length = b ∧ ∃ H1, H ++ List.replicate (m + 1) none = H1 ∧ cOps P K nt (some (b, late ops.toList)) ops.toList ops.toList env H1 slots cells fun env' H' sl cl => cKept (vars id) env' H' sl cl (Q .normal)
  | .seq a b, env, H, slots, cells, Q => cC P K vars nt a env H slots cells fun e env' H' sl cl => match e with
    | .normal => cC P K vars nt b env' H' sl cl Q
    | .exit i => Q (.exit i) env' H' sl cl
    | .ret => Q .ret env' H' sl cl
  | .cond c a b, env, H, slots, cells, Q => wO env c fun v => match v with
    | .bool t => (t = true → cC P K vars nt a env H slots cells Q) ∧ (t = false → cC P K vars nt b env H slots cells Q)
    | _ => False
  | .block id c, env, H, slots, cells, Q => cC P K vars nt c env H slots cells fun e env' H' sl cl => match e with
    | .normal => Q .normal env' H' sl cl
    | .exit i => match Nat.beq i id with
      | true => Q .normal env' H' sl cl
      | false => Q (.exit i) env' H' sl cl
    | .ret => Q .ret env' H' sl cl
  | .loop c, env, H, slots, cells, Q => L P K vars nt c env H slots cells Q
  | .exit id, env, H, slots, cells, Q => Q (.exit id) env H slots cells
  | .label _, env, H, slots, cells, Q => Q .normal env H slots cells
  | .ret, env, H, slots, cells, Q => Q .ret env H slots cells
  | _, _, _, _, _, _ => False

section
variable {P : Program} {K : Know} {ops : List Oper} {nt : Nat}

theorem wO_mono {env : Env} {x : Operand} {k k' : AV → Prop} (h : wO env x k) (hk : ∀ v, k v → k' v) : wO env x k' := by
  obtain ⟨v, h1, h2⟩ := wO_to h
  show wOpt _ _
  unfold wOpt
  rw [h1]
  exact (frc_iff _ _).2 (hk v h2)
theorem wL_mono {env : Env} : ∀ {l : List Operand} {k k' : List AV → Prop}, wL env l k → (∀ v, k v → k' v) → wL env l k'
  | [], k, k', h, hk => hk _ h
  | x :: r, k, k', h, hk => wO_mono h fun v h => wL_mono h fun vs h => hk _ h
theorem cCall_to {env : Env} {f : FuncId} {args : List AV} {H : Hp} {slots : List Nat} {cells : Cl} {k : K5} (h : cCall P K f args H slots cells k) : wCall P K f args ⟨env, H, slots, cells⟩ fun r => k r.val r.H r.slots r.cells r.gives := by
  unfold wCall
  rw [h.1]
  exact h.2
theorem cCore_to {o : Oper} {env : Env} {H : Hp} {slots : List Nat} {cells : Cl} {k : K5} (h : cCore P K ops o env H slots cells k) :
    wCore P K ops o ⟨env, H, slots, cells⟩ fun r => k r.val r.H r.slots r.cells r.gives := by
  obtain ⟨dst, op, ty, pos, after, guard⟩ := o
  cases op
  case move x => cases x <;> exact h
  case call c =>
    obtain ⟨callee, args, at_⟩ := c
    cases callee with
    | value f =>
      simp only [cCore] at h
      simp only [wCore]
      refine wO_mono h fun fv h => ?_
      cases fv with
      | fn g cap => exact wL_mono h fun vs h => cCall_to h
      | _ => exact h
    | invoke r name =>
      simp only [cCore] at h
      simp only [wCore]
      refine wO_mono h fun rv h => ?_
      cases rv with
      | iface t v =>
        refine wL_mono h fun vs h => ?_
        obtain ⟨f, x, h1, h2⟩ := h
        exact ⟨f, x, h1, cCall_to h2⟩
      | _ => exact h
    | builtin b => cases b <;> exact h
  all_goals exact h
theorem cCoreS_to {o : Oper} {env : Env} {H : Hp} {slots : List Nat} {cells : Cl} {k : K5} (h : cCoreS P K ops o env H slots cells k) :
    wCoreS P K ops o ⟨env, H, slots, cells⟩ fun r => k r.val r.H r.slots r.cells r.gives := by
  unfold cCoreS at h
  unfold wCoreS
  cases hs : slElem P o with
  | some e => rw [hs] at h; exact h
  | none => rw [hs] at h; exact cCore_to h
theorem cPut_to {env : Env} {dst : Option Nat} {v : AV} {H : Hp} {slots : List Nat} {cells : Cl} {g : Bool} {k : K4} (h : cPut nt ops env dst v H slots cells g k) :
    wPut nt ops env dst ⟨v, H, slots, cells, g⟩ fun s => k s.env s.H s.slots s.cells := by
  cases dst with
  | none => exact h
  | some d =>
    unfold cPut at h
    unfold wPut
    simp only at h ⊢
    cases hb : Nat.blt d nt with
    | false => rw [hb] at h; exact h.elim
    | true =>
      rw [hb] at h
      simp only at h ⊢
      rw [frc_iff] at h
      exact h
theorem wCoreP_mono {pre : Option (Nat × Bool)} {o : Oper} {s : S2} {k k' : R2 → Prop} (hk : ∀ r, k r → k' r) (h : ∃ r, k r ∧ CorePTo P K pre ops o s r) : ∃ r, k' r ∧ CorePTo P K pre ops o s r := by
  obtain ⟨r, h1, h2⟩ := h
  exact ⟨r, hk r h1, h2⟩
theorem cCoreP_to {pre : Option (Nat × Bool)} {o : Oper} {env : Env} {H : Hp} {slots : List Nat} {cells : Cl} {k : K5} (h : cCoreP P K pre ops o env H slots cells k) :
    wCoreP P K pre ops o ⟨env, H, slots, cells⟩ fun r => k r.val r.H r.slots r.cells r.gives := by
  rcases pre with _ | ⟨base, lt⟩
  · exact cCoreS_to h
  · unfold cCoreP at h
    unfold wCoreP
    simp only at h ⊢
    cases ha : allocOp o with
    | true =>
      rw [ha] at h
      exact h
    | false =>
      rw [ha] at h
      cases lt with
      | true => exact ⟨h.1, cCoreS_to h.2⟩
      | false => exact cCoreS_to h
/-- A step, as far as it goes. -/
theorem cStep_to {pre : Option (Nat × Bool)} {o : Oper} {env : Env} {H : Hp} {slots : List Nat} {cells : Cl} {k : K4} (h : cStep P K nt pre ops o env H slots cells k) :
    ∃ s1 : S2, k s1.env s1.H s1.slots s1.cells ∧ StepTo P K nt pre ops o ⟨env, H, slots, cells⟩ s1 := by
  unfold cStep at h
  cases hw : wantedA ops env o with
  | none => rw [hw] at h; exact h.elim
  | some b =>
    rw [hw] at h
    have key : wStep P K nt pre ops o ⟨env, H, slots, cells⟩ (fun s => k s.env s.H s.slots s.cells) → ∃ s1 : S2, k s1.env s1.H s1.slots s1.cells ∧ StepTo P K nt pre ops o ⟨env, H, slots, cells⟩ s1 := fun h => wStep_to h
    cases b with
    | false => exact key (by unfold wStep; simp only [hw]; exact cPut_to h)
    | true =>
      obtain ⟨r, h1, h2⟩ := wCoreP_to (cCoreP_to h)
      obtain ⟨s1, h3, h4⟩ := wPut_to (cPut_to h1)
      refine ⟨s1, h3, fun st hs => ?_⟩
      obtain ⟨own', h5, h6⟩ := h2 st.own hs.own
      obtain ⟨st1, h7, h8⟩ := h4 own' st.env h5 hs.env
      refine ⟨st1, h8, h6.mono fun n hn => ?_⟩
      unfold stepW stepOp
      rw [wanted_env (env' := env) fun q _ => hs.env q, hw]
      simp only
      rw [coreP_env (env' := env) fun q _ => hs.env q, hs.H, hn]
      exact h7
theorem cOps_to {pre : Option (Nat × Bool)} : ∀ {l : List Oper} {env : Env} {H : Hp} {slots : List Nat} {cells : Cl} {k : K4}, cOps P K nt pre ops l env H slots cells k →
    ∃ s1 : S2, k s1.env s1.H s1.slots s1.cells ∧ ∀ st, Sim ⟨env, H, slots, cells⟩ st → ∃ st1, Sim s1 st1 ∧ Ev fun n => runOps (callN P K n) P nt pre ops l st = some st1
  | [], env, H, slots, cells, k, h => ⟨⟨env, H, slots, cells⟩, h, fun st hs => ⟨st, hs, Ev.of fun n => rfl⟩⟩
  | o :: l, env, H, slots, cells, k, h => by
    obtain ⟨s1, h1, h2⟩ := cStep_to h
    obtain ⟨s2, h3, h4⟩ := cOps_to h1
    refine ⟨s2, h3, fun st hs => ?_⟩
    obtain ⟨st1, h5, h6⟩ := h2 st hs
    obtain ⟨st2, h7, h8⟩ := h4 st1 h5
    exact ⟨st2, h7, (h6.both h8).mono fun n hn => by simp only [runOps, hn.1]; exact hn.2⟩
theorem cKept_to {vars : List Nat} {env : Env} {H : Hp} {slots : List Nat} {cells : Cl} {k : K4} (h : cKept vars env H slots cells k) :
    k (vars.map fun s => (s, look env s)) H (slots.filter fun q => vars.any (Nat.beq q)) cells := by
  have h3 := wKeep_to h
  rw [frcS_iff] at h3
  exact h3

theorem cC_to {vars : Nat → List Nat} : ∀ {c : Code} {env : Env} {H : Hp} {slots : List Nat} {cells : Cl} {Q : Ex → K4}, cC P K vars nt c env H slots cells Q → W P K vars nt c ⟨env, H, slots, cells⟩ fun e s => Q e s.env s.H s.slots s.cells := by
  intro c
  induction c with
  | skip => intro env H slots cells Q h; exact wC_to (c := .skip) h
  | region id ops draw =>
    intro env H slots cells Q h
    simp only [cC] at h
    cases draw with
    | false =>
      simp only at h
      obtain ⟨s1, h1, h2⟩ := cOps_to h
      have h3 := cKept_to h1
      refine ⟨.normal, ⟨_, _, _, _⟩, h3, fun st hs => ?_⟩
      obtain ⟨st1, h4, h5⟩ := h2 st hs
      exact ⟨_, sim_keep h4, h5.succ fun n hn => by simp only [exec, execWith, cond_false, hn]⟩
    | true =>
      simp only at h
      have key : ∀ m, m = allocs ops.toList → cOps P K nt (some (H.length, late ops.toList)) ops.toList ops.toList env (H ++ List.replicate m none) slots cells (fun env' H' sl cl => cKept (vars id) env' H' sl cl (Q .normal)) →
          W P K vars nt (.region id ops true) ⟨env, H, slots, cells⟩ fun e s => Q e s.env s.H s.slots s.cells := by
        rintro m rfl h
        obtain ⟨s1, h1, h2⟩ := cOps_to h
        have h3 := cKept_to h1
        refine ⟨.normal, ⟨_, _, _, _⟩, h3, fun st hs => ?_⟩
        obtain ⟨st1, h4, h5⟩ := h2 _ (sim_holes hs (allocs ops.toList))
        refine ⟨_, sim_keep h4, h5.succ fun n hn => ?_⟩
        simp only [exec, execWith, cond_true]
        have e : H = st.H := hs.H.symm
        subst e
        rw [hn]
      cases ha : allocs ops.toList with
      | zero =>
        rw [ha] at h
        obtain ⟨b, rfl, h⟩ := h
        exact key 0 ha.symm (by rw [List.replicate_zero, List.append_nil]; exact h)
      | succ m =>
        rw [ha] at h
        obtain ⟨b, rfl, H1, rfl, h⟩ := h
        exact key (m + 1) ha.symm h
  | seq a b iha ihb =>
    intro env H slots cells Q h
    simp only [cC] at h
    obtain ⟨e, s1, h1, h2⟩ := iha h
    cases e with
    | normal =>
      obtain ⟨e', s2, h3, h4⟩ := ihb h1
      refine ⟨e', s2, h3, fun st hs => ?_⟩
      obtain ⟨st1, h5, h6⟩ := h2 st hs
      obtain ⟨st2, h7, h8⟩ := h4 st1 h5
      exact ⟨st2, h7, (h6.both h8).succ fun n hn => by simp only [exec, execWith, hn.1]; exact hn.2⟩
    | exit i =>
      refine ⟨.exit i, s1, h1, fun st hs => ?_⟩
      obtain ⟨st1, h5, h6⟩ := h2 st hs
      exact ⟨st1, h5, h6.succ fun n hn => by simp only [exec, execWith, hn]⟩
    | ret =>
      refine ⟨.ret, s1, h1, fun st hs => ?_⟩
      obtain ⟨st1, h5, h6⟩ := h2 st hs
      exact ⟨st1, h5, h6.succ fun n hn => by simp only [exec, execWith, hn]⟩
  | cond c a b iha ihb =>
    intro env H slots cells Q h
    simp only [cC] at h
    obtain ⟨v, hv, h⟩ := wO_to h
    have hev : ∀ st, Sim ⟨env, H, slots, cells⟩ st → evalO st.env c = some v := fun st hs => by
      rw [← hv]; exact evalO_env fun q _ => hs.env q
    cases v with
    | bool t =>
      cases t with
      | true =>
        obtain ⟨e, s1, h1, h2⟩ := iha (h.1 rfl)
        refine ⟨e, s1, h1, fun st hs => ?_⟩
        obtain ⟨st1, h5, h6⟩ := h2 st hs
        exact ⟨st1, h5, h6.succ fun n hn => by simp only [exec, execWith, hev st hs, cond_true]; exact hn⟩
      | false =>
        obtain ⟨e, s1, h1, h2⟩ := ihb (h.2 rfl)
        refine ⟨e, s1, h1, fun st hs => ?_⟩
        obtain ⟨st1, h5, h6⟩ := h2 st hs
        exact ⟨st1, h5, h6.succ fun n hn => by simp only [exec, execWith, hev st hs, cond_false]; exact hn⟩
    | _ => exact h.elim
  | block id c ih =>
    intro env H slots cells Q h
    simp only [cC] at h
    obtain ⟨e, s1, h1, h2⟩ := ih h
    cases e with
    | normal =>
      refine ⟨.normal, s1, h1, fun st hs => ?_⟩
      obtain ⟨st1, h5, h6⟩ := h2 st hs
      exact ⟨st1, h5, h6.succ fun n hn => by simp only [exec, execWith, hn]⟩
    | exit i =>
      simp only at h1
      cases hb : Nat.beq i id with
      | true =>
        rw [hb] at h1
        refine ⟨.normal, s1, h1, fun st hs => ?_⟩
        obtain ⟨st1, h5, h6⟩ := h2 st hs
        exact ⟨st1, h5, h6.succ fun n hn => by simp only [exec, execWith, hn, hb, cond_true]⟩
      | false =>
        rw [hb] at h1
        refine ⟨.exit i, s1, h1, fun st hs => ?_⟩
        obtain ⟨st1, h5, h6⟩ := h2 st hs
        exact ⟨st1, h5, h6.succ fun n hn => by simp only [exec, execWith, hn, hb, cond_false]⟩
    | ret =>
      refine ⟨.ret, s1, h1, fun st hs => ?_⟩
      obtain ⟨st1, h5, h6⟩ := h2 st hs
      exact ⟨st1, h5, h6.succ fun n hn => by simp only [exec, execWith, hn]⟩
  | loop c ih => intro env H slots cells Q h; exact L.w h
  | exit id => intro env H slots cells Q h; exact wC_to (c := .exit id) h
  | label id => intro env H slots cells Q h; exact wC_to (c := .label id) h
  | ret => intro env H slots cells Q h; exact wC_to (c := .ret) h
  | _ => intro env H slots cells Q h; exact False.elim h

theorem L_round {vars : Nat → List Nat} {c : Code} {env : Env} {H : Hp} {slots : List Nat} {cells : Cl} {Q : Ex → K4} (h : cC P K vars nt c env H slots cells fun e env' H' sl cl => match e with
    | .normal => L P K vars nt c env' H' sl cl Q
    | .exit i => Q (.exit i) env' H' sl cl
    | .ret => Q .ret env' H' sl cl) : L P K vars nt c env H slots cells Q := by
  refine ⟨W_round (W_mono (cC_to h) ?_)⟩
  intro e s hs
  cases e with
  | normal => exact hs.w
  | exit i => exact hs
  | ret => exact hs
theorem L_mono {vars : Nat → List Nat} {c : Code} {env : Env} {H : Hp} {slots : List Nat} {cells : Cl} {Q Q' : Ex → K4} (h : L P K vars nt c env H slots cells Q) (k : ∀ e env' H' sl cl, Q e env' H' sl cl → Q' e env' H' sl cl) : L P K vars nt c env H slots cells Q' :=
  ⟨W_mono h.w fun e s hs => k _ _ _ _ _ hs⟩
/-- A call, by its body. -/
theorem calls_by {f : FuncId} {fn : Func} {c : Code} (hf : P.funcs[f]? = some fn) (hb : fn.body = some c) (hK : (K.short f, K.fz f) = (none, false)) {args : List AV} {H : Hp} {cells : Cl} {x : AV} {H' : Hp} {cells' : Cl}
    (hlen : Nat.ble args.length fn.ntmps = true) (h : cC P K (K.vars f) fn.ntmps c (zipArgs 0 args) H [] cells fun e env' H1 sl cl => match e with
      | .exit _ => False
      | _ => resA2 P ⟨env', H1, [], []⟩ fn.results.toList = some x ∧ H1 = H' ∧ cl = cells') :
    CallsA P K f args H cells x H' cells' := by
  obtain ⟨e, s, h1, h3⟩ := cC_to h
  have h2 : (match e with | .exit _ => False | _ => True) ∧ resA2 P ⟨s.env, s.H, [], []⟩ fn.results.toList = some x ∧ s.H = H' ∧ s.cells = cells' := by
    cases e with
    | normal => exact ⟨trivial, h1⟩
    | exit i => exact h1.elim
    | ret => exact ⟨trivial, h1⟩
  obtain ⟨h4, h5, rfl, rfl⟩ := h2
  intro own hown
  have hs : Sim ⟨zipArgs 0 args, H, [], cells⟩ ⟨zipArgs 0 args, H, own.filter Loc.isCell⟩ := by
    refine ⟨fun _ => rfl, rfl, fun l => ?_⟩
    show l ∈ own.filter _ ↔ _
    rw [List.mem_filter, hown]
    cases l with
    | slot q => rw [slot_ownOf]; simp
    | cell i o => simp [Loc.isCell]
  obtain ⟨st', h6, h7⟩ := h3 _ hs
  refine ⟨st'.own.filter Loc.isCell, ?_, h7.succ fun n hn => ?_⟩
  · intro l
    rw [List.mem_filter, h6.own]
    cases l with
    | slot q => rw [slot_ownOf, slot_ownOf]; simp [Loc.isCell]
    | cell i o => rw [cell_ownOf, cell_ownOf]; simp [Loc.isCell]
  · have hr : resultsA P st' fn.results.toList = some x := by rw [resA_sim h6]; exact h5
    have hle : args.length ≤ fn.ntmps := Nat.ble_eq.mp hlen
    have hK1 : K.short f = none := congrArg Prod.fst hK
    have hK2 : K.fz f = false := congrArg Prod.snd hK
    simp only [callN, hK1, hK2, fzOut, cond_false, bodyA, hf, hb, if_pos hle, hn]
    cases e with
    | normal => simp only [hr, Option.map_some, h6.H]
    | ret => simp only [hr, Option.map_some, h6.H]
    | exit i => exact h4.elim

/-- A call, by its body: what it answers is told by what the body ends in. -/
theorem calls_post {f : FuncId} {fn : Func} {c : Code} (hf : P.funcs[f]? = some fn) (hb : fn.body = some c) (hK : (K.short f, K.fz f) = (none, false)) {args : List AV} {H : Hp} {cells : Cl} {R : AV → Hp → Cl → Prop}
    (hlen : Nat.ble args.length fn.ntmps = true) (h : cC P K (K.vars f) fn.ntmps c (zipArgs 0 args) H [] cells fun e env' H1 sl cl => match e with
      | .exit _ => False
      | _ => ∃ x, resA2 P ⟨env', H1, [], []⟩ fn.results.toList = some x ∧ R x H1 cl) :
    ∃ x H' cells', R x H' cells' ∧ CallsA P K f args H cells x H' cells' := by
  obtain ⟨e, s, h1, h3⟩ := cC_to h
  have h2 : ∃ x, (match e with | .exit _ => False | _ => True) ∧ resA2 P ⟨s.env, s.H, [], []⟩ fn.results.toList = some x ∧ R x s.H s.cells := by
    cases e with
    | normal => obtain ⟨x, h1⟩ := h1; exact ⟨x, trivial, h1⟩
    | exit i => exact h1.elim
    | ret => obtain ⟨x, h1⟩ := h1; exact ⟨x, trivial, h1⟩
  obtain ⟨x, h4, h5, h6⟩ := h2
  refine ⟨x, s.H, s.cells, h6, ?_⟩
  intro own hown
  have hs : Sim ⟨zipArgs 0 args, H, [], cells⟩ ⟨zipArgs 0 args, H, own.filter Loc.isCell⟩ := by
    refine ⟨fun _ => rfl, rfl, fun l => ?_⟩
    show l ∈ own.filter _ ↔ _
    rw [List.mem_filter, hown]
    cases l with
    | slot q => rw [slot_ownOf]; simp
    | cell i o => simp [Loc.isCell]
  obtain ⟨st', h6, h7⟩ := h3 _ hs
  refine ⟨st'.own.filter Loc.isCell, ?_, h7.succ fun n hn => ?_⟩
  · intro l
    rw [List.mem_filter, h6.own]
    cases l with
    | slot q => rw [slot_ownOf, slot_ownOf]; simp [Loc.isCell]
    | cell i o => rw [cell_ownOf, cell_ownOf]; simp [Loc.isCell]
  · have hr : resultsA P st' fn.results.toList = some x := by rw [resA_sim h6]; exact h5
    have hle : args.length ≤ fn.ntmps := Nat.ble_eq.mp hlen
    have hK1 : K.short f = none := congrArg Prod.fst hK
    have hK2 : K.fz f = false := congrArg Prod.snd hK
    simp only [callN, hK1, hK2, fzOut, cond_false, bodyA, hf, hb, if_pos hle, hn]
    cases e with
    | normal => simp only [hr, Option.map_some, h6.H]
    | ret => simp only [hr, Option.map_some, h6.H]
    | exit i => exact h4.elim
/-- The same for a function whose lists are written no more behind it. -/
theorem calls_fz {f : FuncId} {fn : Func} {c : Code} (hf : P.funcs[f]? = some fn) (hb : fn.body = some c) (hK : (K.short f, K.fz f) = (none, true)) {args : List AV} {H : Hp} {cells : Cl} {R : AV → Hp → Cl → Prop}
    (hlen : Nat.ble args.length fn.ntmps = true) (h : cC P K (K.vars f) fn.ntmps c (zipArgs 0 args) H [] cells fun e env' H1 sl cl => match e with
      | .exit _ => False
      | _ => ∃ x, resA2 P ⟨env', H1, [], []⟩ fn.results.toList = some x ∧ R (fzV P x H1).1 (fzV P x H1).2 cl) :
    ∃ x H' cells', R x H' cells' ∧ CallsA P K f args H cells x H' cells' := by
  obtain ⟨e, s, h1, h3⟩ := cC_to h
  have h2 : ∃ x, (match e with | .exit _ => False | _ => True) ∧ resA2 P ⟨s.env, s.H, [], []⟩ fn.results.toList = some x ∧ R (fzV P x s.H).1 (fzV P x s.H).2 s.cells := by
    cases e with
    | normal => obtain ⟨x, h1⟩ := h1; exact ⟨x, trivial, h1⟩
    | exit i => exact h1.elim
    | ret => obtain ⟨x, h1⟩ := h1; exact ⟨x, trivial, h1⟩
  obtain ⟨x, h4, h5, h6⟩ := h2
  refine ⟨_, _, s.cells, h6, ?_⟩
  intro own hown
  have hs : Sim ⟨zipArgs 0 args, H, [], cells⟩ ⟨zipArgs 0 args, H, own.filter Loc.isCell⟩ := by
    refine ⟨fun _ => rfl, rfl, fun l => ?_⟩
    show l ∈ own.filter _ ↔ _
    rw [List.mem_filter, hown]
    cases l with
    | slot q => rw [slot_ownOf]; simp
    | cell i o => simp [Loc.isCell]
  obtain ⟨st', h6, h7⟩ := h3 _ hs
  refine ⟨st'.own.filter Loc.isCell, ?_, h7.succ fun n hn => ?_⟩
  · intro l
    rw [List.mem_filter, h6.own]
    cases l with
    | slot q => rw [slot_ownOf, slot_ownOf]; simp [Loc.isCell]
    | cell i o => rw [cell_ownOf, cell_ownOf]; simp [Loc.isCell]
  · have hr : resultsA P st' fn.results.toList = some x := by rw [resA_sim h6]; exact h5
    have hle : args.length ≤ fn.ntmps := Nat.ble_eq.mp hlen
    have hK1 : K.short f = none := congrArg Prod.fst hK
    have hK2 : K.fz f = true := congrArg Prod.snd hK
    simp only [callN, hK1, hK2, fzOut, cond_true, bodyA, hf, hb, if_pos hle, hn]
    cases e with
    | normal => simp only [hr, Option.map_some, h6.H]
    | ret => simp only [hr, Option.map_some, h6.H]
    | exit i => exact h4.elim
/-- A call that only makes memory, and answers something of this kind. -/
def GivesR (P : Program) (K : Know) (f : FuncId) (args : List AV) (R : AV → Prop) : Prop := ∀ H cells, ∃ x E, R x ∧ CallsA P K f args H cells x (H ++ E) cells
theorem gives_by {f : FuncId} {fn : Func} {c : Code} (hf : P.funcs[f]? = some fn) (hb : fn.body = some c) (hK : (K.short f, K.fz f) = (none, false)) {args : List AV} {R : AV → Prop}
    (hlen : Nat.ble args.length fn.ntmps = true) (h : ∀ H cells, cC P K (K.vars f) fn.ntmps c (zipArgs 0 args) H [] cells fun e env' H1 sl cl => match e with
      | .exit _ => False
      | _ => ∃ x, resA2 P ⟨env', H1, [], []⟩ fn.results.toList = some x ∧ R x ∧ More H H1 ∧ cl = cells) : GivesR P K f args R := by
  intro H cells
  obtain ⟨x, H', cells', ⟨h1, ⟨E, rfl⟩, rfl⟩, h2⟩ := calls_post (R := fun x H1 cl => R x ∧ More H H1 ∧ cl = cells) hf hb hK hlen (h H cells)
  exact ⟨x, E, h1, h2⟩
theorem gives_fz {f : FuncId} {fn : Func} {c : Code} (hf : P.funcs[f]? = some fn) (hb : fn.body = some c) (hK : (K.short f, K.fz f) = (none, true)) {args : List AV} {R : AV → Prop}
    (hlen : Nat.ble args.length fn.ntmps = true) (h : ∀ H cells, cC P K (K.vars f) fn.ntmps c (zipArgs 0 args) H [] cells fun e env' H1 sl cl => match e with
      | .exit _ => False
      | _ => ∃ x, resA2 P ⟨env', H1, [], []⟩ fn.results.toList = some x ∧ R (fzV P x H1).1 ∧ More H (fzV P x H1).2 ∧ cl = cells) : GivesR P K f args R := by
  intro H cells
  obtain ⟨x, H', cells', ⟨h1, ⟨E, rfl⟩, rfl⟩, h2⟩ := calls_fz (R := fun x H1 cl => R x ∧ More H H1 ∧ cl = cells) hf hb hK hlen (h H cells)
  exact ⟨x, E, h1, h2⟩
/-- The same where no cell's end is owned. -/
def GivesE (P : Program) (K : Know) (f : FuncId) (args : List AV) (R : AV → Prop) : Prop := ∀ H, ∃ x E, R x ∧ CallsA P K f args H [] x (H ++ E) []
theorem givesE_fz {f : FuncId} {fn : Func} {c : Code} (hf : P.funcs[f]? = some fn) (hb : fn.body = some c) (hK : (K.short f, K.fz f) = (none, true)) {args : List AV} {R : AV → Prop}
    (hlen : Nat.ble args.length fn.ntmps = true) (h : ∀ H, cC P K (K.vars f) fn.ntmps c (zipArgs 0 args) H [] [] fun e env' H1 sl cl => match e with
      | .exit _ => False
      | _ => ∃ x, resA2 P ⟨env', H1, [], []⟩ fn.results.toList = some x ∧ R (fzV P x H1).1 ∧ More H (fzV P x H1).2 ∧ cl = []) : GivesE P K f args R := by
  intro H
  obtain ⟨x, H', cells', ⟨h1, ⟨E, rfl⟩, rfl⟩, h2⟩ := calls_fz (R := fun x H1 cl => R x ∧ More H H1 ∧ cl = []) hf hb hK hlen (h H)
  exact ⟨x, E, h1, h2⟩
theorem givesE_by {f : FuncId} {fn : Func} {c : Code} (hf : P.funcs[f]? = some fn) (hb : fn.body = some c) (hK : (K.short f, K.fz f) = (none, false)) {args : List AV} {R : AV → Prop}
    (hlen : Nat.ble args.length fn.ntmps = true) (h : ∀ H, cC P K (K.vars f) fn.ntmps c (zipArgs 0 args) H [] [] fun e env' H1 sl cl => match e with
      | .exit _ => False
      | _ => ∃ x, resA2 P ⟨env', H1, [], []⟩ fn.results.toList = some x ∧ R x ∧ More H H1 ∧ cl = []) : GivesE P K f args R := by
  intro H
  obtain ⟨x, H', cells', ⟨h1, ⟨E, rfl⟩, rfl⟩, h2⟩ := calls_post (R := fun x H1 cl => R x ∧ More H H1 ∧ cl = []) hf hb hK hlen (h H)
  exact ⟨x, E, h1, h2⟩
theorem GivesR.one {f : FuncId} {args : List AV} {x : AV} (h : GivesR P K f args fun y => y = x) : Gives P K f args x := by
  intro H cells
  obtain ⟨y, E, hy, h1⟩ := h H cells
  subst hy
  exact ⟨E, h1⟩

end
end Go.Proofs.Ytnajopkaepjncaa.Am

/- Readings of arguments, as the abstract machine's values. -/
namespace Go.Proofs.Ytnajopkaepjncaa.Am
set_option linter.unusedVariables false
set_option linter.unusedSimpArgs false

/-- The types of what comes in: their cells. -/
inductive Ty where
  | bool
  | int (k : IntKind)
  | str
  | slice (e : TypeId) (agg : Bool) (t : Ty)
  | unit
  | pair (a b : Ty)
def Ty.size : Ty → Nat
  | .bool => 1
  | .int _ => 1
  | .str => 1
  | .slice _ _ _ => 1
  | .unit => 0
  | .pair a b => a.size + b.size
def Ty.single : Ty → Bool
  | .unit => false
  | .pair _ _ => false
  | _ => true
def Ty.den : Ty → Type
  | .bool => Bool
  | .int k => { n : Int // (Lit.int k n).wf = true }
  | .str => { s : List UInt8 // s.length ≤ maxLen }
  | .slice _ _ t => Option { p : List t.den × List t.den // p.1.length + p.2.length ≤ maxLen }
  | .unit => Unit
  | .pair a b => a.den × b.den
def elt (agg : Bool) (cs : List AV) : AV :=
  match agg with
  | true => .agg cs
  | false => cs.headD .undef
def Ty.enc : (t : Ty) → t.den → List AV
  | .bool, b => [.bool b]
  | .int k, n => [.int k n.1]
  | .str, s => [.str s.1]
  | .slice e agg t, none => [.nils]
  | .slice e agg t, some p => [.lst e (p.1.1.map fun d => elt agg (t.enc d)) (p.1.2.map fun d => elt agg (t.enc d))]
  | .unit, _ => []
  | .pair a b, d => a.enc d.1 ++ b.enc d.2

def tyFields (f : TypeId → Option Ty) (P : Program) : List Field → Nat → Option Ty
  | [], _ => some .unit
  | fd :: r, off => match f fd.type with
    | some t => if fd.offset = off ∧ P.cellsOf fd.type = t.size then (tyFields f P r (off + t.size)).map (.pair t) else none
    | none => none
def tyOf (P : Program) : Nat → TypeId → Option Ty
  | 0, _ => none
  | n + 1, t => match P.underlying t with
    | some .bool => some .bool
    | some (.int k) => some (.int k)
    | some .string => some .str
    | some (.slice e) => match tyOf P n e, isAggT P e, sizeT P e with
      | some te, some agg, some sz => if sz = te.size ∧ 0 < sz ∧ (agg || te.single) = true then some (.slice e agg te) else none
      | _, _, _ => none
    | some (.struct fs) => match tyFields (tyOf P n) P fs.toList 0 with
      | some T => if P.cellsOf t = T.size then some T else none
      | none => none
    | _ => none

section
variable {P : Program} {w : World} {M : Mem}

/-- Cells that stand for values. -/
structure CR (P : Program) (M : Mem) (xs : List AV) (cs : List Value) : Prop where
  len : xs.length = cs.length
  rep : ∀ i, i < xs.length → Rep P M (xs.getD i .undef) (cs.getD i undef)
  one : ∀ i, i < xs.length → (cs.getD i undef).oneCell' = true
theorem CR.nil : CR P M [] [] := ⟨rfl, fun i h => by simp at h, fun i h => by simp at h⟩
theorem CR.single {x : AV} {v : Value} (r : Rep P M x v) (h : v.oneCell' = true) : CR P M [x] [v] :=
  ⟨rfl, fun i hi => by obtain rfl : i = 0 := by simpa using hi
                       exact r, fun i hi => by obtain rfl : i = 0 := by simpa using hi
                                               exact h⟩
theorem CR.append {xs ys : List AV} {cs ds : List Value} (h : CR P M xs cs) (k : CR P M ys ds) : CR P M (xs ++ ys) (cs ++ ds) := by
  refine ⟨by rw [List.length_append, List.length_append, h.len, k.len], ?_, ?_⟩
  · intro i hi
    rw [List.length_append] at hi
    simp only [List.getD_eq_getElem?_getD]
    by_cases hl : i < xs.length
    · rw [List.getElem?_append_left hl, List.getElem?_append_left (by rw [← h.len]; exact hl)]
      have := h.rep i hl
      simpa only [List.getD_eq_getElem?_getD] using this
    · rw [List.getElem?_append_right (by omega), List.getElem?_append_right (by rw [← h.len]; omega), ← h.len]
      have := k.rep (i - xs.length) (by omega)
      simpa only [List.getD_eq_getElem?_getD] using this
  · intro i hi
    rw [List.length_append] at hi
    simp only [List.getD_eq_getElem?_getD]
    by_cases hl : i < xs.length
    · rw [List.getElem?_append_left (by rw [← h.len]; exact hl)]
      have := h.one i hl
      simpa only [List.getD_eq_getElem?_getD] using this
    · rw [List.getElem?_append_right (by rw [← h.len]; omega), ← h.len]
      have := k.one (i - xs.length) (by omega)
      simpa only [List.getD_eq_getElem?_getD] using this

theorem enc_len : ∀ (t : Ty) (d : t.den), (t.enc d).length = t.size
  | .bool, _ => rfl
  | .int _, _ => rfl
  | .str, _ => rfl
  | .slice _ _ _, none => rfl
  | .slice _ _ _, some _ => rfl
  | .unit, _ => rfl
  | .pair a b, d => by simp only [Ty.enc, Ty.size, List.length_append, enc_len a d.1, enc_len b d.2]
theorem enc_one : ∀ (t : Ty) (d : t.den), t.single = true → ∃ x, t.enc d = [x] ∧ x.cells = [x]
  | .bool, _, _ => ⟨_, rfl, rfl⟩
  | .int _, _, _ => ⟨_, rfl, rfl⟩
  | .str, _, _ => ⟨_, rfl, rfl⟩
  | .slice _ _ _, none, _ => ⟨_, rfl, rfl⟩
  | .slice _ _ _, some _, _ => ⟨_, rfl, rfl⟩
  | .unit, _, h => by cases h
  | .pair a b, d, h => by cases h
theorem elt_cells {agg : Bool} {t : Ty} (h : (agg || t.single) = true) (d : t.den) : (elt agg (t.enc d)).cells = t.enc d := by
  cases agg with
  | true => rfl
  | false =>
    obtain ⟨x, h1, h2⟩ := enc_one t d (by simpa using h)
    rw [h1]; exact h2

theorem cells_at {a : Addr} {n : Nat} {cs : List Value} (h : w.cells? 0 a n = some cs) : cs.length = n ∧ ∀ j, j < n → w.cell? (a.add j) = some (cs.getD j undef) := by
  unfold World.cells? at h
  rw [if_pos (Nat.zero_le _)] at h
  have key : ∀ (l : List Nat) (ys : List Value), l.mapM (fun i => w.cell? (a.add i)) = some ys → ys.length = l.length ∧ ∀ i k, l[i]? = some k → w.cell? (a.add k) = some (ys.getD i undef) := by
    intro l
    induction l with
    | nil => intro ys h; simp at h; subst h; exact ⟨rfl, fun i k h => by simp at h⟩
    | cons x r ih =>
      intro ys h
      rw [List.mapM_cons] at h
      cases hx : w.cell? (a.add x) with
      | none => simp [hx] at h
      | some v =>
        cases hr : r.mapM (fun i => w.cell? (a.add i)) with
        | none => simp [hx, hr] at h
        | some vs =>
          simp [hx, hr] at h; subst h
          obtain ⟨h1, h2⟩ := ih vs hr
          refine ⟨by simp [h1], fun i k hi => ?_⟩
          cases i with
          | zero => simp at hi; subst hi; simpa using hx
          | succ i => simp at hi; simpa using h2 i k hi
  obtain ⟨h1, h2⟩ := key _ _ h
  rw [List.length_range] at h1
  exact ⟨h1, fun j hj => h2 j j (by rw [List.getElem?_range hj])⟩
theorem cell_plain {a : Addr} {v : Value} (h : w.cell? a = some v) : a = ⟨a.block, a.off, none⟩ := by
  unfold World.cell? at h
  split at h
  · split at h
    · cases h
    · rename_i hs
      obtain ⟨b, o, s⟩ := a
      cases s with
      | none => rfl
      | some x => simp at hs
  · cases h
theorem add_plain (b o n : Nat) : (Addr.add ⟨b, o, none⟩ n) = ⟨b, o + n, none⟩ := by
  unfold Addr.add
  split
  · rename_i h; rw [h]; rfl
  · rfl

end
end Go.Proofs.Ytnajopkaepjncaa.Am

/- Readings of arguments, second part: each reading is a value of its type. -/
namespace Go.Proofs.Ytnajopkaepjncaa.Am
set_option linter.unusedVariables false
set_option linter.unusedSimpArgs false

section
variable {P : Program} {w : World} {M : Mem} {H : Type} {enc : TypeId × Value → H} {held : Bool}

theorem mapM_each {α β : Type} {g : α → Option β} : ∀ {l : List α} {ys : List β}, l.mapM g = some ys → ∀ x ∈ l, ∃ y, g x = some y
  | [], ys, h, x, hx => by cases hx
  | a :: l, ys, h, x, hx => by
    rw [List.mapM_cons] at h
    cases ha : g a with
    | none => simp [ha] at h
    | some y =>
      cases hl : l.mapM g with
      | none => simp [ha, hl] at h
      | some zs =>
        rcases List.mem_cons.1 hx with rfl | hx
        · exact ⟨y, ha⟩
        · exact mapM_each hl x hx
theorem list_of {α : Type} {Q : Nat → α → Prop} : ∀ n, (∀ i, i < n → ∃ v, Q i v) → ∃ l : List α, l.length = n ∧ ∀ i v, l[i]? = some v → Q i v
  | 0, _ => ⟨[], rfl, fun i v h => by simp at h⟩
  | n + 1, h => by
    obtain ⟨l, h1, h2⟩ := list_of n fun i hi => h i (by omega)
    obtain ⟨v, hv⟩ := h n (by omega)
    refine ⟨l ++ [v], by simp [h1], fun i u hu => ?_⟩
    by_cases hi : i < l.length
    · rw [List.getElem?_append_left hi] at hu; exact h2 i u hu
    · rw [List.getElem?_append_right (by omega)] at hu
      have hi0 : i - l.length = 0 := by
        rcases Nat.eq_zero_or_pos (i - l.length) with h0 | h0
        · exact h0
        · rw [List.getElem?_eq_none (by simp; omega)] at hu; cases hu
      rw [hi0] at hu
      simp at hu; subst hu
      have : i = n := by omega
      subst this; exact hv

theorem slice_ty {e : TypeId} {agg : Bool} {te : Ty} {sz : Nat} (hM : ∀ b o v, w.cell? ⟨b, o, none⟩ = some v → M.pm b o = some v) (hsz : sizeT P e = some sz) (hte : sz = te.size) (hz : 0 < sz) (hs : (agg || te.single) = true) {a : Addr} {len cap : Nat} (hl : len ≤ cap) (hm : cap ≤ maxLen)
    (hel : ∀ i, i < cap → ∃ c v, w.cells? 0 (a.add (i * sz)) sz = some c ∧ CR P M (te.enc v) c) : ∃ v : (Ty.slice e agg te).den, CR P M ((Ty.slice e agg te).enc v) [.slice (some a) len cap] := by
  obtain ⟨all, h1, h2⟩ := list_of (Q := fun i v => ∃ c, w.cells? 0 (a.add (i * sz)) sz = some c ∧ CR P M (te.enc v) c) cap fun i hi => by obtain ⟨c, v, h⟩ := hel i hi; exact ⟨v, c, h⟩
  refine ⟨some ⟨(all.take len, all.drop len), by simp only [List.length_take, List.length_drop]; omega⟩, CR.single ?_ rfl⟩
  have hcat : (all.take len).map (fun d => elt agg (te.enc d)) ++ (all.drop len).map (fun d => elt agg (te.enc d)) = all.map fun d => elt agg (te.enc d) := by
    rw [← List.map_append, List.take_append_drop]
  have hall : ∀ x ∈ all.map (fun d => elt agg (te.enc d)), x.cells.length = sz := by
    intro x hx
    obtain ⟨d, _, rfl⟩ := List.mem_map.1 hx
    rw [elt_cells hs, enc_len, hte]
  have hplain : all ≠ [] → a = ⟨a.block, a.off, none⟩ := by
    intro hne
    obtain ⟨d, r, rfl⟩ : ∃ d r, all = d :: r := by
      cases all with
      | nil => exact absurd rfl hne
      | cons d r => exact ⟨d, r, rfl⟩
    obtain ⟨c, hc, _⟩ := h2 0 d rfl
    have := (cells_at hc).2 0 hz
    rw [Nat.zero_mul] at this
    have e0 : (a.add 0).add 0 = a := by simp [Addr.add]
    rw [e0] at this
    exact cell_plain this
  have hat : ∀ j, j < (flat (all.map fun d => elt agg (te.enc d))).length → ∃ v, w.cell? ⟨a.block, a.off + j, none⟩ = some v ∧ Rep P M ((flat (all.map fun d => elt agg (te.enc d))).getD j .undef) v ∧ v.oneCell' = true := by
    intro j hj
    rw [flat_len _ hall, List.length_map, h1] at hj
    have hdm : j / sz * sz + j % sz = j := by rw [Nat.mul_comm]; exact Nat.div_add_mod j sz
    have hr : j % sz < sz := Nat.mod_lt _ hz
    have hi : j / sz < cap := Nat.div_lt_of_lt_mul (by rw [Nat.mul_comm]; exact hj)
    obtain ⟨d, hd⟩ : ∃ d, all[j / sz]? = some d := ⟨all[j / sz], List.getElem?_eq_getElem (by omega)⟩
    obtain ⟨c, hc, hcr⟩ := h2 _ d hd
    obtain ⟨hc1, hc2⟩ := cells_at hc
    have hcell := hc2 (j % sz) hr
    have hne : all ≠ [] := by rintro rfl; simp at hd
    rw [hplain hne, add_plain, add_plain, Nat.add_assoc, hdm] at hcell
    refine ⟨_, hcell, ?_, hcr.one _ (by rw [enc_len]; omega)⟩
    have := flat_at _ hall (j / sz) (j % sz) (elt agg (te.enc d)) (by rw [List.getElem?_map, hd]; rfl) hr
    rw [hdm] at this
    rw [this, elt_cells hs]
    exact hcr.rep _ (by rw [enc_len]; omega)
  have hlen : ((all.take len).map fun d => elt agg (te.enc d)).length = len := by simp; omega
  have := Rep.lst (P := P) (M := M) e ((all.take len).map fun d => elt agg (te.enc d)) ((all.drop len).map fun d => elt agg (te.enc d)) (some a) cap sz a.block a.off (fun j => (w.cell? ⟨a.block, a.off + j, none⟩).getD undef) hsz hz (by rw [hcat]; exact hall)
    (by simp only [List.length_map, List.length_take, List.length_drop]; omega) (by
      intro hne
      rw [hcat] at hne
      have : all ≠ [] := by rintro rfl; simp at hne
      rw [← hplain this])
    (by intro j hj; rw [hcat] at hj; obtain ⟨v, h3, _⟩ := hat j hj; rw [h3]; exact hM _ _ _ h3)
    (by intro j hj; rw [hcat] at hj ⊢; obtain ⟨v, h3, h4, _⟩ := hat j hj; rw [h3]; exact h4)
    (by intro j hj; rw [hcat] at hj; obtain ⟨v, h3, _, h5⟩ := hat j hj; rw [h3]; exact h5)
  rw [hlen] at this
  exact this

theorem fields_ty {f : TypeId → Option Ty} {g : TypeId → List Value → Option (DataW H × List MemPlace)} (hg : ∀ t T cs y, f t = some T → g t cs = some y → ∃ v : T.den, CR P M (T.enc v) cs) {cs : List Value} : ∀ (fs : List Field) (off : Nat) (T : Ty) (ys : List (DataW H × List MemPlace)), tyFields f P fs off = some T →
    (fs.mapM fun fd => g fd.type ((cs.drop fd.offset).take (P.cellsOf fd.type))) = some ys → ∃ v : T.den, CR P M (T.enc v) ((cs.drop off).take T.size)
  | [], off, T, ys, h, _ => by
    simp only [tyFields, Option.some.injEq] at h; subst h
    exact ⟨(), by simp only [Ty.size, List.take_zero]; exact CR.nil⟩
  | fd :: r, off, T, ys, h, hy => by
    simp only [tyFields] at h
    cases hf : f fd.type with
    | none => rw [hf] at h; cases h
    | some t =>
      rw [hf] at h
      simp only at h
      split at h
      · rename_i hc
        cases hr : tyFields f P r (off + t.size) with
        | none => rw [hr] at h; cases h
        | some T' =>
          rw [hr] at h
          simp only [Option.map_some, Option.some.injEq] at h; subst h
          rw [List.mapM_cons] at hy
          cases hgd : g fd.type ((cs.drop fd.offset).take (P.cellsOf fd.type)) with
          | none => simp [hgd] at hy
          | some y =>
            cases hrr : r.mapM (fun fd => g fd.type ((cs.drop fd.offset).take (P.cellsOf fd.type))) with
            | none => simp [hgd, hrr] at hy
            | some zs =>
              obtain ⟨v, hv⟩ := hg _ _ _ _ hf hgd
              obtain ⟨v', hv'⟩ := fields_ty hg r (off + t.size) T' zs hr hrr
              refine ⟨(v, v'), ?_⟩
              rw [hc.1, hc.2] at hv
              have e : ((cs.drop off).take (t.size + T'.size)) = (cs.drop off).take t.size ++ (cs.drop (off + t.size)).take T'.size := by
                rw [List.take_add, List.drop_drop]
              show CR P M (t.enc v ++ T'.enc v') ((cs.drop off).take (t.size + T'.size))
              rw [e]
              exact hv.append hv'
      · cases h

theorem trod_ty (hM : ∀ b o v, w.cell? ⟨b, o, none⟩ = some v → M.pm b o = some v) : ∀ (n : Nat) (t : TypeId) (T : Ty) (fuel : Nat) (cs : List Value) (y : DataW H × List MemPlace), tyOf P n t = some T → DataW.trod enc P w 0 (fun _ => true) held fuel t cs = some y → ∃ v : T.den, CR P M (T.enc v) cs := by
  intro n
  induction n with
  | zero => intro t T fuel cs y h; cases h
  | succ n ih =>
    intro t T fuel cs y h hr
    cases fuel with
    | zero => simp [DataW.trod] at hr
    | succ fuel =>
      rw [DataW.trod_step] at hr
      unfold DataW.trodStep at hr
      simp only [tyOf] at h
      split at hr
      · rename_i b hu
        rw [hu] at h
        injection h with h; subst h
        exact ⟨b, CR.single (.bool b) rfl⟩
      · rename_i k k' m hu
        rw [hu] at h
        injection h with h; subst h
        split at hr
        · rename_i hk
          obtain ⟨rfl, hw⟩ := hk
          exact ⟨⟨m, hw⟩, CR.single (.int _ m) rfl⟩
        · cases hr
      · rename_i hu; rw [hu] at h; cases h
      · rename_i s hu
        rw [hu] at h
        injection h with h; subst h
        split at hr
        · rename_i hs
          refine ⟨⟨s.data.toList, by rw [Array.length_toList]; exact hs⟩, CR.single ?_ rfl⟩
          exact .str s.data.toList
        · cases hr
      · rename_i hu; rw [hu] at h; cases h
      · rename_i hu; rw [hu] at h; cases h
      · rename_i e hu
        rw [hu] at h
        simp only at h
        split at h
        · split at h
          · injection h with h; subst h
            exact ⟨none, CR.single .nils rfl⟩
          · cases h
        · cases h
      · rename_i e a len cap hu
        rw [hu] at h
        simp only at h
        split at h
        · rename_i te agg sz h1 h2 h3
          split at h
          · rename_i hc
            obtain ⟨c1, c2, c3⟩ := hc
            injection h with h; subst h
            have hcell : P.cellsOf e = sz := by
              unfold Program.cellsOf
              have : (P.info? e).map (·.size) = some sz := h3
              rw [this]; rfl
            rw [hcell] at hr
            simp only at hr
            split at hr
            · rename_i hb
              obtain ⟨_, hl, hm⟩ := hb
              refine slice_ty hM h3 c1 c2 c3 hl hm ?_
              intro i hi
              cases hA : (List.range len).mapM (fun i => (w.cells? 0 (a.add (i * sz)) sz).bind (DataW.trod enc P w 0 (fun _ => true) held fuel e)) with
              | none => rw [hA] at hr; cases hr
              | some elems =>
                rw [hA] at hr
                simp only [Option.bind_some, if_true] at hr
                cases hB : (List.range (cap - len)).mapM (fun j => (w.cells? 0 (a.add ((len + j) * sz)) sz).bind (DataW.trod enc P w 0 (fun _ => true) held fuel e)) with
                | none => rw [hB] at hr; cases hr
                | some rest =>
                  have hex : ∃ y, (w.cells? 0 (a.add (i * sz)) sz).bind (DataW.trod enc P w 0 (fun _ => true) held fuel e) = some y := by
                    by_cases hlt : i < len
                    · exact mapM_each hA i (List.mem_range.2 hlt)
                    · have := mapM_each hB (i - len) (List.mem_range.2 (by omega))
                      have e1 : len + (i - len) = i := by omega
                      rw [e1] at this
                      exact this
                  obtain ⟨y, hy⟩ := hex
                  cases hc : w.cells? 0 (a.add (i * sz)) sz with
                  | none => rw [hc] at hy; cases hy
                  | some c =>
                    rw [hc] at hy
                    obtain ⟨v, hv⟩ := ih e te fuel c y h1 hy
                    exact ⟨c, v, rfl, hv⟩
            · cases hr
          · cases h
        · cases h
      · rename_i cs x2 cs2 fs hu
        rw [hu] at h
        simp only at h
        split at h
        · rename_i T' hT
          split at h
          · rename_i hc
            injection h with h; subst h
            split at hr
            · rename_i hlen
              cases hm : fs.toList.mapM (fun f => DataW.trod enc P w 0 (fun _ => true) held fuel f.type ((cs.drop f.offset).take (P.cellsOf f.type))) with
              | none => rw [hm] at hr; cases hr
              | some ys =>
                obtain ⟨v, hv⟩ := fields_ty (f := tyOf P n) (g := fun t cs => DataW.trod enc P w 0 (fun _ => true) held fuel t cs) (fun t T cs y h1 h2 => ih t T fuel cs y h1 h2) fs.toList 0 _ ys hT hm
                refine ⟨v, ?_⟩
                rw [List.drop_zero, List.take_of_length_le (by rw [hlen, hc]; exact Nat.le_refl _)] at hv
                exact hv
            · cases hr
          · cases h
        · cases h
      all_goals first
        | (rename_i hu; rw [hu] at h; cases h)
        | (cases hr)
        | (rename_i hu _; rw [hu] at h; cases h)

end
end Go.Proofs.Ytnajopkaepjncaa.Am

/- What a law's function answers, from what the abstract machine says of it. -/
namespace Go.Proofs.Ytnajopkaepjncaa.Am
set_option linter.unusedVariables false
set_option linter.unusedSimpArgs false

section
variable {P : Program} {K : Know} {W : World}

/-- The memory that comes in: nobody writes it. -/
def G0 (W : World) : Gh := ⟨fun b => match W.heap[b]? with
  | some (.cells c _ _) => c.size
  | _ => 0, fun _ => none, fun _ => 0, fun _ => none⟩
theorem G0_ok (W : World) : GOk (G0 W) W := by
  refine ⟨fun id b h => (by cases h), fun b hb => ⟨?_, rfl, rfl⟩⟩
  show (match W.heap[b]? with | some (.cells c _ _) => c.size | _ => 0) = 0
  rw [Array.getElem?_eq_none hb]
theorem G0_pm (W : World) : ∀ b o v, W.cell? ⟨b, o, none⟩ = some v → ((G0 W).mem W).pm b o = some v := by
  intro b o v h
  show pmOf W (G0 W) b o = some v
  unfold pmOf
  rw [if_pos ?_, h]
  show o < (match W.heap[b]? with | some (.cells c _ _) => c.size | _ => 0)
  unfold World.cell? at h
  split at h
  · rename_i c t fr hb
    rw [hb]
    simp only at h ⊢
    exact (Array.getElem?_eq_some_iff.1 h).1
  · cases h
theorem G0_heap (W : World) : HeapRel P (G0 W) [] W := ⟨fun id b h => (by cases h), fun id b k h => (by cases h), fun i j b k l h => (by cases h), fun id b k h => (by cases h)⟩
theorem G0_foot (W : World) (b : Nat) : ¬ Foot (G0 W) b := by
  rintro (⟨id, h⟩ | h)
  · cases h
  · cases h

/-- A law's function: true, whatever memory it makes. -/
theorem law_calls (hP : POk P) (hS : ShortSound P K) {f : FuncId} {args : List AV} {vals : Array Value} {b : Bool} {H' : Hp} {cells' : Cl} (hc : CallsA P K f args [] [] (.bool b) H' cells') (har : ArgsRep P ((G0 W).mem W) args vals) :
    Calls P f vals W fun e W' => e = .returned (.bool b) ∧ Go.RowKit.Below W.heap.size W W' := by
  obtain ⟨own', _, N, hN⟩ := hc [] (fun l => (by constructor <;> intro h <;> cases h))
  have h1 := (machine_sound hP hS N).1 f args [] [] _ (hN N (Nat.le_refl _)) (G0 W) W vals (G0_ok W) (G0_heap W) ⟨fun id off b k cs h => (by cases h), fun id off h => (by cases h)⟩ har
  refine h1.mono ?_
  rintro e W' ⟨v, G', rfl, hd⟩
  have hr := hd.rep
  refine ⟨?_, hd.ext.below (Nat.le_refl _) fun b _ => G0_foot W b⟩
  cases hr
  rfl

theorem arg_one {T : Ty} {v : Value} {H : Type} {enc : TypeId × Value → H} {n : Nat} {t : TypeId} {d : DataW H} {ps : List MemPlace} (hT : tyOf P n t = some T) (hs : T.single = true) (h : DataW.Trod enc P W 0 (fun _ => true) true t v d ps) (hv : ∀ cs, v ≠ .agg cs) :
    ∃ x : T.den, Rep P ((G0 W).mem W) ((T.enc x).headD .undef) v := by
  obtain ⟨fuel, h⟩ := h
  obtain ⟨x, hx⟩ := trod_ty (G0_pm W) n t T fuel _ _ hT h
  obtain ⟨y, h1, h2⟩ := enc_one T x hs
  refine ⟨x, ?_⟩
  rw [h1] at hx ⊢
  have hc : v.cells.toList = [v] := by
    cases v <;> first | rfl | exact absurd rfl (hv _)
  rw [hc] at hx
  exact hx.rep 0 (by simp)
theorem args_nil {M : Mem} : ArgsRep P M [] #[] := ⟨rfl, fun i h => by simp at h⟩
theorem args_list {M : Mem} {xs : List AV} {vs : List Value} (hl : vs.length = xs.length) (h : ∀ i, i < xs.length → Rep P M (xs.getD i .undef) (vs.getD i undef)) : ArgsRep P M xs vs.toArray :=
  ⟨by simpa using hl, fun i hi => by have := h i hi; simpa [Array.getD_eq_getD_getElem?, List.getD_eq_getElem?_getD] using this⟩

end
end Go.Proofs.Ytnajopkaepjncaa.Am

/- A call without arguments whose answer is a truth value, told once for all memories: it leaves what the machine holds as it was. -/
namespace Go.Proofs.Ytnajopkaepjncaa.Am
set_option linter.unusedVariables false
set_option linter.unusedSimpArgs false
open Go.RowKit

section
variable {P : Program} {K : Know}

def idle (f0 : FuncId) (b : Bool) : FuncId → Option (List AV → List (Option Blk) → List Loc → Option Out) := fun f => match Nat.beq f f0 with
  | true => some fun args H own => match args with
    | [] => some (.bool b, H, own)
    | _ => none
  | false => none

theorem idle_sound (hP : POk P) (hS : ShortSound P K) {f0 : FuncId} {b : Bool} {n : Nat} {H' : List (Option Blk)} {own' : List Loc} (h : callN P K n f0 [] [] [] = some (.bool b, H', own')) {K' : Know} (hK : K'.short = idle f0 b) : ShortSound P K' := by
  intro f g hg
  rw [hK] at hg
  unfold idle at hg
  cases hb : Nat.beq f f0 with
  | false => rw [hb] at hg; cases hg
  | true =>
    rw [hb] at hg
    injection hg with hg
    have hf : f = f0 := Nat.eq_of_beq_eq_true hb
    subst hf
    subst hg
    intro f1 args H own out hc G w vals g hH ho ha
    simp only at hc
    split at hc
    case isFalse => cases hc
    rename_i he
    subst he
    cases args with
    | cons x r => cases hc
    | nil =>
    injection hc with hc
    subst hc
    have hnf : ∀ q, ¬ Foot (Gh.mk G.lim (fun _ => none) (fun _ => 0) (fun _ => none)) q := by
      rintro q (⟨id, h⟩ | h)
      · cases h
      · cases h
    have g1 : GOk (Gh.mk G.lim (fun _ => none) (fun _ => 0) (fun _ => none)) w := ⟨fun id q h => (by cases h), fun q hq => ⟨(g.new q hq).1, rfl, rfl⟩⟩
    have h1 := (machine_sound hP hS n).1 f1 [] [] [] _ h (Gh.mk G.lim (fun _ => none) (fun _ => 0) (fun _ => none)) w vals g1 ⟨fun id q h => (by cases h), fun id q k h => (by cases h), fun i j q k l h => (by cases h), fun id q k h => (by cases h)⟩ ⟨fun id off q k cs h => (by cases h), fun id off h => (by cases h)⟩ ⟨ha.1, fun i hi => by simp at hi⟩
    refine h1.mono ?_
    rintro e w' ⟨v, G', rfl, hd⟩
    have hr := hd.rep
    have hext : Ext G w (Gh.mk G'.lim G.f G.bs G.owner) w' := by
      refine ⟨hd.ext.os, hd.ext.tape, hd.ext.output, hd.ext.size, fun q o u hq => hd.ext.prot q o u hq, fun _ _ h => h, fun _ => Nat.le_refl _, fun q hq hn => ?_⟩
      obtain ⟨a1, a2, _⟩ := hd.ext.foreign q hq (hnf q)
      exact ⟨a1, a2, hn⟩
    have hkeep : ∀ l x u, OwnAt P G w l x u → OwnAt P (Gh.mk G'.lim G.f G.bs G.owner) w' l x u := by
      intro l x u r e xs hx
      obtain ⟨sz, cells, h1, h2, h3, h4⟩ := r e xs hx
      have hlt : ∀ q, u.ownBlock = some q → q < w.heap.size := by
        intro q hq
        rcases h3.2 with ⟨rfl, _⟩ | ⟨g', cap, cur, rfl, _, hh, _⟩
        · simp [Value.ownBlock] at hq
        · have : g' = q := by simpa [Value.ownBlock] using hq
          subst this
          exact (Array.getElem?_eq_some_iff.1 hh).1
      refine ⟨sz, cells, h1, h2, h3.kept ⟨hd.ext.os, hd.ext.tape, hd.ext.output, hd.ext.size, fun i hi _ => (hd.ext.foreign i hi (hnf i)).1⟩ (row := none) (by cases u.ownBlock <;> simp), fun q hq => ⟨(h4 q hq).1, ?_⟩⟩
      show G'.lim q = _
      rw [(hd.ext.foreign q (hlt q hq) (hnf q)).2.1]
      exact (h4 q hq).2
    cases hr
    refine ⟨.bool b, Gh.mk G'.lim G.f G.bs G.owner, rfl, hext, ⟨fun id q hq => ?_, fun q hq => ?_⟩, ⟨hH.dom, fun id q k hq hk => ?_, hH.inj, fun id q k hq hk hn => ?_⟩, .bool b, ⟨fun id off q k cs hm hf hk hb => ?_, ho.dom⟩⟩
    · obtain ⟨a1, a3⟩ := g.fin id q hq
      exact ⟨Nat.lt_of_lt_of_le a1 hd.ext.size, a3⟩
    · obtain ⟨a1, a2, a3⟩ := g.new q (Nat.le_trans hd.ext.size hq)
      exact ⟨(hd.ok.new q hq).1, a2, a3⟩
    · obtain ⟨ds, d1, d2, d3, d4, d5⟩ := hH.blk id q k hq hk
      exact ⟨ds, by rw [(hd.ext.foreign q (g.fin id q hq).1 (hnf q)).1]; exact d1, d2, d3, fun j hj => hext.rep (d4 j hj), d5⟩
    · show G'.lim q = 0
      rw [(hd.ext.foreign q (g.fin id q hq).1 (hnf q)).2.1]; exact hH.lim id q k hq hk hn
    · rw [(hd.ext.foreign q (g.fin id q hf).1 (hnf q)).1] at hb
      exact hkeep _ _ _ (ho.cell id off q k cs hm hf hk hb)

theorem none_sound (hK : K.short = fun _ => none) : ShortSound P K := by
  intro f g h
  rw [hK] at h
  cases h

end
end Go.Proofs.Ytnajopkaepjncaa.Am

/- Whoever owns more ends comes to the same. -/
namespace Go.Proofs.Ytnajopkaepjncaa.Am
set_option linter.unusedVariables false
set_option linter.unusedSimpArgs false

def Sub (a b : List Loc) : Prop := ∀ l, l ∈ a → l ∈ b
structure RLe (r q : Res) : Prop where
  val : q.val = r.val
  H : q.H = r.H
  own : Sub r.own q.own
  gives : r.gives = true → q.gives = true
structure StLe (a b : St) : Prop where
  env : b.env = a.env
  H : b.H = a.H
  own : Sub a.own b.own
def CallUp (call : CallA) : Prop := ∀ f args H own own2 x H' own', call f args H own = some (x, H', own') → Sub own own2 → ∃ own2', call f args H own2 = some (x, H', own2') ∧ Sub own' own2'

section
variable {P : Program} {K : Know} {call : CallA} {ops : List Oper} {nt : Nat} {own own2 : List Loc} {H : List (Option Blk)} {env : List (Nat × AV)}

theorem Sub.filter (h : Sub own own2) (p : Loc → Bool) : Sub (own.filter p) (own2.filter p) := fun l hl => by
  rw [List.mem_filter] at *
  exact ⟨h l hl.1, hl.2⟩
theorem Sub.drop (h : Sub own own2) (l : Loc) : Sub (Am.drop own l) (Am.drop own2 l) := fun m hm => by
  rw [mem_drop] at *
  exact ⟨h m hm.1, hm.2⟩
theorem Sub.dropR (h : Sub own own2) {l : Loc} (hl : l ∉ own) : Sub own (Am.drop own2 l) := fun m hm => by
  rw [mem_drop]
  exact ⟨h m hm, fun e => hl (e ▸ hm)⟩
theorem Sub.giveR (h : Sub own own2) (l : Loc) : Sub own (Am.give own2 l) := fun m hm => by
  rw [mem_give]
  by_cases e : m = l
  · exact .inl e
  · exact .inr ⟨h m hm, e⟩
theorem Sub.give (h : Sub own own2) (l : Loc) : Sub (Am.give own l) (Am.give own2 l) := fun m hm => by
  rw [mem_give] at *
  rcases hm with e | e
  · exact .inl e
  · exact .inr ⟨h m e.1, e.2⟩
theorem Sub.cells (h : Sub own own2) (id off n : Nat) : Sub (dropCells own id off n) (dropCells own2 id off n) := h.filter _
theorem owns_up (h : Sub own own2) {l : Loc} (ho : owns own l = true) : owns own2 l = true := owns_iff.2 (h l (owns_iff.1 ho))
theorem owns_no {l : Loc} (ho : owns own l = false) : l ∉ own := fun h => by
  rw [owns_iff.2 h] at ho; cases ho

theorem callA_up (hc : CallUp call) {f : FuncId} {args : List AV} {r : Res} (h : callA call P H own f args = some r) (s : Sub own own2) : ∃ q, callA call P H own2 f args = some q ∧ RLe r q := by
  unfold callA at h ⊢
  cases hb : hasBody P f with
  | false => rw [hb] at h; cases h
  | true =>
    rw [hb] at h
    simp only [cond_true] at h ⊢
    split at h
    · rename_i x H' own' he
      injection h with h; subst h
      obtain ⟨o2, h1, h2⟩ := hc f args H _ (canon (own2.filter Loc.isCell)) x H' own' he (fun l hl => by
        rw [mem_canon] at *
        exact s.filter _ l hl)
      rw [h1]
      refine ⟨_, rfl, rfl, rfl, fun l hl => ?_, fun e => e⟩
      simp only [List.mem_append] at hl ⊢
      rcases hl with hl | hl
      · exact .inl (s.filter _ l hl)
      · exact .inr (h2.filter _ l hl)
    · cases h
/-- The same answer, whatever is owned more, for an operation that asks for it in one place. -/
theorem pick_up {x : AV} {l : Loc} {c : Bool} (s : Sub own own2) :
    RLe (cond (owns own l && c) ⟨x, H, drop own l, true⟩ ⟨x, H, own, false⟩) (cond (owns own2 l && c) ⟨x, H, drop own2 l, true⟩ ⟨x, H, own2, false⟩) := by
  cases c with
  | false => simp only [Bool.and_false, cond_false]; exact ⟨rfl, rfl, s, fun e => e⟩
  | true =>
    simp only [Bool.and_true]
    cases ho : owns own l with
    | true => rw [owns_up s ho]; exact ⟨rfl, rfl, s.drop l, fun e => e⟩
    | false =>
      cases ho2 : owns own2 l with
      | true => exact ⟨rfl, rfl, s.dropR (owns_no ho), fun e => by cases e⟩
      | false => exact ⟨rfl, rfl, s, fun e => e⟩
theorem append_up {s x : Operand} {ts tx : TypeId} {r : Res} (h : appendA P env H own s x ts tx = some r) (u : Sub own own2) : ∃ q, appendA P env H own2 s x ts tx = some q ∧ RLe r q := by
  unfold appendA at h ⊢
  split at h
  · split at h
    · split at h
      · split at h
        · rename_i hh
          injection h with h; subst h
          rw [if_pos hh]
          exact ⟨_, rfl, rfl, rfl, u, fun e => e⟩
        · cases h
      · split at h
        · split at h
          · rename_i hh
            injection h with h; subst h
            rw [if_pos ⟨owns_up u hh.1, hh.2⟩]
            exact ⟨_, rfl, rfl, rfl, u.drop _, fun e => e⟩
          · cases h
        · cases h
      · cases h
    · cases h
  · cases h
theorem core_up (hc : CallUp call) {o : Oper} {r : Res} (h : core call P ops o env H own = some r) (s : Sub own own2) : ∃ q, core call P ops o env H own2 = some q ∧ RLe r q := by
  cases he : ends ops o with
  | false =>
    obtain ⟨h1, h2⟩ := core_own he h
    exact ⟨_, h2 own2, rfl, rfl, by rw [h1]; exact s, fun e => e⟩
  | true =>
    obtain ⟨dst, op, ty, pos, after, guard⟩ := o
    cases op
    case move x =>
      cases x with
      | tmp v =>
        unfold core at h ⊢
        simp only at h ⊢
        injection h with h; subst h
        exact ⟨_, rfl, pick_up s⟩
      | _ => cases he
    case load t a =>
      unfold core at h ⊢
      simp only at h ⊢
      split at h
      · split at h
        · split at h
          · injection h with h; subst h
            refine ⟨_, rfl, ?_⟩
            simp only [Bool.and_assoc]
            exact pick_up s
          · injection h with h; subst h
            exact ⟨_, rfl, rfl, rfl, s, fun e => e⟩
        · cases h
      · cases h
    case store t a x =>
      unfold core at h ⊢
      simp only at h ⊢
      split at h
      · split at h
        · injection h with h; subst h
          refine ⟨_, rfl, rfl, rfl, ?_, fun e => e⟩
          simp only
          cases x with
          | tmp q =>
            simp only
            rename_i id off v _ _ _ _ _
            cases hv : v.isOne with
            | false => simp only [Bool.and_false, cond_false]; exact s.cells _ _ _
            | true =>
              simp only [Bool.and_true]
              cases ho : owns own (.slot q) with
              | true => rw [owns_up s ho]; simp only [cond_true]; exact ((s.cells _ _ _).drop _).give _
              | false =>
                cases ho2 : owns own2 (.slot q) with
                | true =>
                  simp only [cond_true, cond_false]
                  refine (((s.cells _ _ _).dropR fun hm => owns_no ho ?_)).giveR _
                  exact (List.mem_filter.1 hm).1
                | false => exact s.cells _ _ _
          | _ => exact s.cells _ _ _
        · cases h
      · cases h
    case assign x =>
      unfold core at h ⊢
      simp only at h ⊢
      split at h
      · split at h
        · injection h with h; subst h
          have := pick_up (H := H) (c := true) (l := Loc.slot ‹Tmp›) (x := ‹AV›) s
          simp only [Bool.and_true] at this
          exact ⟨_, rfl, this⟩
        · injection h with h; subst h
          exact ⟨_, rfl, rfl, rfl, s, fun e => e⟩
      · cases h
    case call c =>
      obtain ⟨callee, args, at_⟩ := c
      cases callee with
      | value f =>
        unfold core at h ⊢
        simp only at h ⊢
        split at h
        · exact callA_up hc h s
        · cases h
      | invoke r name =>
        unfold core at h ⊢
        simp only at h ⊢
        split at h
        · split at h
          · exact callA_up hc h s
          · cases h
        · cases h
      | builtin b =>
        cases b
        case append =>
          unfold core at h ⊢
          simp only at h ⊢
          split at h
          · exact append_up h s
          · cases h
        all_goals cases he
    all_goals cases he
theorem coreS_up (hc : CallUp call) {o : Oper} {r : Res} (h : coreS call P ops o env H own = some r) (s : Sub own own2) : ∃ q, coreS call P ops o env H own2 = some q ∧ RLe r q := by
  unfold coreS at h ⊢
  cases he : slElem P o with
  | none => rw [he] at h; exact core_up hc h s
  | some e =>
    rw [he] at h
    obtain ⟨h1, h2⟩ := newSl_own h
    exact ⟨_, h2 own2, rfl, rfl, by rw [h1]; exact s, fun e => e⟩
theorem newAt_up {o : Oper} {id : Nat} {r : Res} (h : newAt P o env H own id = some r) (s : Sub own own2) : ∃ q, newAt P o env H own2 id = some q ∧ RLe r q := by
  unfold newAt at h ⊢
  split at h
  · split at h
    · split at h
      · injection h with h; subst h; exact ⟨_, rfl, rfl, rfl, s, fun e => e⟩
      · cases h
    · split at h
      · split at h
        · rename_i hh
          injection h with h; subst h
          rw [if_pos hh]
          exact ⟨_, rfl, rfl, rfl, s, fun e => e⟩
        · cases h
      · cases h
    · cases h
  · cases h
theorem coreP_up (hc : CallUp call) {pre : Option (Nat × Bool)} {o : Oper} {r : Res} (h : coreP call P pre ops o env H own = some r) (s : Sub own own2) : ∃ q, coreP call P pre ops o env H own2 = some q ∧ RLe r q := by
  cases pre with
  | none => exact coreS_up hc h s
  | some p =>
    obtain ⟨base, lt⟩ := p
    unfold coreP at h ⊢
    simp only at h ⊢
    cases ha : allocOp o with
    | true =>
      rw [ha] at h
      simp only [cond_true] at h ⊢
      split at h
      · split at h
        · exact newAt_up h s
        · cases h
      · cases h
    | false =>
      rw [ha] at h
      simp only [cond_false] at h ⊢
      cases hl : (lt && !(lateOk base o env)) with
      | true => rw [hl] at h; cases h
      | false => rw [hl] at h; exact coreS_up hc h s
theorem put_up {r q : Res} {dst : Option Nat} {st : St} (h : r.put nt env dst = some st) (u : RLe r q) : ∃ st2, q.put nt env dst = some st2 ∧ StLe st st2 := by
  unfold Res.put at h ⊢
  cases dst with
  | none => injection h with h; subst h; exact ⟨_, rfl, rfl, u.H, u.own⟩
  | some d =>
    simp only at h ⊢
    split at h
    · rename_i hd
      injection h with h; subst h
      rw [if_pos hd]
      refine ⟨_, rfl, by simp only [u.val], u.H, ?_⟩
      simp only
      cases hg : r.gives with
      | true => rw [u.gives hg]; exact u.own.give _
      | false =>
        cases q.gives with
        | true =>
          refine fun m hm => ?_
          rw [cond_false, mem_drop] at hm
          rw [cond_true, mem_give]
          exact .inr ⟨u.own m hm.1, hm.2⟩
        | false => exact u.own.drop _
    · cases h
theorem stepW_up (hc : CallUp call) {pre : Option (Nat × Bool)} {o : Oper} {st st2 st1 : St} (h : stepW call P nt pre ops o st = some st1) (u : StLe st st2) : ∃ q, stepW call P nt pre ops o st2 = some q ∧ StLe st1 q := by
  obtain ⟨e2, H2, o2⟩ := st2
  obtain ⟨e1, H1, o1⟩ := st
  obtain ⟨he, hH, ho⟩ := u
  simp only at he hH ho
  subst he hH
  unfold stepW at h ⊢
  simp only at h ⊢
  split at h
  · unfold stepOp at h ⊢
    simp only at h ⊢
    split at h
    · rename_i r hr
      obtain ⟨q, h1, h2⟩ := coreP_up hc hr ho
      rw [h1]
      exact put_up h h2
    · cases h
  · exact put_up h ⟨rfl, rfl, ho, fun e => e⟩
  · cases h
theorem runOps_up (hc : CallUp call) {pre : Option (Nat × Bool)} : ∀ {l : List Oper} {st st2 st1 : St}, runOps call P nt pre ops l st = some st1 → StLe st st2 → ∃ q, runOps call P nt pre ops l st2 = some q ∧ StLe st1 q
  | [], st, st2, st1, h, u => by injection h with h; subst h; exact ⟨_, rfl, u⟩
  | o :: l, st, st2, st1, h, u => by
    unfold runOps at h ⊢
    split at h
    · rename_i s1 hs
      obtain ⟨q, h1, h2⟩ := stepW_up hc hs u
      rw [h1]
      exact runOps_up hc h h2
    · cases h
theorem keep_up {a b : St} (u : StLe a b) (vars : List Nat) : StLe (keep vars a) (keep vars b) := ⟨by simp only [keep, u.env], u.H, u.own.filter _⟩
def ExUp (ex : Code → St → Option (Ex × St)) : Prop := ∀ c st st2 e st1, ex c st = some (e, st1) → StLe st st2 → ∃ q, ex c st2 = some (e, q) ∧ StLe st1 q
theorem exec_up (hc : CallUp call) {self : Code → St → Option (Ex × St)} (hs : ExUp self) (vars : Nat → List Nat) : ExUp (execWith call P vars nt self) := by
  intro c st st2 e st1 h u
  cases c with
  | skip => unfold execWith at h ⊢; injection h with h; injection h with h1 h2; subst h1 h2; exact ⟨_, rfl, u⟩
  | region id ops draw =>
    unfold execWith at h ⊢
    simp only at h ⊢
    split at h
    · rename_i s1 hr
      injection h with h; injection h with h1 h2; subst h1 h2
      cases draw with
      | true =>
        simp only [cond_true] at hr ⊢
        obtain ⟨q, h1, h2⟩ := runOps_up (st2 := { st2 with H := st2.H ++ List.replicate (allocs ops.toList) none }) hc hr ⟨u.env, by simp only [u.H], u.own⟩
        rw [u.H] at h1 ⊢
        rw [h1]
        exact ⟨_, rfl, keep_up h2 _⟩
      | false =>
        simp only [cond_false] at hr ⊢
        obtain ⟨q, h1, h2⟩ := runOps_up hc hr u
        rw [h1]
        exact ⟨_, rfl, keep_up h2 _⟩
    · cases h
  | seq a b =>
    unfold execWith at h ⊢
    simp only at h ⊢
    split at h
    · rename_i s1 hr
      obtain ⟨q, h1, h2⟩ := hs _ _ _ _ _ hr u
      rw [h1]
      exact hs _ _ _ _ _ h h2
    · rename_i hn
      obtain ⟨q, h1, h2⟩ := hs _ _ _ _ _ h u
      rw [h1]
      cases e with
      | normal => exact absurd h (hn _)
      | exit i => exact ⟨_, rfl, h2⟩
      | ret => exact ⟨_, rfl, h2⟩
  | cond c a b =>
    unfold execWith at h ⊢
    simp only [u.env] at h ⊢
    split at h
    · rename_i t _
      cases t with
      | true => exact hs _ _ _ _ _ h u
      | false => exact hs _ _ _ _ _ h u
    · cases h
  | block id c =>
    unfold execWith at h ⊢
    simp only at h ⊢
    split at h
    · rename_i i s1 hr
      obtain ⟨q, h1, h2⟩ := hs _ _ _ _ _ hr u
      rw [h1]
      simp only
      cases hb : Nat.beq i id with
      | true => rw [hb] at h; injection h with h; injection h with h3 h4; subst h3 h4; exact ⟨_, rfl, h2⟩
      | false => rw [hb] at h; injection h with h; injection h with h3 h4; subst h3 h4; exact ⟨_, rfl, h2⟩
    · rename_i hn
      obtain ⟨q, h1, h2⟩ := hs _ _ _ _ _ h u
      rw [h1]
      cases e with
      | normal => exact ⟨_, rfl, h2⟩
      | exit i => exact absurd h (hn _ _)
      | ret => exact ⟨_, rfl, h2⟩
  | loop c =>
    unfold execWith at h ⊢
    simp only at h ⊢
    split at h
    · rename_i s1 hr
      obtain ⟨q, h1, h2⟩ := hs _ _ _ _ _ hr u
      rw [h1]
      exact hs _ _ _ _ _ h h2
    · rename_i hn
      obtain ⟨q, h1, h2⟩ := hs _ _ _ _ _ h u
      rw [h1]
      cases e with
      | normal => exact absurd h (hn _)
      | exit i => exact ⟨_, rfl, h2⟩
      | ret => exact ⟨_, rfl, h2⟩
  | exit id => unfold execWith at h ⊢; injection h with h; injection h with h1 h2; subst h1 h2; exact ⟨_, rfl, u⟩
  | label l => unfold execWith at h ⊢; injection h with h; injection h with h1 h2; subst h1 h2; exact ⟨_, rfl, u⟩
  | ret => unfold execWith at h ⊢; injection h with h; injection h with h1 h2; subst h1 h2; exact ⟨_, rfl, u⟩
  | _ => cases h
theorem results_up {a b : St} (u : StLe a b) (rs : List ResultVar) : resultsA P b rs = resultsA P a rs := by
  have h1 : ∀ r, resultA P b r = resultA P a r := fun r => by cases r <;> simp only [resultA, u.env, u.H]
  have h2 : resultA P b = resultA P a := funext h1
  unfold resultsA
  rw [h2]
def ShortUp (K : Know) : Prop := ∀ f g, K.short f = some g → ∀ args H own own2 x H' own', g args H own = some (x, H', own') → Sub own own2 → ∃ own2', g args H own2 = some (x, H', own2') ∧ Sub own' own2'
theorem all_up (hK : ShortUp K) : ∀ n, CallUp (callN P K n) ∧ ∀ vars nt, ExUp (exec P K n vars nt)
  | 0 => ⟨fun f args H own own2 x H' own' h s => (by cases h), fun vars nt c st st2 e st1 h u => (by cases h)⟩
  | n + 1 => by
    obtain ⟨ih1, ih2⟩ := all_up hK n
    refine ⟨fun f args H own own2 x H' own' h s => ?_, fun vars nt => exec_up ih1 (ih2 vars nt) vars⟩
    unfold callN at h ⊢
    split at h
    · rename_i g hg
      exact hK f g hg args H own own2 x H' own' h s
    · have key : ∀ y, bodyA (exec P K n) P K f args H own = some y → ∃ o2, bodyA (exec P K n) P K f args H own2 = some (y.1, y.2.1, o2) ∧ Sub y.2.2 o2 := by
        intro y hy
        unfold bodyA at hy ⊢
        split at hy
        · split at hy
          · split at hy
            · rename_i hle
              rw [if_pos hle]
              split at hy
              · rename_i st he
                obtain ⟨q, h1, h2⟩ := ih2 _ _ _ _ _ _ _ he (⟨rfl, rfl, s.filter _⟩ : StLe ⟨zipArgs 0 args, H, own.filter Loc.isCell⟩ ⟨zipArgs 0 args, H, own2.filter Loc.isCell⟩)
                rw [h1]
                simp only
                rw [results_up h2, h2.H]
                cases hr : resultsA P st ‹Func›.results.toList with
                | none => rw [hr] at hy; cases hy
                | some v => rw [hr] at hy; injection hy with hy; subst hy; exact ⟨_, rfl, h2.own.filter _⟩
              · rename_i st he
                obtain ⟨q, h1, h2⟩ := ih2 _ _ _ _ _ _ _ he (⟨rfl, rfl, s.filter _⟩ : StLe ⟨zipArgs 0 args, H, own.filter Loc.isCell⟩ ⟨zipArgs 0 args, H, own2.filter Loc.isCell⟩)
                rw [h1]
                simp only
                rw [results_up h2, h2.H]
                cases hr : resultsA P st ‹Func›.results.toList with
                | none => rw [hr] at hy; cases hy
                | some v => rw [hr] at hy; injection hy with hy; subst hy; exact ⟨_, rfl, h2.own.filter _⟩
              · cases hy
            · cases hy
          · cases hy
        · cases hy
      cases hb : bodyA (exec P K n) P K f args H own with
      | none => rw [hb] at h; unfold fzOut at h; cases hz : K.fz f <;> rw [hz] at h <;> cases h
      | some y =>
        obtain ⟨o2, h1, h2⟩ := key y hb
        rw [hb] at h
        rw [h1]
        unfold fzOut at h ⊢
        cases hz : K.fz f with
        | true => rw [hz] at h; simp only [cond_true] at h ⊢; injection h with h; injection h with h3 h4; injection h4 with h4 h5; subst h3 h4 h5; exact ⟨o2, rfl, h2⟩
        | false => rw [hz] at h; simp only [cond_false] at h ⊢; injection h with h; subst h; exact ⟨o2, rfl, h2⟩
/-- A call that was told where no end is owned is told where some are. -/
theorem calls_own (hK : ShortUp K) {f : FuncId} {args : List AV} {H H' : List (Option Blk)} {x : AV} (hf : K.short f = none) (h : CallsA P K f args H [] x H' []) (cells : List (Nat × Nat)) : ∃ cells', CallsA P K f args H cells x H' cells' := by
  obtain ⟨own0', _, N, hN⟩ := h [] (fun l => Iff.rfl)
  have hup := (all_up (P := P) hK N).1
  obtain ⟨o2, h1, _⟩ := hup f args H [] (ownOf [] cells) x H' own0' (hN N (Nat.le_refl _)) (fun l hl => by cases hl)
  have hcell : ∀ (n : Nat) (own o : List Loc), callN P K n f args H own = some (x, H', o) → ∀ l ∈ o, l.isCell = true := by
    intro n own o ho l hl
    cases n with
    | zero => cases ho
    | succ n =>
      unfold callN at ho
      rw [hf] at ho
      simp only at ho
      have key : ∀ y, bodyA (exec P K n) P K f args H own = some y → ∀ l ∈ y.2.2, l.isCell = true := by
        intro y hy l hl
        unfold bodyA at hy
        split at hy
        · split at hy
          · split at hy
            · split at hy
              · obtain ⟨v, _, rfl⟩ := Option.map_eq_some_iff.1 hy
                exact (List.mem_filter.1 hl).2
              · obtain ⟨v, _, rfl⟩ := Option.map_eq_some_iff.1 hy
                exact (List.mem_filter.1 hl).2
              · cases hy
            · cases hy
          · cases hy
        · cases hy
      cases hb : bodyA (exec P K n) P K f args H own with
      | none => rw [hb] at ho; unfold fzOut at ho; cases hz : K.fz f <;> rw [hz] at ho <;> cases ho
      | some y =>
        have hk := key y hb
        rw [hb] at ho
        unfold fzOut at ho
        cases hz : K.fz f with
        | true => rw [hz] at ho; simp only [cond_true] at ho; injection ho with ho; injection ho with h3 h4; injection h4 with h4 h5; subst h5; exact hk l hl
        | false => rw [hz] at ho; simp only [cond_false] at ho; injection ho with ho; subst ho; exact hk l hl
  refine ⟨o2.filterMap fun | .cell i o => some (i, o) | .slot _ => none, fun own hown => ?_⟩
  obtain ⟨o3, h3, h4⟩ := hup f args H (ownOf [] cells) own x H' o2 h1 (fun l hl => (hown l).2 hl)
  obtain ⟨o4, h5, h6⟩ := hup f args H own (ownOf [] cells) x H' o3 h3 (fun l hl => (hown l).1 hl)
  obtain rfl : o2 = o4 := by
    rw [h1] at h5; injection h5 with h5; injection h5 with _ h5; injection h5
  refine ⟨o3, fun l => ?_, N, fun n hn => callN_mono hn h3⟩
  have hl : l ∈ o3 ↔ l ∈ o2 := ⟨h6 l, h4 l⟩
  rw [hl]
  cases l with
  | slot q =>
    rw [slot_ownOf]
    constructor
    · intro hm
      have := hcell N _ _ h1 _ hm
      cases this
    · intro hm
      cases hm
  | cell i o =>
    rw [cell_ownOf, List.mem_filterMap]
    constructor
    · intro hm; exact ⟨_, hm, rfl⟩
    · rintro ⟨l, hm, he⟩
      cases l with
      | slot q => cases he
      | cell i' o' => injection he with he; injection he with e1 e2; subst e1 e2; exact hm
end
end Go.Proofs.Ytnajopkaepjncaa.Am
