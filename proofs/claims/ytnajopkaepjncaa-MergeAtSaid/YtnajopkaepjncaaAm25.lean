/- Walks, first part: what an operation asks, as a proposition that unfolds step by step. Definitions alone. -/
import Derived.Test.YtnajopkaepjncaaAm24
namespace Go.Proofs.Ytnajopkaepjncaa.Am
set_option linter.unusedVariables false

/-- A state, with the owned slots and the owned cells apart. -/
structure S2 where
  env : List (Nat × AV)
  H : List (Option Blk)
  slots : List Nat
  cells : List (Nat × Nat)
structure R2 where
  val : AV
  H : List (Option Blk)
  slots : List Nat
  cells : List (Nat × Nat)
  gives : Bool

def ownOf (slots : List Nat) (cells : List (Nat × Nat)) : List Loc := slots.map Loc.slot ++ cells.map fun p => Loc.cell p.1 p.2
def has (slots : List Nat) (s : Nat) : Bool := slots.any (Nat.beq s)
def drp (slots : List Nat) (s : Nat) : List Nat := slots.filter fun q => !(Nat.beq s q)

/-- A value is looked at. -/
def frc (v : AV) (k : AV → Prop) : Prop :=
  match v with
  | .undef => k .undef
  | .bool b => k (.bool b)
  | .int a b => k (.int a b)
  | .str s => k (.str s)
  | .agg cs => k (.agg cs)
  | .tup cs => k (.tup cs)
  | .nils => k .nils
  | .lst e xs sp => k (.lst e xs sp)
  | .sl e i o l => k (.sl e i o l)
  | .nilp => k .nilp
  | .ptr i o => k (.ptr i o)
  | .ept cs o => k (.ept cs o)
  | .nilfn => k .nilfn
  | .fn f c => k (.fn f c)
  | .nili => k .nili
  | .iface t v => k (.iface t v)
  | .nilm => k .nilm
  | .map i => k (.map i)
/-- A list that stands written out is looked at, end to end. -/
def frcS : List Nat → (List Nat → Prop) → Prop
  | [], k => k []
  | a :: r, k => frcS r fun r' => k (a :: r')
def frcL : List AV → (List AV → Prop) → Prop
  | [], k => k []
  | a :: r, k => frc a fun a' => frcL r fun r' => k (a' :: r')
/-- Its parts, too. -/
def frcA (v : AV) (k : AV → Prop) : Prop :=
  match v with
  | .agg cs => frcL cs fun cs => k (.agg cs)
  | v => frc v k
def frcM : List AV → (List AV → Prop) → Prop
  | [], k => k []
  | a :: r, k => frcA a fun a' => frcM r fun r' => k (a' :: r')
def frcD (v : AV) (k : AV → Prop) : Prop :=
  match v with
  | .agg cs => frcL cs fun cs => k (.agg cs)
  | .lst e xs sp => frcM xs fun xs => k (.lst e xs sp)
  | v => frc v k
def wOpt (x : Option AV) (k : AV → Prop) : Prop :=
  match x with
  | some v => frc v k
  | none => False
def wO (env : List (Nat × AV)) (x : Operand) (k : AV → Prop) : Prop := wOpt (evalO env x) k
def wL (env : List (Nat × AV)) : List Operand → (List AV → Prop) → Prop
  | [], k => k []
  | x :: r, k => wO env x fun v => wL env r fun vs => k (v :: vs)
def wOptO (env : List (Nat × AV)) (x : Option Operand) (k : Option AV → Prop) : Prop :=
  match x with
  | none => k none
  | some x => wO env x fun v => k (some v)

def isArith : BinOp → Bool
  | .add => true
  | .sub => true
  | .mul => true
  | .quo => true
  | .rem => true
  | .and => true
  | .or => true
  | .xor => true
  | .andNot => true
  | .shl => true
  | .shr => true
  | _ => false
def wBin (P : Program) (op : BinOp) (t : TypeId) (x y : Operand) (a b : AV) (k : AV → Prop) : Prop :=
  match a, b with
  | .int _ _, .int _ _ => match isArith op with
    | true => ∃ v, binOpA P op t x y a b = some v ∧ k v
    | false => wOpt (binOpA P op t x y a b) k
  | .str _, .str _ => match isArith op with
    | true => ∃ v, binOpA P op t x y a b = some v ∧ k v
    | false => wOpt (binOpA P op t x y a b) k
  | _, _ => ∃ v, binOpA P op t x y a b = some v ∧ k v
def wIdxA (P : Program) (t : TypeId) (x i : AV) (k : AV → Prop) : Prop :=
  match P.underlying t, i, x with
  | some (.slice elem), .int _ n, .lst e xs _ => match Nat.beq e elem with
    | true => 0 ≤ n ∧ ∃ v, xs[n.toNat]? = some v ∧ k (.ept v.cells 0)
    | false => False
  | _, _, _ => ∃ v, indexAddrA P t x i = some v ∧ k v

/-- 'buildA', by lists. -/
def buildB (P : Program) (t : TypeId) (parts : List (Nat × AV)) : Option AV :=
  match zeroT P t, P.underlying t with
  | some z, some (.struct fields) => match fields.toList.all fun f => (sizeT P f.type).isSome with
    | true => (fillA (places P fields) z parts).map .agg
    | false => none
  | some z, some (.array _ elem) => match sizeT P elem with
    | some size => (fillA (fun i => some (i * size, size)) z parts).map .agg
    | none => none
  | _, _ => none
theorem buildB_eq (P : Program) (t : TypeId) (parts : List (Nat × AV)) : buildB P t parts = buildA P t parts := by
  unfold buildB buildA
  cases zeroT P t with
  | none => rfl
  | some z =>
    cases P.underlying t with
    | none => rfl
    | some d =>
      cases d with
      | struct fields =>
        simp only
        rw [Array.all_toList]
        cases fields.all fun f => (sizeT P f.type).isSome <;> rfl
      | array n elem => simp only; cases sizeT P elem <;> rfl
      | _ => rfl
def wPure (P : Program) (env : List (Nat × AV)) (op : Op) (k : AV → Prop) : Prop :=
  match op with
  | .binOp op t x y _ => wO env x fun a => wO env y fun b => wBin P op t x y a b k
  | .unOp op _ x => wO env x fun a => match a with
    | .int _ _ => ∃ v, unOpA op a = some v ∧ k v
    | _ => wOpt (unOpA op a) k
  | .indexAddr t x i => wO env x fun a => wO env i fun b => wIdxA P t a b k
  | .index t x i => wO env x fun a => wO env i fun b => ∃ v, indexA P t a b = some v ∧ k v
  | .build t parts => match evalParts env parts.toList with
    | some ps => match buildB P t ps with
      | some v => frcD v k
      | none => False
    | none => False
  | .slice t x lo hi mx => wO env x fun a => wOptO env lo fun l => wOptO env hi fun h => wOptO env mx fun m => ∃ v, sliceA P t a l h m = some v ∧ k v
  | op => wOpt (pureOp P env op) k

/-- What is known of a call, whatever the fuel, from some on. -/
def Ev (p : Nat → Prop) : Prop := ∃ N, ∀ n, N ≤ n → p n
def SetEq (own own' : List Loc) : Prop := ∀ l, l ∈ own ↔ l ∈ own'
def CallsA (P : Program) (K : Know) (f : FuncId) (args : List AV) (H : List (Option Blk)) (cells : List (Nat × Nat)) (x : AV) (H' : List (Option Blk)) (cells' : List (Nat × Nat)) : Prop :=
  ∀ own, SetEq own (ownOf [] cells) → ∃ own', SetEq own' (ownOf [] cells') ∧ Ev fun n => callN P K n f args H own = some (x, H', own')

def wCall (P : Program) (K : Know) (f : FuncId) (args : List AV) (s : S2) (k : R2 → Prop) : Prop :=
  match hasBody P f with
  | true => ∃ x H' cells', CallsA P K f args s.H s.cells x H' cells' ∧ frc x fun x => k ⟨x, H', s.slots, cells', false⟩
  | false => False
def wMoved (slots : List Nat) (x : Operand) (k : List Nat → Bool → Prop) : Prop :=
  match x with
  | .tmp v => match has slots v with
    | true => k (drp slots v) true
    | false => k slots false
  | _ => k slots false
def wAppend (P : Program) (s : S2) (x y : Operand) (ts ty : TypeId) (k : R2 → Prop) : Prop :=
  wO s.env x fun a => wO s.env y fun b =>
  match P.underlying ts with
  | some (.slice e) => match P.info? e, zeroT P e with
    | some i, some z => ∃ ys, tailA P e ts ty b = some ys ∧ (match a with
      | .nils => ys.length * i.bytes ≤ 140737488355328 ∧ ys.length ≤ 140737488355328 ∧ 0 < i.size ∧ z.length = i.size ∧ k ⟨.lst e ys [], s.H, s.slots, s.cells, true⟩
      | .lst e' xs [] => match x with
        | .tmp t => has s.slots t = true ∧ e' = e ∧ (xs.length + ys.length) * i.bytes ≤ 140737488355328 ∧ xs.length + ys.length ≤ 140737488355328 ∧ 0 < i.size ∧ z.length = i.size ∧ ∃ zs, xs ++ ys = zs ∧ k ⟨.lst e zs [], s.H, drp s.slots t, s.cells, true⟩
        | _ => False
      | _ => False)
    | _, _ => False
  | _ => False
def wStored (s : S2) (x : Operand) (v : AV) (id off : Nat) (k : List Nat → List (Nat × Nat) → Prop) : Prop :=
  wMoved s.slots x fun sl mv => match mv && v.isOne with
    | true => ∃ cs, (∀ p, p ∈ cs ↔ p = (id, off) ∨ (p ∈ s.cells ∧ ¬ (p.1 = id ∧ off ≤ p.2 ∧ p.2 < off + v.cells.length))) ∧ k sl cs
    | false => ∃ cs, (∀ p, p ∈ cs ↔ (p ∈ s.cells ∧ ¬ (p.1 = id ∧ off ≤ p.2 ∧ p.2 < off + v.cells.length))) ∧ k s.slots cs

/-- A piece of a block, read. -/
def wRd (P : Program) (t : TypeId) (off : Nat) (cs : List AV) (k : AV → Prop) : Prop :=
  match sizeT P t with
  | some n => match Nat.ble (off + n) cs.length with
    | true => wOpt (ofCells P t ((cs.drop off).take n)) k
    | false => False
  | none => False
def wCore (P : Program) (K : Know) (ops : List Oper) (o : Oper) (s : S2) (k : R2 → Prop) : Prop :=
  match o.op with
  | .move (.tmp v) => frc (look s.env v) fun x => match has s.slots v && appDst ops o.dst with
    | true => k ⟨x, s.H, drp s.slots v, s.cells, true⟩
    | false => k ⟨x, s.H, s.slots, s.cells, false⟩
  | .load t a => wO s.env a fun p => match p with
    | .ptr id off => ∃ b, s.H[id]? = some (some b) ∧ wRd P t off b.cs fun v => (match appDst ops o.dst && (sizeT P t == some 1) && (isAggT P t == some false) with
      | true => ((id, off) ∈ s.cells ∧ ∃ cs, (∀ p, p ∈ cs ↔ p ∈ s.cells ∧ p ≠ (id, off)) ∧ k ⟨v, s.H, s.slots, cs, true⟩) ∨ ((id, off) ∉ s.cells ∧ k ⟨v, s.H, s.slots, s.cells, false⟩)
      | false => k ⟨v, s.H, s.slots, s.cells, false⟩)
    | p => wOpt (loadA P s.H t p) fun v => k ⟨v, s.H, s.slots, s.cells, false⟩
  | .alloc e => match zeroT P e with
    | some z => ∃ id, s.H.length = id ∧ ∃ H', s.H ++ [some ⟨e, z⟩] = H' ∧ k ⟨.ptr id 0, H', s.slots, s.cells, false⟩
    | none => False
  | .box e x => wO s.env x fun v => 0 < v.cells.length ∧ ∃ id, s.H.length = id ∧ ∃ H', s.H ++ [some ⟨e, v.cells⟩] = H' ∧ k ⟨.ptr id 0, H', s.slots, s.cells, false⟩
  | .store t a x => wO s.env a fun p => wO s.env x fun v => match p with
    | .ptr id off => match sizeT P t with
      | some n => ∃ b, s.H[id]? = some (some b) ∧ v.cells.length = n ∧ 0 < n ∧ off + n ≤ b.cs.length ∧ ∃ H', s.H.set id (some ⟨b.e, splice b.cs off v.cells⟩) = H' ∧ wStored s x v id off fun sl cs => k ⟨.tup [], H', sl, cs, false⟩
      | none => False
    | _ => False
  | .assign x => wO s.env x fun v => wMoved s.slots x fun sl mv => k ⟨v, s.H, sl, s.cells, mv⟩
  | .buildSlice t len parts => match core (fun _ _ _ _ => none) P ops o s.env [] [] with
    | some r => frcD r.val fun v => k ⟨v, s.H, s.slots, s.cells, true⟩
    | none => False
  | .makeSlice t len cap => wO s.env len fun n => wO s.env cap fun c => match P.underlying t with
    | some (.slice e) => match natA n, natA c, P.info? e, zeroT P e with
      | some n, some c, some i, some z => n ≤ c ∧ c * i.bytes ≤ 140737488355328 ∧ c ≤ 140737488355328 ∧ 0 < i.size ∧ z.length = i.size ∧ (match ofCells P e z with
        | some x => ∃ zs, List.replicate n x = zs ∧ k ⟨.lst e zs [], s.H, s.slots, s.cells, true⟩
        | none => False)
      | _, _, _, _ => False
    | _ => False
  | .convert src dst x => wO s.env x fun a => ∃ v, core (fun _ _ _ _ => none) P ops o s.env [] [] = some ⟨v, [], [], false⟩ ∧ k ⟨v, s.H, s.slots, s.cells, false⟩
  | .call { callee := .value f, args, .. } => wO s.env f fun fv => match fv with
    | .fn g cap => wL s.env args.toList fun vs => wCall P K g (vs ++ cap) s k
    | _ => False
  | .call { callee := .invoke r name, args, .. } => wO s.env r fun rv => match rv with
    | .iface t v => wL s.env args.toList fun vs => ∃ f x, methodA P s.H t v name = some (f, x) ∧ wCall P K f (x :: vs) s k
    | _ => False
  | .call { callee := .builtin .append, args, argTypes } => match args.toList, argTypes.toList with
    | [x, y], [ts, ty] => wAppend P s x y ts ty k
    | _, _ => False
  | op => wPure P s.env op fun v => k ⟨v, s.H, s.slots, s.cells, false⟩

def gSlot (ops : List Oper) (d : Nat) : Bool := ops.any fun o => match o.guard with
  | some (j, _) => match ops[j]? with
    | some p => p.dst == some d
    | none => false
  | none => false
def putOwn2 (slots : List Nat) (gives : Bool) (d : Nat) : List Nat :=
  match gives with
  | true => d :: drp slots d
  | false => drp slots d
/-- The value is put; where a guard asks for it, it is told which it is. -/
def wPut (nt : Nat) (ops : List Oper) (env : List (Nat × AV)) (dst : Option Nat) (r : R2) (k : S2 → Prop) : Prop :=
  match dst with
  | none => frcS r.slots fun sl => k ⟨env, r.H, sl, r.cells⟩
  | some d => match Nat.blt d nt with
    | true => match r.val, gSlot ops d with
      | .bool b, true => frcS (putOwn2 r.slots r.gives d) fun sl => (b = true → k ⟨(d, .bool true) :: env, r.H, sl, r.cells⟩) ∧ (b = false → k ⟨(d, .bool false) :: env, r.H, sl, r.cells⟩)
      | v, _ => frcS (putOwn2 r.slots r.gives d) fun sl => k ⟨(d, v) :: env, r.H, sl, r.cells⟩
    | false => False
def wNew (P : Program) (o : Oper) (s : S2) (id : Nat) (k : R2 → Prop) : Prop :=
  s.H[id]? = some none ∧ match o.op with
    | .alloc e => match zeroT P e with
      | some z => ∃ H', s.H.set id (some ⟨e, z⟩) = H' ∧ k ⟨.ptr id 0, H', s.slots, s.cells, false⟩
      | none => False
    | .box e x => wO s.env x fun v => 0 < v.cells.length ∧ ∃ H', s.H.set id (some ⟨e, v.cells⟩) = H' ∧ k ⟨.ptr id 0, H', s.slots, s.cells, false⟩
    | _ => False
/-- A list that is written into is made. -/
def wSl (P : Program) (e : TypeId) (op : Op) (s : S2) (k : R2 → Prop) : Prop :=
  match op with
  | .makeSlice t len cap => wO s.env len fun n => wO s.env cap fun c => match P.underlying t with
    | some (.slice e') => match natA n, natA c, P.info? e, zeroT P e with
      | some n, some c, some i, some z => e' = e ∧ n ≤ c ∧ c * i.bytes ≤ 140737488355328 ∧ c ≤ 140737488355328 ∧ 0 < i.size ∧ z.length = i.size ∧ ∃ id, s.H.length = id ∧ ∃ H', s.H ++ [some ⟨e, rep c z⟩] = H' ∧ k ⟨.sl e id 0 n, H', s.slots, s.cells, false⟩
      | _, _, _, _ => False
    | _ => False
  | .call { callee := .builtin .append, args, argTypes } => match args.toList, argTypes.toList with
    | [x, y], [ts, tx] => wO s.env x fun a => wO s.env y fun b => match P.underlying ts with
      | some (.slice e') => match P.info? e, zeroT P e with
        | some i, some z => ∃ ys, tailA P e ts tx b = some ys ∧ (match a with
          | .nils => e' = e ∧ 0 < ys.length ∧ ys.length * i.bytes ≤ 140737488355328 ∧ ys.length ≤ 140737488355328 ∧ 0 < i.size ∧ z.length = i.size ∧ ∃ id, s.H.length = id ∧ ∃ H', s.H ++ [some ⟨e, flat ys⟩] = H' ∧ k ⟨.sl e id 0 ys.length, H', s.slots, s.cells, false⟩
          | .sl e'' id off len => ∃ b, s.H[id]? = some (some b) ∧ e' = e ∧ e'' = e ∧ b.e = e ∧ off = 0 ∧ 0 < b.cs.length ∧ len * i.size ≤ b.cs.length ∧ (len + ys.length) * i.bytes ≤ 140737488355328 ∧ len + ys.length ≤ 140737488355328 ∧ 0 < i.size ∧ z.length = i.size ∧
              ∃ id', s.H.length = id' ∧ ∃ H', s.H.set id (some ⟨e, []⟩) ++ [some ⟨e, b.cs.take (len * i.size) ++ flat ys⟩] = H' ∧ ∃ m, len + ys.length = m ∧ k ⟨.sl e id' 0 m, H', s.slots, s.cells, false⟩
          | _ => False)
        | _, _ => False
      | _ => False
    | _, _ => False
  | _ => False
def wCoreP (P : Program) (K : Know) (pre : Option (Nat × Bool)) (ops : List Oper) (o : Oper) (s : S2) (k : R2 → Prop) : Prop :=
  match pre with
  | none => match slElem P o.dst o.op with
    | some e => wSl P e o.op s k
    | none => wCore P K ops o s k
  | some (base, lt) => match allocOp o with
    | true => match o.dst with
      | some d => match rank ops d with
        | some q => wNew P o s (base + q) k
        | none => False
      | none => False
    | false => match lt with
      | true => lateOk base o s.env = true ∧ wCore P K ops o s k
      | false => wCore P K ops o s k
def wStep (P : Program) (K : Know) (nt : Nat) (pre : Option (Nat × Bool)) (ops : List Oper) (o : Oper) (s : S2) (k : S2 → Prop) : Prop :=
  match wantedA ops s.env o with
  | some true => wCoreP P K pre ops o s fun r => wPut nt ops s.env o.dst r k
  | some false => wPut nt ops s.env o.dst ⟨.tup [], s.H, s.slots, s.cells, false⟩ k
  | none => False
def wOps (P : Program) (K : Know) (nt : Nat) (pre : Option (Nat × Bool)) (ops : List Oper) : List Oper → S2 → (S2 → Prop) → Prop
  | [], s, k => k s
  | o :: r, s, k => wStep P K nt pre ops o s fun s1 => wOps P K nt pre ops r s1 k
def wKeep (env : List (Nat × AV)) : List Nat → (List (Nat × AV) → Prop) → Prop
  | [], k => k []
  | v :: r, k => frc (look env v) fun x => wKeep env r fun l => k ((v, x) :: l)
def wKept (vars : List Nat) (s : S2) (k : S2 → Prop) : Prop := wKeep s.env vars fun l => frcS (s.slots.filter fun q => vars.any (Nat.beq q)) fun sl => k ⟨l, s.H, sl, s.cells⟩

/-- The relation that the machine's states stand in. -/
structure Sim (s : S2) (st : St) : Prop where
  env : ∀ k, look st.env k = look s.env k
  H : st.H = s.H
  own : SetEq st.own (ownOf s.slots s.cells)

def W (P : Program) (K : Know) (vars : Nat → List Nat) (nt : Nat) (c : Code) (s : S2) (Q : Ex → S2 → Prop) : Prop :=
  ∃ e s', Q e s' ∧ ∀ st, Sim s st → ∃ st', Sim s' st' ∧ Ev fun n => exec P K n vars nt c st = some (e, st')

def wC (P : Program) (K : Know) (vars : Nat → List Nat) (nt : Nat) : Code → S2 → (Ex → S2 → Prop) → Prop
  | .skip, s, Q => Q .normal s
  | .region id ops draw, s, Q => match draw with
    | false => wOps P K nt none ops.toList ops.toList s fun s1 => wKept (vars id) s1 (Q .normal)
    | true => ∃ b, s.H.length = b ∧ ∃ H', s.H ++ List.replicate (allocs ops.toList) none = H' ∧ wOps P K nt (some (b, late ops.toList)) ops.toList ops.toList { s with H := H' } fun s1 => wKept (vars id) s1 (Q .normal)
  | .seq a b, s, Q => wC P K vars nt a s fun e s1 => match e with
    | .normal => wC P K vars nt b s1 Q
    | .exit i => Q (.exit i) s1
    | .ret => Q .ret s1
  | .cond c a b, s, Q => wO s.env c fun v => match v with
    | .bool t => (t = true → wC P K vars nt a s Q) ∧ (t = false → wC P K vars nt b s Q)
    | _ => False
  | .block id c, s, Q => wC P K vars nt c s fun e s1 => match e with
    | .normal => Q .normal s1
    | .exit i => match Nat.beq i id with
      | true => Q .normal s1
      | false => Q (.exit i) s1
    | .ret => Q .ret s1
  | .loop c, s, Q => W P K vars nt (.loop c) s Q
  | .exit id, s, Q => Q (.exit id) s
  | .label _, s, Q => Q .normal s
  | .ret, s, Q => Q .ret s
  | _, _, _ => False

end Go.Proofs.Ytnajopkaepjncaa.Am
