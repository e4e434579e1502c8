/- Walks, sixth part: the same with a state's parts handed on one by one, so that they unfold fast. -/
import Derived.Test.YtnajopkaepjncaaAm29
namespace Go.Proofs.Ytnajopkaepjncaa.Am
set_option linter.unusedVariables false

abbrev Env := List (Nat × AV)
abbrev Hp := List (Option Blk)
abbrev Cl := List (Nat × Nat)
abbrev K5 := AV → Hp → List Nat → Cl → Bool → Prop
abbrev K4 := Env → Hp → List Nat → Cl → Prop

def cCall (P : Program) (K : Know) (f : FuncId) (args : List AV) (H : Hp) (slots : List Nat) (cells : Cl) (k : K5) : Prop :=
  hasBody P f = true ∧ ∃ x H' cells', CallsA P K f args H cells x H' cells' ∧ frc x fun x => k x H' slots cells' false
def cAppend (P : Program) (env : Env) (H : Hp) (slots : List Nat) (cells : Cl) (x y : Operand) (ts ty : TypeId) (k : K5) : Prop :=
  wO env x fun a => wO env y fun b =>
  match P.underlying ts with
  | some (.slice e) => match P.info? e, zeroT P e with
    | some i, some z => ∃ ys, tailA P e ts ty b = some ys ∧ (match a with
      | .nils => ys.length * i.bytes ≤ 140737488355328 ∧ ys.length ≤ 140737488355328 ∧ 0 < i.size ∧ z.length = i.size ∧ k (.lst e ys []) H slots cells true
      | .lst e' xs [] => match x with
        | .tmp t => has slots t = true ∧ e' = e ∧ (xs.length + ys.length) * i.bytes ≤ 140737488355328 ∧ xs.length + ys.length ≤ 140737488355328 ∧ 0 < i.size ∧ z.length = i.size ∧ ∃ zs, xs ++ ys = zs ∧ k (.lst e zs []) H (drp slots t) cells true
        | _ => False
      | _ => False)
    | _, _ => False
  | _ => False
def cStored (slots : List Nat) (cells : Cl) (x : Operand) (v : AV) (id off : Nat) (k : List Nat → Cl → Prop) : Prop :=
  wMoved slots x fun sl mv => match mv && v.isOne with
    | true => ∃ cs, (∀ p, p ∈ cs ↔ p = (id, off) ∨ (p ∈ cells ∧ ¬ (p.1 = id ∧ off ≤ p.2 ∧ p.2 < off + v.cells.length))) ∧ k sl cs
    | false => ∃ cs, (∀ p, p ∈ cs ↔ (p ∈ cells ∧ ¬ (p.1 = id ∧ off ≤ p.2 ∧ p.2 < off + v.cells.length))) ∧ k slots cs

def cCore (P : Program) (K : Know) (ops : List Oper) (o : Oper) (env : Env) (H : Hp) (slots : List Nat) (cells : Cl) (k : K5) : Prop :=
  match o.op with
  | .move (.tmp v) => frc (look env v) fun x => match has slots v && appDst ops o.dst with
    | true => k x H (drp slots v) cells true
    | false => k x H slots cells false
  | .load t a => wO env a fun p => match p with
    | .ptr id off => ∃ b, H[id]? = some (some b) ∧ wRd P t off b.cs fun v => (match appDst ops o.dst && (sizeT P t == some 1) && (isAggT P t == some false) with
      | true => ((id, off) ∈ cells ∧ ∃ cs, (∀ p, p ∈ cs ↔ p ∈ cells ∧ p ≠ (id, off)) ∧ k v H slots cs true) ∨ ((id, off) ∉ cells ∧ k v H slots cells false)
      | false => k v H slots cells false)
    | p => wOpt (loadA P H t p) fun v => k v H slots cells false
  | .alloc e => match zeroT P e with
    | some z => ∃ id, H.length = id ∧ ∃ H', H ++ [some ⟨e, z⟩] = H' ∧ k (.ptr id 0) H' slots cells false
    | none => False
  | .box e x => wO env x fun v => 0 < v.cells.length ∧ ∃ id, H.length = id ∧ ∃ H', H ++ [some ⟨e, v.cells⟩] = H' ∧ k (.ptr id 0) H' slots cells false
  | .store t a x => wO env a fun p => wO env x fun v => match p with
    | .ptr id off => match sizeT P t with
      | some n => ∃ b, H[id]? = some (some b) ∧ v.cells.length = n ∧ 0 < n ∧ off + n ≤ b.cs.length ∧ ∃ H', H.set id (some ⟨b.e, splice b.cs off v.cells⟩) = H' ∧ cStored slots cells x v id off fun sl cs => k (.tup []) H' sl cs false
      | none => False
    | _ => False
  | .assign x => wO env x fun v => wMoved slots x fun sl mv => k v H sl cells mv
  | .buildSlice t len parts => match core (fun _ _ _ _ => none) P ops o env [] [] with
    | some r => frcD r.val fun v => k v H slots cells true
    | none => False
  | .makeSlice t len cap => wO env len fun n => wO env cap fun c => match P.underlying t with
    | some (.slice e) => match natA n, natA c, P.info? e, zeroT P e with
      | some n, some c, some i, some z => n ≤ c ∧ c * i.bytes ≤ 140737488355328 ∧ c ≤ 140737488355328 ∧ 0 < i.size ∧ z.length = i.size ∧ (match ofCells P e z with
        | some x => ∃ zs, List.replicate n x = zs ∧ k (.lst e zs []) H slots cells true
        | none => False)
      | _, _, _, _ => False
    | _ => False
  | .convert src dst x => wO env x fun a => ∃ v, core (fun _ _ _ _ => none) P ops o env [] [] = some ⟨v, [], [], false⟩ ∧ k v H slots cells false
  | .call { callee := .value f, args, .. } => wO env f fun fv => match fv with
    | .fn g cap => wL env args.toList fun vs => cCall P K g (vs ++ cap) H slots cells k
    | _ => False
  | .call { callee := .invoke r name, args, .. } => wO env r fun rv => match rv with
    | .iface t v => wL env args.toList fun vs => ∃ f x, methodA P H t v name = some (f, x) ∧ cCall P K f (x :: vs) H slots cells k
    | _ => False
  | .call { callee := .builtin .append, args, argTypes } => match args.toList, argTypes.toList with
    | [x, y], [ts, ty] => cAppend P env H slots cells x y ts ty k
    | _, _ => False
  | op => wPure P env op fun v => k v H slots cells false

def cPut (nt : Nat) (ops : List Oper) (env : Env) (dst : Option Nat) (v : AV) (H : Hp) (slots : List Nat) (cells : Cl) (gives : Bool) (k : K4) : Prop :=
  match dst with
  | none => frcS slots fun sl => k env H sl cells
  | some d => match Nat.blt d nt with
    | true => frc v fun v => match v, gSlot ops d with
      | .bool b, true => frcS (putOwn2 slots gives d) fun sl => (b = true → k ((d, .bool true) :: env) H sl cells) ∧ (b = false → k ((d, .bool false) :: env) H sl cells)
      | v, _ => frcS (putOwn2 slots gives d) fun sl => k ((d, v) :: env) H sl cells
    | false => False
def cNew (P : Program) (o : Oper) (env : Env) (H : Hp) (slots : List Nat) (cells : Cl) (id : Nat) (k : K5) : Prop :=
  H[id]? = some none ∧ match o.op with
    | .alloc e => match zeroT P e with
      | some z => ∃ H', H.set id (some ⟨e, z⟩) = H' ∧ k (.ptr id 0) H' slots cells false
      | none => False
    | .box e x => wO env x fun v => 0 < v.cells.length ∧ ∃ H', H.set id (some ⟨e, v.cells⟩) = H' ∧ k (.ptr id 0) H' slots cells false
    | _ => False
/-- A list that is written into is made. -/
def cSl (P : Program) (e : TypeId) (op : Op) (env : Env) (H : Hp) (slots : List Nat) (cells : Cl) (k : K5) : Prop :=
  match op with
  | .makeSlice t len cap => wO env len fun n => wO env cap fun c => match P.underlying t with
    | some (.slice e') => match natA n, natA c, P.info? e, zeroT P e with
      | some n, some c, some i, some z => e' = e ∧ n ≤ c ∧ c * i.bytes ≤ 140737488355328 ∧ c ≤ 140737488355328 ∧ 0 < i.size ∧ z.length = i.size ∧ ∃ id, H.length = id ∧ ∃ H', H ++ [some ⟨e, rep c z⟩] = H' ∧ k (.sl e id 0 n) H' slots cells false
      | _, _, _, _ => False
    | _ => False
  | .call { callee := .builtin .append, args, argTypes } => match args.toList, argTypes.toList with
    | [x, y], [ts, tx] => wO env x fun a => wO env y fun b => match P.underlying ts with
      | some (.slice e') => match P.info? e, zeroT P e with
        | some i, some z => ∃ ys, tailA P e ts tx b = some ys ∧ (match a with
          | .nils => e' = e ∧ 0 < ys.length ∧ ys.length * i.bytes ≤ 140737488355328 ∧ ys.length ≤ 140737488355328 ∧ 0 < i.size ∧ z.length = i.size ∧ ∃ id, H.length = id ∧ ∃ H', H ++ [some ⟨e, flat ys⟩] = H' ∧ k (.sl e id 0 ys.length) H' slots cells false
          | .sl e'' id off len => ∃ b, H[id]? = some (some b) ∧ e' = e ∧ e'' = e ∧ b.e = e ∧ off = 0 ∧ 0 < b.cs.length ∧ len * i.size ≤ b.cs.length ∧ (len + ys.length) * i.bytes ≤ 140737488355328 ∧ len + ys.length ≤ 140737488355328 ∧ 0 < i.size ∧ z.length = i.size ∧
              ∃ id', H.length = id' ∧ ∃ H', H.set id (some ⟨e, []⟩) ++ [some ⟨e, b.cs.take (len * i.size) ++ flat ys⟩] = H' ∧ ∃ m, len + ys.length = m ∧ k (.sl e id' 0 m) H' slots cells false
          | _ => False)
        | _, _ => False
      | _ => False
    | _, _ => False
  | _ => False
def cCoreP (P : Program) (K : Know) (pre : Option (Nat × Bool)) (ops : List Oper) (o : Oper) (env : Env) (H : Hp) (slots : List Nat) (cells : Cl) (k : K5) : Prop :=
  match pre with
  | none => match slElem P o.dst o.op with
    | some e => cSl P e o.op env H slots cells k
    | none => cCore P K ops o env H slots cells k
  | some (base, lt) => match allocOp o with
    | true => match o.dst with
      | some d => match rank ops d with
        | some q => cNew P o env H slots cells (base + q) k
        | none => False
      | none => False
    | false => match lt with
      | true => lateOk base o env = true ∧ cCore P K ops o env H slots cells k
      | false => cCore P K ops o env H slots cells k
def cStep (P : Program) (K : Know) (nt : Nat) (pre : Option (Nat × Bool)) (ops : List Oper) (o : Oper) (env : Env) (H : Hp) (slots : List Nat) (cells : Cl) (k : K4) : Prop :=
  match wantedA ops env o with
  | some true => cCoreP P K pre ops o env H slots cells fun v H' sl cl g => cPut nt ops env o.dst v H' sl cl g k
  | some false => cPut nt ops env o.dst (.tup []) H slots cells false k
  | none => False
def cOps (P : Program) (K : Know) (nt : Nat) (pre : Option (Nat × Bool)) (ops : List Oper) : List Oper → Env → Hp → List Nat → Cl → K4 → Prop
  | [], env, H, slots, cells, k => k env H slots cells
  | o :: r, env, H, slots, cells, k => cStep P K nt pre ops o env H slots cells fun env' H' sl cl => cOps P K nt pre ops r env' H' sl cl k
def cKept (vars : List Nat) (env : Env) (H : Hp) (slots : List Nat) (cells : Cl) (k : K4) : Prop :=
  wKeep env vars fun l => frcS (slots.filter fun q => vars.any (Nat.beq q)) fun sl => k l H sl cells
/-- A loop that ends in Q. -/
structure L (P : Program) (K : Know) (vars : Nat → List Nat) (nt : Nat) (c : Code) (env : Env) (H : Hp) (slots : List Nat) (cells : Cl) (Q : Ex → K4) : Prop where
  w : W P K vars nt (.loop c) ⟨env, H, slots, cells⟩ fun e s => Q e s.env s.H s.slots s.cells
/-- What a statement asks, so that it ends in Q. -/
def cC (P : Program) (K : Know) (vars : Nat → List Nat) (nt : Nat) : Code → Env → Hp → List Nat → Cl → (Ex → K4) → Prop
  | .skip, env, H, slots, cells, Q => Q .normal env H slots cells
  | .region id ops draw, env, H, slots, cells, Q => match draw with
    | false => cOps P K nt none ops.toList ops.toList env H slots cells fun env' H' sl cl => cKept (vars id) env' H' sl cl (Q .normal)
    | true => match allocs ops.toList with
      | 0 => ∃ b, H.length = b ∧ cOps P K nt (some (b, late ops.toList)) ops.toList ops.toList env H slots cells fun env' H' sl cl => cKept (vars id) env' H' sl cl (Q .normal)
      | m + 1 => ∃ b, H.length = b ∧ ∃ H1, H ++ List.replicate (m + 1) none = H1 ∧ cOps P K nt (some (b, late ops.toList)) ops.toList ops.toList env H1 slots cells fun env' H' sl cl => cKept (vars id) env' H' sl cl (Q .normal)
  | .seq a b, env, H, slots, cells, Q => cC P K vars nt a env H slots cells fun e env' H' sl cl => match e with
    | .normal => cC P K vars nt b env' H' sl cl Q
    | .exit i => Q (.exit i) env' H' sl cl
    | .ret => Q .ret env' H' sl cl
  | .cond c a b, env, H, slots, cells, Q => wO env c fun v => match v with
    | .bool t => (t = true → cC P K vars nt a env H slots cells Q) ∧ (t = false → cC P K vars nt b env H slots cells Q)
    | _ => False
  | .block id c, env, H, slots, cells, Q => cC P K vars nt c env H slots cells fun e env' H' sl cl => match e with
    | .normal => Q .normal env' H' sl cl
    | .exit i => match Nat.beq i id with
      | true => Q .normal env' H' sl cl
      | false => Q (.exit i) env' H' sl cl
    | .ret => Q .ret env' H' sl cl
  | .loop c, env, H, slots, cells, Q => L P K vars nt c env H slots cells Q
  | .exit id, env, H, slots, cells, Q => Q (.exit id) env H slots cells
  | .label _, env, H, slots, cells, Q => Q .normal env H slots cells
  | .ret, env, H, slots, cells, Q => Q .ret env H slots cells
  | _, _, _, _, _, _ => False

section
variable {P : Program} {K : Know} {ops : List Oper} {nt : Nat}

theorem wO_mono {env : Env} {x : Operand} {k k' : AV → Prop} (h : wO env x k) (hk : ∀ v, k v → k' v) : wO env x k' := by
  obtain ⟨v, h1, h2⟩ := wO_to h
  show wOpt _ _
  unfold wOpt
  rw [h1]
  exact (frc_iff _ _).2 (hk v h2)
theorem wL_mono {env : Env} : ∀ {l : List Operand} {k k' : List AV → Prop}, wL env l k → (∀ v, k v → k' v) → wL env l k'
  | [], k, k', h, hk => hk _ h
  | x :: r, k, k', h, hk => wO_mono h fun v h => wL_mono h fun vs h => hk _ h
theorem cCall_to {env : Env} {f : FuncId} {args : List AV} {H : Hp} {slots : List Nat} {cells : Cl} {k : K5} (h : cCall P K f args H slots cells k) : wCall P K f args ⟨env, H, slots, cells⟩ fun r => k r.val r.H r.slots r.cells r.gives := by
  unfold wCall
  rw [h.1]
  exact h.2
theorem cCore_to {o : Oper} {env : Env} {H : Hp} {slots : List Nat} {cells : Cl} {k : K5} (h : cCore P K ops o env H slots cells k) :
    wCore P K ops o ⟨env, H, slots, cells⟩ fun r => k r.val r.H r.slots r.cells r.gives := by
  obtain ⟨dst, op, ty, pos, after, guard⟩ := o
  cases op
  case move x => cases x <;> exact h
  case call c =>
    obtain ⟨callee, args, at_⟩ := c
    cases callee with
    | value f =>
      simp only [cCore] at h
      simp only [wCore]
      refine wO_mono h fun fv h => ?_
      cases fv with
      | fn g cap => exact wL_mono h fun vs h => cCall_to h
      | _ => exact h
    | invoke r name =>
      simp only [cCore] at h
      simp only [wCore]
      refine wO_mono h fun rv h => ?_
      cases rv with
      | iface t v =>
        refine wL_mono h fun vs h => ?_
        obtain ⟨f, x, h1, h2⟩ := h
        exact ⟨f, x, h1, cCall_to h2⟩
      | _ => exact h
    | builtin b => cases b <;> exact h
  all_goals exact h
theorem cPut_to {env : Env} {dst : Option Nat} {v : AV} {H : Hp} {slots : List Nat} {cells : Cl} {g : Bool} {k : K4} (h : cPut nt ops env dst v H slots cells g k) :
    wPut nt ops env dst ⟨v, H, slots, cells, g⟩ fun s => k s.env s.H s.slots s.cells := by
  cases dst with
  | none => exact h
  | some d =>
    unfold cPut at h
    unfold wPut
    simp only at h ⊢
    cases hb : Nat.blt d nt with
    | false => rw [hb] at h; exact h.elim
    | true =>
      rw [hb] at h
      simp only at h ⊢
      rw [frc_iff] at h
      exact h
theorem wCoreP_mono {pre : Option (Nat × Bool)} {o : Oper} {s : S2} {k k' : R2 → Prop} (hk : ∀ r, k r → k' r) (h : ∃ r, k r ∧ CorePTo P K pre ops o s r) : ∃ r, k' r ∧ CorePTo P K pre ops o s r := by
  obtain ⟨r, h1, h2⟩ := h
  exact ⟨r, hk r h1, h2⟩
theorem cCoreP_to {pre : Option (Nat × Bool)} {o : Oper} {env : Env} {H : Hp} {slots : List Nat} {cells : Cl} {k : K5} (h : cCoreP P K pre ops o env H slots cells k) :
    wCoreP P K pre ops o ⟨env, H, slots, cells⟩ fun r => k r.val r.H r.slots r.cells r.gives := by
  rcases pre with _ | ⟨base, lt⟩
  · unfold cCoreP at h
    unfold wCoreP
    simp only at h ⊢
    cases hs : slElem P o.dst o.op with
    | some e => rw [hs] at h; exact h
    | none => rw [hs] at h; exact cCore_to h
  · unfold cCoreP at h
    unfold wCoreP
    simp only at h ⊢
    cases ha : allocOp o with
    | true =>
      rw [ha] at h
      exact h
    | false =>
      rw [ha] at h
      cases lt with
      | true => exact ⟨h.1, cCore_to h.2⟩
      | false => exact cCore_to h
/-- A step, as far as it goes. -/
theorem cStep_to {pre : Option (Nat × Bool)} {o : Oper} {env : Env} {H : Hp} {slots : List Nat} {cells : Cl} {k : K4} (h : cStep P K nt pre ops o env H slots cells k) :
    ∃ s1 : S2, k s1.env s1.H s1.slots s1.cells ∧ StepTo P K nt pre ops o ⟨env, H, slots, cells⟩ s1 := by
  unfold cStep at h
  cases hw : wantedA ops env o with
  | none => rw [hw] at h; exact h.elim
  | some b =>
    rw [hw] at h
    have key : wStep P K nt pre ops o ⟨env, H, slots, cells⟩ (fun s => k s.env s.H s.slots s.cells) → ∃ s1 : S2, k s1.env s1.H s1.slots s1.cells ∧ StepTo P K nt pre ops o ⟨env, H, slots, cells⟩ s1 := fun h => wStep_to h
    cases b with
    | false => exact key (by unfold wStep; simp only [hw]; exact cPut_to h)
    | true =>
      obtain ⟨r, h1, h2⟩ := wCoreP_to (cCoreP_to h)
      obtain ⟨s1, h3, h4⟩ := wPut_to (cPut_to h1)
      refine ⟨s1, h3, fun st hs => ?_⟩
      obtain ⟨own', h5, h6⟩ := h2 st.own hs.own
      obtain ⟨st1, h7, h8⟩ := h4 own' st.env h5 hs.env
      refine ⟨st1, h8, h6.mono fun n hn => ?_⟩
      unfold stepW stepOp
      rw [wanted_env (env' := env) fun q _ => hs.env q, hw]
      simp only
      rw [coreP_env (env' := env) fun q _ => hs.env q, hs.H, hn]
      exact h7
theorem cOps_to {pre : Option (Nat × Bool)} : ∀ {l : List Oper} {env : Env} {H : Hp} {slots : List Nat} {cells : Cl} {k : K4}, cOps P K nt pre ops l env H slots cells k →
    ∃ s1 : S2, k s1.env s1.H s1.slots s1.cells ∧ ∀ st, Sim ⟨env, H, slots, cells⟩ st → ∃ st1, Sim s1 st1 ∧ Ev fun n => runOps (callN P K n) P nt pre ops l st = some st1
  | [], env, H, slots, cells, k, h => ⟨⟨env, H, slots, cells⟩, h, fun st hs => ⟨st, hs, Ev.of fun n => rfl⟩⟩
  | o :: l, env, H, slots, cells, k, h => by
    obtain ⟨s1, h1, h2⟩ := cStep_to h
    obtain ⟨s2, h3, h4⟩ := cOps_to h1
    refine ⟨s2, h3, fun st hs => ?_⟩
    obtain ⟨st1, h5, h6⟩ := h2 st hs
    obtain ⟨st2, h7, h8⟩ := h4 st1 h5
    exact ⟨st2, h7, (h6.both h8).mono fun n hn => by simp only [runOps, hn.1]; exact hn.2⟩
theorem cKept_to {vars : List Nat} {env : Env} {H : Hp} {slots : List Nat} {cells : Cl} {k : K4} (h : cKept vars env H slots cells k) :
    k (vars.map fun s => (s, look env s)) H (slots.filter fun q => vars.any (Nat.beq q)) cells := by
  have h3 := wKeep_to h
  rw [frcS_iff] at h3
  exact h3

theorem cC_to {vars : Nat → List Nat} : ∀ {c : Code} {env : Env} {H : Hp} {slots : List Nat} {cells : Cl} {Q : Ex → K4}, cC P K vars nt c env H slots cells Q → W P K vars nt c ⟨env, H, slots, cells⟩ fun e s => Q e s.env s.H s.slots s.cells := by
  intro c
  induction c with
  | skip => intro env H slots cells Q h; exact wC_to (c := .skip) h
  | region id ops draw =>
    intro env H slots cells Q h
    simp only [cC] at h
    cases draw with
    | false =>
      simp only at h
      obtain ⟨s1, h1, h2⟩ := cOps_to h
      have h3 := cKept_to h1
      refine ⟨.normal, ⟨_, _, _, _⟩, h3, fun st hs => ?_⟩
      obtain ⟨st1, h4, h5⟩ := h2 st hs
      exact ⟨_, sim_keep h4, h5.succ fun n hn => by simp only [exec, execWith, cond_false, hn]⟩
    | true =>
      simp only at h
      have key : ∀ m, m = allocs ops.toList → cOps P K nt (some (H.length, late ops.toList)) ops.toList ops.toList env (H ++ List.replicate m none) slots cells (fun env' H' sl cl => cKept (vars id) env' H' sl cl (Q .normal)) →
          W P K vars nt (.region id ops true) ⟨env, H, slots, cells⟩ fun e s => Q e s.env s.H s.slots s.cells := by
        rintro m rfl h
        obtain ⟨s1, h1, h2⟩ := cOps_to h
        have h3 := cKept_to h1
        refine ⟨.normal, ⟨_, _, _, _⟩, h3, fun st hs => ?_⟩
        obtain ⟨st1, h4, h5⟩ := h2 _ (sim_holes hs (allocs ops.toList))
        refine ⟨_, sim_keep h4, h5.succ fun n hn => ?_⟩
        simp only [exec, execWith, cond_true]
        have e : H = st.H := hs.H.symm
        subst e
        rw [hn]
      cases ha : allocs ops.toList with
      | zero =>
        rw [ha] at h
        obtain ⟨b, rfl, h⟩ := h
        exact key 0 ha.symm (by rw [List.replicate_zero, List.append_nil]; exact h)
      | succ m =>
        rw [ha] at h
        obtain ⟨b, rfl, H1, rfl, h⟩ := h
        exact key (m + 1) ha.symm h
  | seq a b iha ihb =>
    intro env H slots cells Q h
    simp only [cC] at h
    obtain ⟨e, s1, h1, h2⟩ := iha h
    cases e with
    | normal =>
      obtain ⟨e', s2, h3, h4⟩ := ihb h1
      refine ⟨e', s2, h3, fun st hs => ?_⟩
      obtain ⟨st1, h5, h6⟩ := h2 st hs
      obtain ⟨st2, h7, h8⟩ := h4 st1 h5
      exact ⟨st2, h7, (h6.both h8).succ fun n hn => by simp only [exec, execWith, hn.1]; exact hn.2⟩
    | exit i =>
      refine ⟨.exit i, s1, h1, fun st hs => ?_⟩
      obtain ⟨st1, h5, h6⟩ := h2 st hs
      exact ⟨st1, h5, h6.succ fun n hn => by simp only [exec, execWith, hn]⟩
    | ret =>
      refine ⟨.ret, s1, h1, fun st hs => ?_⟩
      obtain ⟨st1, h5, h6⟩ := h2 st hs
      exact ⟨st1, h5, h6.succ fun n hn => by simp only [exec, execWith, hn]⟩
  | cond c a b iha ihb =>
    intro env H slots cells Q h
    simp only [cC] at h
    obtain ⟨v, hv, h⟩ := wO_to h
    have hev : ∀ st, Sim ⟨env, H, slots, cells⟩ st → evalO st.env c = some v := fun st hs => by
      rw [← hv]; exact evalO_env fun q _ => hs.env q
    cases v with
    | bool t =>
      cases t with
      | true =>
        obtain ⟨e, s1, h1, h2⟩ := iha (h.1 rfl)
        refine ⟨e, s1, h1, fun st hs => ?_⟩
        obtain ⟨st1, h5, h6⟩ := h2 st hs
        exact ⟨st1, h5, h6.succ fun n hn => by simp only [exec, execWith, hev st hs, cond_true]; exact hn⟩
      | false =>
        obtain ⟨e, s1, h1, h2⟩ := ihb (h.2 rfl)
        refine ⟨e, s1, h1, fun st hs => ?_⟩
        obtain ⟨st1, h5, h6⟩ := h2 st hs
        exact ⟨st1, h5, h6.succ fun n hn => by simp only [exec, execWith, hev st hs, cond_false]; exact hn⟩
    | _ => exact h.elim
  | block id c ih =>
    intro env H slots cells Q h
    simp only [cC] at h
    obtain ⟨e, s1, h1, h2⟩ := ih h
    cases e with
    | normal =>
      refine ⟨.normal, s1, h1, fun st hs => ?_⟩
      obtain ⟨st1, h5, h6⟩ := h2 st hs
      exact ⟨st1, h5, h6.succ fun n hn => by simp only [exec, execWith, hn]⟩
    | exit i =>
      simp only at h1
      cases hb : Nat.beq i id with
      | true =>
        rw [hb] at h1
        refine ⟨.normal, s1, h1, fun st hs => ?_⟩
        obtain ⟨st1, h5, h6⟩ := h2 st hs
        exact ⟨st1, h5, h6.succ fun n hn => by simp only [exec, execWith, hn, hb, cond_true]⟩
      | false =>
        rw [hb] at h1
        refine ⟨.exit i, s1, h1, fun st hs => ?_⟩
        obtain ⟨st1, h5, h6⟩ := h2 st hs
        exact ⟨st1, h5, h6.succ fun n hn => by simp only [exec, execWith, hn, hb, cond_false]⟩
    | ret =>
      refine ⟨.ret, s1, h1, fun st hs => ?_⟩
      obtain ⟨st1, h5, h6⟩ := h2 st hs
      exact ⟨st1, h5, h6.succ fun n hn => by simp only [exec, execWith, hn]⟩
  | loop c ih => intro env H slots cells Q h; exact L.w h
  | exit id => intro env H slots cells Q h; exact wC_to (c := .exit id) h
  | label id => intro env H slots cells Q h; exact wC_to (c := .label id) h
  | ret => intro env H slots cells Q h; exact wC_to (c := .ret) h
  | _ => intro env H slots cells Q h; exact False.elim h

theorem L_round {vars : Nat → List Nat} {c : Code} {env : Env} {H : Hp} {slots : List Nat} {cells : Cl} {Q : Ex → K4} (h : cC P K vars nt c env H slots cells fun e env' H' sl cl => match e with
    | .normal => L P K vars nt c env' H' sl cl Q
    | .exit i => Q (.exit i) env' H' sl cl
    | .ret => Q .ret env' H' sl cl) : L P K vars nt c env H slots cells Q := by
  refine ⟨W_round (W_mono (cC_to h) ?_)⟩
  intro e s hs
  cases e with
  | normal => exact hs.w
  | exit i => exact hs
  | ret => exact hs
theorem L_mono {vars : Nat → List Nat} {c : Code} {env : Env} {H : Hp} {slots : List Nat} {cells : Cl} {Q Q' : Ex → K4} (h : L P K vars nt c env H slots cells Q) (k : ∀ e env' H' sl cl, Q e env' H' sl cl → Q' e env' H' sl cl) : L P K vars nt c env H slots cells Q' :=
  ⟨W_mono h.w fun e s hs => k _ _ _ _ _ hs⟩
/-- A call, by its body. -/
theorem calls_by {f : FuncId} {fn : Func} {c : Code} (hf : P.funcs[f]? = some fn) (hb : fn.body = some c) (hK : K.short f = none) {args : List AV} {H : Hp} {cells : Cl} {x : AV} {H' : Hp} {cells' : Cl}
    (hlen : Nat.ble args.length fn.ntmps = true) (h : cC P K (K.vars f) fn.ntmps c (zipArgs 0 args) H [] cells fun e env' H1 sl cl => match e with
      | .exit _ => False
      | _ => resA2 P ⟨env', H1, [], []⟩ fn.results.toList = some x ∧ H1 = H' ∧ cl = cells') :
    CallsA P K f args H cells x H' cells' := by
  obtain ⟨e, s, h1, h3⟩ := cC_to h
  have h2 : (match e with | .exit _ => False | _ => True) ∧ resA2 P ⟨s.env, s.H, [], []⟩ fn.results.toList = some x ∧ s.H = H' ∧ s.cells = cells' := by
    cases e with
    | normal => exact ⟨trivial, h1⟩
    | exit i => exact h1.elim
    | ret => exact ⟨trivial, h1⟩
  obtain ⟨h4, h5, rfl, rfl⟩ := h2
  intro own hown
  have hs : Sim ⟨zipArgs 0 args, H, [], cells⟩ ⟨zipArgs 0 args, H, own.filter Loc.isCell⟩ := by
    refine ⟨fun _ => rfl, rfl, fun l => ?_⟩
    show l ∈ own.filter _ ↔ _
    rw [List.mem_filter, hown]
    cases l with
    | slot q => rw [slot_ownOf]; simp
    | cell i o => simp [Loc.isCell]
  obtain ⟨st', h6, h7⟩ := h3 _ hs
  refine ⟨st'.own.filter Loc.isCell, ?_, h7.succ fun n hn => ?_⟩
  · intro l
    rw [List.mem_filter, h6.own]
    cases l with
    | slot q => rw [slot_ownOf, slot_ownOf]; simp [Loc.isCell]
    | cell i o => rw [cell_ownOf, cell_ownOf]; simp [Loc.isCell]
  · have hr : resultsA P st' fn.results.toList = some x := by rw [resA_sim h6]; exact h5
    have hle : args.length ≤ fn.ntmps := Nat.ble_eq.mp hlen
    simp only [callN, hK, bodyA, hf, hb, if_pos hle, hn]
    cases e with
    | normal => simp only [hr, Option.map_some, h6.H]
    | ret => simp only [hr, Option.map_some, h6.H]
    | exit i => exact h4.elim

/-- A call, by its body: what it answers is told by what the body ends in. -/
theorem calls_post {f : FuncId} {fn : Func} {c : Code} (hf : P.funcs[f]? = some fn) (hb : fn.body = some c) (hK : K.short f = none) {args : List AV} {H : Hp} {cells : Cl} {R : AV → Hp → Cl → Prop}
    (hlen : Nat.ble args.length fn.ntmps = true) (h : cC P K (K.vars f) fn.ntmps c (zipArgs 0 args) H [] cells fun e env' H1 sl cl => match e with
      | .exit _ => False
      | _ => ∃ x, resA2 P ⟨env', H1, [], []⟩ fn.results.toList = some x ∧ R x H1 cl) :
    ∃ x H' cells', R x H' cells' ∧ CallsA P K f args H cells x H' cells' := by
  obtain ⟨e, s, h1, h3⟩ := cC_to h
  have h2 : ∃ x, (match e with | .exit _ => False | _ => True) ∧ resA2 P ⟨s.env, s.H, [], []⟩ fn.results.toList = some x ∧ R x s.H s.cells := by
    cases e with
    | normal => obtain ⟨x, h1⟩ := h1; exact ⟨x, trivial, h1⟩
    | exit i => exact h1.elim
    | ret => obtain ⟨x, h1⟩ := h1; exact ⟨x, trivial, h1⟩
  obtain ⟨x, h4, h5, h6⟩ := h2
  refine ⟨x, s.H, s.cells, h6, ?_⟩
  intro own hown
  have hs : Sim ⟨zipArgs 0 args, H, [], cells⟩ ⟨zipArgs 0 args, H, own.filter Loc.isCell⟩ := by
    refine ⟨fun _ => rfl, rfl, fun l => ?_⟩
    show l ∈ own.filter _ ↔ _
    rw [List.mem_filter, hown]
    cases l with
    | slot q => rw [slot_ownOf]; simp
    | cell i o => simp [Loc.isCell]
  obtain ⟨st', h6, h7⟩ := h3 _ hs
  refine ⟨st'.own.filter Loc.isCell, ?_, h7.succ fun n hn => ?_⟩
  · intro l
    rw [List.mem_filter, h6.own]
    cases l with
    | slot q => rw [slot_ownOf, slot_ownOf]; simp [Loc.isCell]
    | cell i o => rw [cell_ownOf, cell_ownOf]; simp [Loc.isCell]
  · have hr : resultsA P st' fn.results.toList = some x := by rw [resA_sim h6]; exact h5
    have hle : args.length ≤ fn.ntmps := Nat.ble_eq.mp hlen
    simp only [callN, hK, bodyA, hf, hb, if_pos hle, hn]
    cases e with
    | normal => simp only [hr, Option.map_some, h6.H]
    | ret => simp only [hr, Option.map_some, h6.H]
    | exit i => exact h4.elim
/-- A call that only makes memory, and answers something of this kind. -/
def GivesR (P : Program) (K : Know) (f : FuncId) (args : List AV) (R : AV → Prop) : Prop := ∀ H cells, ∃ x E, R x ∧ CallsA P K f args H cells x (H ++ E) cells
theorem gives_by {f : FuncId} {fn : Func} {c : Code} (hf : P.funcs[f]? = some fn) (hb : fn.body = some c) (hK : K.short f = none) {args : List AV} {R : AV → Prop}
    (hlen : Nat.ble args.length fn.ntmps = true) (h : ∀ H cells, cC P K (K.vars f) fn.ntmps c (zipArgs 0 args) H [] cells fun e env' H1 sl cl => match e with
      | .exit _ => False
      | _ => ∃ x, resA2 P ⟨env', H1, [], []⟩ fn.results.toList = some x ∧ R x ∧ More H H1 ∧ cl = cells) : GivesR P K f args R := by
  intro H cells
  obtain ⟨x, H', cells', ⟨h1, ⟨E, rfl⟩, rfl⟩, h2⟩ := calls_post (R := fun x H1 cl => R x ∧ More H H1 ∧ cl = cells) hf hb hK hlen (h H cells)
  exact ⟨x, E, h1, h2⟩
theorem GivesR.one {f : FuncId} {args : List AV} {x : AV} (h : GivesR P K f args fun y => y = x) : Gives P K f args x := by
  intro H cells
  obtain ⟨y, E, hy, h1⟩ := h H cells
  subst hy
  exact ⟨E, h1⟩

end
end Go.Proofs.Ytnajopkaepjncaa.Am
